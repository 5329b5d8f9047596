/- Texts of a claim, in one: part 9. -/
import Derived.Test.YtodamlihdkalfaaGreatDoorKSh
set_option linter.unusedSimpArgs false
set_option linter.unusedVariables false
namespace Go.PM
section
variable {H:aA} {b g o i lo d:Nat} {L R:List VV} {low:List Nat}
theorem Yt (hr:aP H b g=some (L++low.map tV++R,1,true)) (ho:L.length=o) (hi:low[i]? = some d):dN false 1 (.ptr b g (o+i) 0) H=some (VI (d:Int)):=by
 have bD:=(List.getElem?_eq_some_iff.1 hi).1
 rw[Oq hr (x:=tV d) (by rw[NO ho (by simpa using bD)];simp[hi])]
 rfl
theorem YL (hr:aP H b g=some (L++low.map tV++R,1,true)) (ho:L.length=o) (hi:i<low.length) (iC:lo≤b):cR lo 1 (.ptr b g (o+i) 0) (VI (d:Int)) H=some (H.set b (.row g (L++(low.set i d).map tV++R) 1 true)):=by
 rw[gA hr (by simp only[List.length_append,List.length_map];omega) iC rfl rfl,TB ho (by simpa using hi),List.map_set]
theorem To {n:Nat} {z:Int} (hr:aP H b g=some (L++low.map tV++VI z::R,1,true)) (ho:L.length=o) (hn:low.length=n):dN false 1 (.ptr b g (o+n) 0) H=some (VI z):=by
 rw[Oq hr (x:=VI z) (by rw[List.getElem?_append_right (by simp;omega)];simp[ho,hn])]
 rfl
theorem YS {n:Nat} {z z':Int} (hr:aP H b g=some (L++low.map tV++VI z::R,1,true)) (ho:L.length=o) (hn:low.length=n) (iC:lo≤b):cR lo 1 (.ptr b g (o+n) 0) (VI z') H=some (H.set b (.row g (L++low.map tV++VI z'::R) 1 true)):=by
 rw[gA hr (by simp only[List.length_append,List.length_map,List.length_cons];omega) iC rfl rfl,List.set_append_right _ _ (by simp;omega)]
 congr 5
 simp[ho,hn]
end
theorem OK {P A N B c u x t r k m q T:Nat} (h:A+P*c=N+t*B) (h1:r+m+c=u+T*k) (h2:m+T*q=x*t):(A+P*u)+P*T*(q+k)=(N+P*r)+t*(B+P*x):=by
 have e1:P*(r+m+c)=P*(u+T*k):=by rw[h1]
 have e2:P*(m+T*q)=P*(x*t):=by rw[h2]
 grind
theorem YK {x t:Nat} (hx:x<1000000000) (ht:t<1000000000):x*t≤999999998000000001∧x*t / 1000000000≤999999998:=by
 have h:x*t≤999999999*999999999:=Nat.mul_le_mul (by omega) (by omega)
 omega
theorem WR {H:aA} {lo b g o n N t top:Nat} {L R:List VV} {low vs:List Nat} (hr:aP H b g=some (L++low.map tV++VI (top:Int)::R,1,true)) (iC:lo≤b) (ho:L.length=o) (hl:low.length=n) (D3:vs.length=n) (hN:o+n<N) (Df:N≤70368744177664)
  (ZS:∀d∈low,d<1000000000) (Gm:∀d∈vs,d<1000000000) (ht:t<1000000000) (X6:top<1000000000) :
  oO 239 [.ref b g 0 N N,iE vs,VI (o:Int),VI (t:Int)] lo H fun r H'=>∃(AF:List Nat) (c:Nat),H'=H.set b (.row g (L++AF.map tV++VI ((top:Int)-(c:Int))::R) 1 true)∧AF.length=n∧(∀d∈AF,d<1000000000)∧c≤1000000000 ∧
   r=VB (decide ((top:Int)-(c:Int)<0))∧val 1000000000 low+1000000000^n*c=val 1000000000 AF+t*val 1000000000 vs:=by
 refine oO.walk ⟨true,false⟩ FV (Nat.le_of_ble_eq_true rfl) ?_
 have rd:∀(s:List Nat) (z:Int),aP (H.set b (.row g (L++s.map tV++VI z::R) 1 true)) b g=some (L++s.map tV++VI z::R,1,true):=fun s z=>nC hr
 have ad:∀(K:aA) (es:List VV) (i:Nat),aP K b g=some (es,1,true)→i≤n→bJ 1 (.ref b g 0 N N) (VI ((o+i:Nat):Int)) K=some (.ptr b g (o+i) 0):=fun K es i h hi=>by rw[bB h (by omega),Nat.zero_add]
 simp only[BR,zY,eK,VX,Nat.reduceEqDiff,Nat.reduceAdd]
 refine bC (fun(u:Nat×List Nat×Nat) ρ K=>u.1≤n∧K=H.set b (.row g (L++u.2.1.map tV++VI (top:Int)::R) 1 true)∧u.2.1.length=n∧(∀d∈u.2.1,d<1000000000)∧u.2.2≤1000000000∧val 1000000000 (low.take u.1)+1000000000^u.1*u.2.2=val 1000000000 (u.2.1.take u.1)+t*val 1000000000 (vs.take u.1)∧(∀j,u.1≤j→u.2.1[j]? = low[j]?) ∧
  ρ 0 = .ref b g 0 N N∧ρ 1=iE vs∧ρ 2=VI o∧ρ 3=VI t∧ρ 9=VI u.2.2∧ρ 13=iE vs∧ρ 14=VI vs.length∧ρ 15=VI u.1) (fun u=>n-u.1) (0,low,0) ⟨Nat.zero_le _,(wB hr).symm,hl,ZS,by simp,by simp[val],fun _ _=>rfl,by (repeat' apply And.intro)<;>first | rfl | trivial⟩ ?_
 rintro⟨i,outs,c⟩ ρ K ⟨hi,rfl,iK,lC,hc,hv,E5,k0,k1,k2,k3,k9,Bc,Cc,Jd⟩
 simp only at hi iK lC hc hv E5 k9 Jd
 by_cases cQ:(i:Int)<(vs.length:Int)
 ·obtain⟨u,hu⟩:∃u,outs[i]? = some u:=⟨_,List.getElem?_eq_getElem (by omega)⟩
  have lu:=lC u (List.mem_of_getElem? hu)
  have hu':low[i]? = some u:=by rw[←E5 i (Nat.le_refl _)];exact hu
  obtain⟨x,hx⟩:∃x,vs[i]? = some x:=⟨_,List.getElem?_eq_getElem (by omega)⟩
  have lx:=Gm x (List.mem_of_getElem? hx)
  obtain⟨xt1,xt2⟩:=YK lx ht
  have e1:bJ 1 (iE vs) (VI i) (H.set b (.row g (L++outs.map tV++VI (top:Int)::R) 1 true))=some (.cK (tV x) 0):=aI (f:=tV) (t := .op) (size:=1) (k := .i64) hx rfl
  have w1:IntKind.i64.wrap ((o:Int)+(i:Int))=((o+i:Nat):Int):=wrapN _ (by omega) (by omega)
  have e2:=ad _ _ i (rd outs top) (by omega)
  have e3:=Yt (rd outs top) ho hu
  have e4:∀d:Nat,cR lo 1 (.ptr b g (o+i) 0) (VI (d:Int)) (H.set b (.row g (L++outs.map tV++VI (top:Int)::R) 1 true))=some (H.set b (.row g (L++(outs.set i d).map tV++VI (top:Int)::R) 1 true)):=fun d=>by rw[YL (rd outs top) ho (by omega) iC,lU]
  have w2:IntKind.i64.wrap ((x:Int)*(t:Int))=((x*t:Nat):Int):=wrapN _ (by simp) (by omega)
  have r1:=MP (x*t)
  have q1:=Mh (x*t) (by omega)
  have hm:=Nat.mod_lt (x*t) (show 0<1000000000 by decide)
  have hdv:=Nat.mod_add_div (x*t) 1000000000
  have wi:IntKind.i64.wrap ((i:Int)+1)=((i+1:Nat):Int):=wrapN (i+1) (by omega) (by omega)
  generalize hmq:x*t % 1000000000=m at *
  generalize hqq:x*t / 1000000000=q at *
  have w3:IntKind.i64.wrap ((u:Int)-(m:Int))=(u:Int)-(m:Int):=wrap64 (by omega) (by omega)
  have w4:IntKind.i64.wrap ((u:Int)-(m:Int)-(c:Int))=(u:Int)-(m:Int)-(c:Int):=wrap64 (by omega) (by omega)
  have step:∀r k:Nat,r<1000000000→r+m+c=u+1000000000*k→val 1000000000 (low.take (i+1))+1000000000^(i+1)*(q+k)=val 1000000000 ((outs.set i r).take (i+1))+t*val 1000000000 (vs.take (i+1))∧(∀d∈outs.set i r,d<1000000000)∧(∀j,i+1≤j→(outs.set i r)[j]? = low[j]?)∧(outs.set i r).length=n:=by
   intro r k hr hk
   refine⟨?_,lO lC hr,fun j hj=>by rw[List.getElem?_set_ne (by omega)];exact E5 j (by omega),by rw[List.length_set];exact iK⟩
   rw[aY hu',aY hx,eJ (by omega),Nat.pow_succ]
   exact OK hv hk hdv
  by_cases h1:(u:Int)-(m:Int)-(c:Int)<0
  ·have w5:IntKind.i64.wrap ((u:Int)-(m:Int)-(c:Int)+1000000000)=(u:Int)-(m:Int)-(c:Int)+1000000000:=wrap64 (by omega) (by omega)
   have w6:IntKind.i64.wrap ((q:Int)+1)=((q+1:Nat):Int):=wrapN _ (by omega) (by omega)
   by_cases h2:(u:Int)-(m:Int)-(c:Int)+1000000000<0
   ·obtain⟨r,hr⟩:∃r:Nat,r+m+c=u+1000000000*2:=⟨u+1000000000*2-m-c,by omega⟩
    have w7:IntKind.i64.wrap ((u:Int)-(m:Int)-(c:Int)+1000000000+1000000000)=(r:Int):=wrapN r (by omega) (by omega)
    have w8:IntKind.i64.wrap (((q+1:Nat):Int)+1)=((q+2:Nat):Int):=wrapN _ (by omega) (by omega)
    obtain⟨s1,s2,s3,s4⟩:=step r 2 (by omega) hr
    simp only[jY,k0,k1,k2,k3,k9,Bc,Cc,Jd,cQ,e1,e2,e3,e4,w1,w2,w3,w4,w5,w6,w7,w8,wi,r1,q1,h1,h2,VX,Nat.reduceEqDiff,Nat.reduceAdd]
    refine⟨(i+1,outs.set i r,q+2),by simp only;omega,by omega,rfl,s4,s2,by simp only;omega,s1,s3,?_⟩
    try (repeat' apply And.intro)<;>first | rfl | trivial
   ·obtain⟨r,hr⟩:∃r:Nat,r+m+c=u+1000000000*1:=⟨u+1000000000*1-m-c,by omega⟩
    have w7:IntKind.i64.wrap ((u:Int)-(m:Int)-(c:Int)+1000000000)=(r:Int):=wrapN r (by omega) (by omega)
    have h3:¬(r:Int)<0:=by omega
    obtain⟨s1,s2,s3,s4⟩:=step r 1 (by omega) hr
    simp only[jY,k0,k1,k2,k3,k9,Bc,Cc,Jd,cQ,e1,e2,e3,e4,w1,w2,w3,w4,w6,w7,wi,r1,q1,h1,h3,VX,Nat.reduceEqDiff,Nat.reduceAdd]
    refine⟨(i+1,outs.set i r,q+1),by simp only;omega,by omega,rfl,s4,s2,by simp only;omega,s1,s3,?_⟩
    try (repeat' apply And.intro)<;>first | rfl | trivial
  ·obtain⟨r,hr⟩:∃r:Nat,r+m+c=u+1000000000*0:=⟨u-m-c,by omega⟩
   have w7:IntKind.i64.wrap ((u:Int)-(m:Int)-(c:Int))=(r:Int):=wrapN r (by omega) (by omega)
   have h3:¬(r:Int)<0:=by omega
   obtain⟨s1,s2,s3,s4⟩:=step r 0 (by omega) hr
   simp only[jY,k0,k1,k2,k3,k9,Bc,Cc,Jd,cQ,e1,e2,e3,e4,w1,w2,w3,w7,wi,r1,q1,h3,VX,Nat.reduceEqDiff,Nat.reduceAdd]
   refine⟨(i+1,outs.set i r,q),by simp only;omega,by omega,rfl,s4,s2,by simp only;omega,s1,s3,?_⟩
   try (repeat' apply And.intro)<;>first | rfl | trivial
 ·have qR:i=n:=by omega
  subst qR
  rw[List.take_of_length_le (by omega),List.take_of_length_le (by omega),List.take_of_length_le (by omega)] at hv
  have w1:IntKind.i64.wrap ((o:Int)+(vs.length:Int))=((o+i:Nat):Int):=wrapN _ (by omega) (by omega)
  have e2:=ad _ _ i (rd outs top) (by omega)
  have e2':=ad _ _ i (rd outs ((top:Int)-(c:Int))) (by omega)
  have e3:=To (rd outs top) ho iK
  have e3':=To (rd outs ((top:Int)-(c:Int))) ho iK
  have e4:cR lo 1 (.ptr b g (o+i) 0) (VI ((top:Int)-(c:Int))) (H.set b (.row g (L++outs.map tV++VI (top:Int)::R) 1 true))=some (H.set b (.row g (L++outs.map tV++VI ((top:Int)-(c:Int))::R) 1 true)):=by rw[YS (rd outs top) ho iK iC,lU]
  have w2:IntKind.i64.wrap ((top:Int)-(c:Int))=(top:Int)-(c:Int):=wrap64 (by omega) (by omega)
  simp only[jY,k0,k1,k2,k3,k9,Bc,Cc,Jd,cQ,eK,w1,w2,e2,e2',e3,e3',e4,VX,Nat.reduceEqDiff,Nat.reduceAdd]
  refine⟨outs,c,rfl,iK,lC,hc,?_,hv⟩
  try rfl
theorem Vu {H:aA} {lo b g o n N:Nat} {z:Int} {L R:List VV} {low vs:List Nat} (hr:aP H b g=some (L++low.map tV++VI z::R,1,true)) (iC:lo≤b) (ho:L.length=o) (hl:low.length=n) (D3:vs.length=n) (hN:o+n<N) (Df:N≤70368744177664)
  (ZS:∀d∈low,d<1000000000) (Gm:∀d∈vs,d<1000000000) (hz : -1000000000≤z) (RC:z≤1000000000) :
  oO 240 [.ref b g 0 N N,iE vs,VI (o:Int)] lo H fun r H'=>∃(AF:List Nat) (c:Nat),H'=H.set b (.row g (L++AF.map tV++VI (z+(c:Int))::R) 1 true)∧AF.length=n∧(∀d∈AF,d<1000000000)∧c≤1 ∧
   val 1000000000 low+val 1000000000 vs=val 1000000000 AF+1000000000^n*c:=by
 refine oO.walk ⟨true,false⟩ FL (Nat.le_of_ble_eq_true rfl) ?_
 have rd:∀(s:List Nat) (z:Int),aP (H.set b (.row g (L++s.map tV++VI z::R) 1 true)) b g=some (L++s.map tV++VI z::R,1,true):=fun s z=>nC hr
 have ad:∀(K:aA) (es:List VV) (i:Nat),aP K b g=some (es,1,true)→i≤n→bJ 1 (.ref b g 0 N N) (VI ((o+i:Nat):Int)) K=some (.ptr b g (o+i) 0):=fun K es i h hi=>by rw[bB h (by omega),Nat.zero_add]
 simp only[BS,zH,eK,VX,Nat.reduceEqDiff,Nat.reduceAdd]
 refine bC (fun(u:Nat×List Nat×Nat) ρ K=>u.1≤n∧K=H.set b (.row g (L++u.2.1.map tV++VI z::R) 1 true)∧u.2.1.length=n∧(∀d∈u.2.1,d<1000000000)∧u.2.2≤1∧val 1000000000 (low.take u.1)+val 1000000000 (vs.take u.1)=val 1000000000 (u.2.1.take u.1)+1000000000^u.1*u.2.2∧(∀j,u.1≤j→u.2.1[j]? = low[j]?) ∧
  ρ 0 = .ref b g 0 N N∧ρ 1=iE vs∧ρ 2=VI o∧ρ 6=VI u.2.2∧ρ 10=iE vs∧ρ 11=VI vs.length∧ρ 12=VI u.1) (fun u=>n-u.1) (0,low,0) ⟨Nat.zero_le _,(wB hr).symm,hl,ZS,by simp,by simp[val],fun _ _=>rfl,by (repeat' apply And.intro)<;>first | rfl | trivial⟩ ?_
 rintro⟨i,outs,c⟩ ρ K ⟨hi,rfl,iK,lC,hc,hv,E5,k0,k1,k2,k6,Xe,TZ,Im⟩
 simp only at hi iK lC hc hv E5 k6 Im
 by_cases cQ:(i:Int)<(vs.length:Int)
 ·obtain⟨u,hu⟩:∃u,outs[i]? = some u:=⟨_,List.getElem?_eq_getElem (by omega)⟩
  have lu:=lC u (List.mem_of_getElem? hu)
  have hu':low[i]? = some u:=by rw[←E5 i (Nat.le_refl _)];exact hu
  obtain⟨x,hx⟩:∃x,vs[i]? = some x:=⟨_,List.getElem?_eq_getElem (by omega)⟩
  have lx:=Gm x (List.mem_of_getElem? hx)
  have e1:bJ 1 (iE vs) (VI i) (H.set b (.row g (L++outs.map tV++VI z::R) 1 true))=some (.cK (tV x) 0):=aI (f:=tV) (t := .op) (size:=1) (k := .i64) hx rfl
  have w1:IntKind.i64.wrap ((o:Int)+(i:Int))=((o+i:Nat):Int):=wrapN _ (by omega) (by omega)
  have e2:=ad _ _ i (rd outs z) (by omega)
  have e3:=Yt (rd outs z) ho hu
  have e4:∀d:Nat,cR lo 1 (.ptr b g (o+i) 0) (VI (d:Int)) (H.set b (.row g (L++outs.map tV++VI z::R) 1 true))=some (H.set b (.row g (L++(outs.set i d).map tV++VI z::R) 1 true)):=fun d=>by rw[YL (rd outs z) ho (by omega) iC,lU]
  have w2:IntKind.i64.wrap ((u:Int)+(x:Int))=((u+x:Nat):Int):=wrapN _ (by omega) (by omega)
  have w3:IntKind.i64.wrap (((u+x:Nat):Int)+(c:Int))=((u+x+c:Nat):Int):=wrapN _ (by omega) (by omega)
  have r1:=MP (u+x+c)
  have q1:=Mh (u+x+c) (by omega)
  have wi:IntKind.i64.wrap ((i:Int)+1)=((i+1:Nat):Int):=wrapN (i+1) (by omega) (by omega)
  simp only[qM,k0,k1,k2,k6,Xe,TZ,Im,cQ,e1,e2,e3,e4,w1,w2,w3,wi,r1,q1,VX,Nat.reduceEqDiff,Nat.reduceAdd]
  refine⟨(i+1,outs.set i ((u+x+c) % 1000000000),(u+x+c) / 1000000000),by simp only;omega,by omega,rfl,by rw[List.length_set];exact iK,lO lC (Nat.mod_lt _ (by decide)),by simp only;omega,?_,fun j hj=>by rw[List.getElem?_set_ne (by omega)];exact E5 j (by omega),?_⟩
  ·simp only
   rw[aY hu',aY hx,eJ (by omega),Nat.pow_succ]
   exact EH hv (show c+u+x=u+x+c by omega) (Nat.mod_add_div _ _)
  ·try (repeat' apply And.intro)<;>first | rfl | trivial
 ·have qR:i=n:=by omega
  subst qR
  rw[List.take_of_length_le (by omega),List.take_of_length_le (by omega),List.take_of_length_le (by omega)] at hv
  have w1:IntKind.i64.wrap ((o:Int)+(vs.length:Int))=((o+i:Nat):Int):=wrapN _ (by omega) (by omega)
  have e2:=ad _ _ i (rd outs z) (by omega)
  have e3:=To (rd outs z) ho iK
  have e4:cR lo 1 (.ptr b g (o+i) 0) (VI (z+(c:Int))) (H.set b (.row g (L++outs.map tV++VI z::R) 1 true))=some (H.set b (.row g (L++outs.map tV++VI (z+(c:Int))::R) 1 true)):=by rw[YS (rd outs z) ho iK iC,lU]
  have w2:IntKind.i64.wrap (z+(c:Int))=z+(c:Int):=wrap64 (by omega) (by omega)
  simp only[qM,k0,k1,k2,k6,Xe,TZ,Im,cQ,eK,w1,w2,e2,e3,e4,VX,Nat.reduceEqDiff,Nat.reduceAdd]
  exact⟨outs,c,rfl,iK,lC,hc,hv⟩
end Go.PM
namespace Go.PM
theorem vZ {d:Nat} {H:aA}:fz (d+1) H (.tree [] .nil)=some (bH 0):=by
 rw[DP]
 unfold fz
 have:aM (.tree [] .nil)=false:=by simp[aM]
 simp only[this,Bool.false_eq_true,if_false]
 rfl
theorem Xh {d:Nat} {H:aA} {m:Nat} {t:TK} (ht:t = .cl 1∨t = .op):fz (d+2) H (.tree ((aC 4294967296 m).map uV) t)=some (bH m):=by
 rcases ht with rfl | rfl
 ·unfold fz
  have:aM (.tree ((aC 4294967296 m).map uV) (.cl 1))=false:=by simp[aM]
  simp only[this,Bool.false_eq_true,if_false]
  rw[mapM_pure (eO fun _=>rfl)]
  rfl
 ·exact aH (bM m)
abbrev H3 (us ws os:List Nat):aA:=[.row 0 (us.map uV) 1 true,.row 0 (ws.map uV) 1 true,.row 0 (os.map uV) 1 true]
theorem Ca {us ws os:List Nat}:aP (H3 us ws os) 0 0=some (us.map uV,1,true):=rfl
theorem amU {us ws os:List Nat}:aP (H3 us ws os) 1 0=some (ws.map uV,1,true):=rfl
theorem adB {us ws os:List Nat}:aP (H3 us ws os) 2 0=some (os.map uV,1,true):=rfl
theorem U5 {us:List Nat} {i n N V:Nat} (hN:us.length=N) (cQ:i+n<N) (hd:∀d∈us,d<4294967296) (hV:V<4294967296^n) (B4:val 4294967296 (us.drop (i+1))<V) :
  us=us.take i++(us.drop i).take (n+1)++us.drop (i+(n+1))∧(us.take i).length=i∧((us.drop i).take (n+1)).length=n+1∧val 4294967296 ((us.drop i).take (n+1))<4294967296*V∧val 4294967296 (us.drop i)=val 4294967296 ((us.drop i).take (n+1))∧val 4294967296 (us.drop (i+(n+1)))=0∧∀j,j<n+1→((us.drop i).take (n+1))[j]? = us[i+j]? := by
 obtain⟨x,hx⟩:∃x,us[i]? = some x:=⟨_,List.getElem?_eq_getElem (by omega)⟩
 have lx:=hd x (List.mem_of_getElem? hx)
 have h1:=sJ (b:=4294967296) hx
 have h2:val 4294967296 (us.drop i)<4294967296*V:=by
  have:4294967296*(val 4294967296 (us.drop (i+1))+1)≤4294967296*V:=Nat.mul_le_mul_left _ B4
  omega
 have h3:=pC (b:=4294967296) (us.drop i) (n+1)
 have h4:((us.drop i).take (n+1)).length=n+1:=by rw[List.length_take,List.length_drop];omega
 rw[h4,List.drop_drop] at h3
 have h5:val 4294967296 (us.drop (i+(n+1)))=0:=by
  rcases Nat.eq_zero_or_pos (val 4294967296 (us.drop (i+(n+1)))) with h | h
  ·exact h
  ·have h6:4294967296^(n+1)*1≤4294967296^(n+1)*val 4294967296 (us.drop (i+(n+1))):=Nat.mul_le_mul_left _ h
   have h7:4294967296*V≤4294967296^(n+1):=by rw[Nat.pow_succ,Nat.mul_comm];exact Nat.mul_le_mul_right _ (by omega)
   omega
 rw[h5,Nat.mul_zero,Nat.add_zero] at h3
 refine⟨?_,by rw[List.length_take];omega,h4,by omega,h3,h5,fun j hj => ?_⟩
 ·rw[List.append_assoc,←List.drop_drop,List.take_append_drop,List.take_append_drop]
 ·rw[List.getElem?_take_of_lt hj,List.getElem?_drop]
theorem Rv {x D p w:Nat} (hp:0<p) (hw:p*w=4294967296):(x+4294967296*D) / p=((D % 4294967296*4294967296+x) / p) % 4294967296+4294967296*(D / p)∨¬x<4294967296:=by
 rcases Nat.lt_or_ge x 4294967296 with hx | hx
 ·left
  have h1:(x+4294967296*D) / p / 4294967296=D / p:=by
   rw[Nat.div_div_eq_div_mul,Nat.mul_comm p,←Nat.div_div_eq_div_mul,Nat.add_mul_div_left _ _ (by decide),Nat.div_eq_of_lt hx,Nat.zero_add]
  have h2:(x+4294967296*D) / p % 4294967296=(D % 4294967296*4294967296+x) / p % 4294967296:=by
   have e:x+4294967296*D=(D % 4294967296*4294967296+x)+p*(4294967296*(w*(D / 4294967296))):=by
    have h3:=Nat.mod_add_div D 4294967296
    have h4:p*(4294967296*(w*(D / 4294967296)))=(p*w)*(4294967296*(D / 4294967296)):=by grind
    rw[h4,hw]
    omega
   rw[e,Nat.add_mul_div_left _ _ hp,Nat.add_mul_mod_self_left]
  have:=Nat.mod_add_div ((x+4294967296*D) / p) 4294967296
  rw[h1,h2] at this
  exact this.symm
 ·right
  omega
theorem S6 {x:Nat} (h0:x≠0) (hx:x<4294967296):∃s,s≤31∧TC 219 [uV x] (VI (s:Nat))∧x*2^s<4294967296:=by
 obtain⟨h1,h2,h3⟩:=Lib.bitLenAux_bounds 64 x (by omega) h0
 have h4:Lib.bitLenAux 64 x-1<32:=by
  have:2^(Lib.bitLenAux 64 x-1)<2^32:=by omega
  exact(Nat.pow_lt_pow_iff_right (by decide)).1 this
 refine⟨32-Lib.bitLenAux 64 x,by omega,?_,?_⟩
 ·have:=Wx x hx
  have e:(((32-Lib.bitLenAux 64 x:Nat)):Int)=32-(Lib.bitLen x:Int):=by unfold Lib.bitLen;omega
  rw[e]
  exact this
 ·have:2^Lib.bitLenAux 64 x*2^(32-Lib.bitLenAux 64 x)=4294967296:=by rw[←Nat.pow_add,show Lib.bitLenAux 64 x+(32-Lib.bitLenAux 64 x)=32 by omega]
  rw[←this]
  exact Nat.mul_lt_mul_of_pos_right h3 (Nat.pow_pos (by decide))
theorem Vn {us ws os:List Nat} {k N s w0:Nat} {ρ:cP} {Q:VQ} (hs:s≤31) (hw:2^s*w0=4294967296) (hN:us.length=N) (hk:k≤N) (Df:N≤70368744177664) (hd:∀d∈us,d<4294967296) (g8:ρ 8=VI s) (g9:ρ 9 = .ref 0 0 0 k N) (asE:ρ 147=VI k) (avB:ρ 148=VI 0)
  (hQ:∀(aZ:cP) (EG:List Nat),aZ 9 = .ref 0 0 0 k N→aZ 13=ρ 13→EG.length=N→(∀d∈EG,d<4294967296)→val 4294967296 (EG.take k)=val 4294967296 (us.take k) / 2^s→Q (.exit 4) aZ (H3 EG ws os)) :
  VW ⟨true,false⟩ 0 (.loop kU) Q ρ (H3 us ws os):=by
 have hp:0<2^s:=Nat.pow_pos (by decide)
 refine bC (fun(t:Nat×List Nat) aZ H=>t.1≤k∧H=H3 t.2 ws os∧t.2.length=N∧(∀d∈t.2,d<4294967296)∧(∀j,t.1≤j→t.2[j]? = us[j]?)∧val 4294967296 (t.2.take t.1)+4294967296^t.1*(val 4294967296 ((us.take k).drop t.1) / 2^s)=val 4294967296 (us.take k) / 2^s ∧
  aZ 8=VI s∧aZ 9 = .ref 0 0 0 k N∧aZ 13=ρ 13∧aZ 147=VI k∧aZ 148=VI t.1) (fun t=>k-t.1) (0,us) ⟨Nat.zero_le _,rfl,hN,hd,fun _ _=>rfl,by simp[val],g8,g9,rfl,asE,avB⟩ ?_
 rintro⟨i,vs⟩ Nu H ⟨hi,rfl,D3,Gm,E5,hv,k8,k9,Bc,agT,adV⟩
 simp only at hi D3 Gm E5 hv adV
 by_cases cQ:(i:Int)<(k:Int)
 ·obtain⟨x,hx⟩:∃x,us[i]? = some x:=⟨_,List.getElem?_eq_getElem (by omega)⟩
  have hx2:vs[i]? = some x:=by rw[E5 i (Nat.le_refl _)];exact hx
  have lx:=hd x (List.mem_of_getElem? hx)
  have hx3:(us.take k)[i]? = some x:=by rw[List.getElem?_take_of_lt (by omega)];exact hx
  have h1:=sJ (b:=4294967296) hx3
  generalize hD:val 4294967296 ((us.take k).drop (i+1))=D at *
  have hlen:pV (.ref 0 0 0 k N) (H3 vs ws os)=some (VI k):=fM Ca
  have e1:bJ 1 (.ref 0 0 0 k N) (VI i) (H3 vs ws os)=some (.ptr 0 0 i 0):=by rw[bB Ca (by omega),Nat.zero_add]
  have e2:dN false 1 (.ptr 0 0 i 0) (H3 vs ws os)=some (uV x):=iQ Ca hx2
  have e3:∀d:Nat,cR 0 1 (.ptr 0 0 i 0) (uV d) (H3 vs ws os)=some (H3 (vs.set i d) ws os):=fun d=>by
   rw[gI (f:=uV) (e:=1) Ca (by omega) (Nat.le_refl _) rfl rfl]
   rfl
  have wi:IntKind.i64.wrap ((i:Int)+1)=((i+1:Nat):Int):=wrapN (i+1) (by omega) (by omega)
  have wx:IntKind.u64.wrap (x:Int)=(x:Int):=fH _ (by omega)
  have hm:=Nat.mod_lt D (show 0<4294967296 by decide)
  have w5:=DJ (D % 4294967296) .u64 hm
  have w6:IntKind.u64.wrap (((D % 4294967296*4294967296:Nat):Int)+(x:Int))=((D % 4294967296*4294967296+x:Nat):Int):=by rw[←Int.natCast_add];exact fH _ (by omega)
  have w7:=ZF (D % 4294967296*4294967296+x) s hs
  have sd:(x+4294967296*D) / 2^s=((D % 4294967296*4294967296+x) / 2^s) % 4294967296+4294967296*(D / 2^s):=by
   rcases Rv (x:=x) (D:=D) hp hw with h | h
   ·exact h
   ·exact absurd lx h
  have next:∃s':Nat×List Nat,k-s'.1<k-i∧s'.1≤k∧H3 (vs.set i (((D % 4294967296*4294967296+x) / 2^s) % 4294967296)) ws os=H3 s'.2 ws os∧s'.2.length=N∧(∀d∈s'.2,d<4294967296)∧(∀j,s'.1≤j→s'.2[j]? = us[j]?)∧val 4294967296 (s'.2.take s'.1)+4294967296^s'.1*(val 4294967296 ((us.take k).drop s'.1) / 2^s)=val 4294967296 (us.take k) / 2^s∧s'.1=i+1:=by
   refine⟨(i+1,vs.set i (((D % 4294967296*4294967296+x) / 2^s) % 4294967296)),by simp only;omega,by simp only;omega,rfl,by simp only[List.length_set];exact D3,lO Gm (Nat.mod_lt _ (by decide)),fun j hj => ?_,?_,rfl⟩
   ·simp only at hj ⊢
    rw[List.getElem?_set_ne (by omega)]
    exact E5 j (by omega)
   ·simp only
    rw[eJ (by omega),hD,←hv,h1,sd,Nat.pow_succ]
    generalize (D % 4294967296*4294967296+x) / 2^s % 4294967296=q
    generalize D / 2^s=E
    rw[Nat.mul_add,Nat.mul_assoc,Nat.add_assoc]
  obtain⟨s',n1,n2,n3,n4,n5,n6,n7,n8⟩:=next
  by_cases VZ:((i+1:Nat):Int)<(k:Int)
  ·obtain⟨h,hh⟩:∃h,us[i+1]? = some h:=⟨_,List.getElem?_eq_getElem (by omega)⟩
   have hh2:vs[i+1]? = some h:=by rw[E5 (i+1) (by omega)];exact hh
   have hhD:D % 4294967296=h:=by
    have hh3:(us.take k)[i+1]? = some h:=by rw[List.getElem?_take_of_lt (by omega)];exact hh
    have:=sJ (b:=4294967296) hh3
    rw[hD] at this
    have lh:=hd h (List.mem_of_getElem? hh)
    omega
   have f1:bJ 1 (.ref 0 0 0 k N) (VI ((i+1:Nat):Int)) (H3 vs ws os)=some (.ptr 0 0 (i+1) 0):=by rw[bB Ca (by omega),Nat.zero_add]
   have f2:dN false 1 (.ptr 0 0 (i+1) 0) (H3 vs ws os)=some (uV h):=iQ Ca hh2
   have wh:IntKind.u64.wrap (h:Int)=(h:Int):=fH _ (by omega)
   rw[hhD] at w5 w6 w7 n3
   simp only[kU,k8,k9,agT,adV,cQ,VZ,hlen,e1,e2,e3,f1,f2,wi,wx,wh,w5,w6,w7,wrap32,VX,Nat.reduceEqDiff,Nat.reduceAdd]
   exact⟨s',n1,n2,n3,n4,n5,n6,n7,Bc,by rw[n8]⟩
  ·have hD0:D=0:=by
    rw[←hD,List.drop_of_length_le (by rw[List.length_take];omega)]
    rfl
   subst hD0
   have w5':dF .shl (.int .u64 0) (.int .u64 32)=some (.int .u64 0):=DJ 0 .u64 (by decide)
   have w6':IntKind.u64.wrap ((0:Int)+(x:Int))=(x:Int):=by rw[Int.zero_add];exact wx
   have w7':=ZF x s hs
   simp only[Nat.zero_mod,Nat.zero_mul,Nat.zero_add] at n3
   simp only[kU,k8,k9,agT,adV,cQ,VZ,hlen,e1,e2,e3,wi,wx,w5',w6',w7',wrap32,VX,Nat.reduceEqDiff,Nat.reduceAdd]
   exact⟨s',n1,n2,n3,n4,n5,n6,n7,Bc,by rw[n8]⟩
 ·have qR:i=k:=by omega
  subst qR
  rw[List.drop_of_length_le (by rw[List.length_take];omega)] at hv
  simp only[val,Nat.zero_div,Nat.mul_zero,Nat.add_zero] at hv
  simp only[kU,k8,k9,agT,adV,cQ,VX,Nat.reduceEqDiff,Nat.reduceAdd]
  exact hQ _ vs k9 Bc D3 Gm hv
end Go.PM
namespace Go.PM
theorem S5 {iH vs us ws os:List Nat} {n u2 u1 u0 v1 v0 N k g left:Nat} (G:vS 4294967296 iH vs n u2 u1 u0 v1 v0) {ρ:cP} {Q:VQ} (hN:us.length=N) (hk2:2≤k) (hkN:k<N) (Df:N≤70368744177664) (hu0:us[k-2]? = some u0)
  (g9:ρ 9 = .ref 0 0 0 N N) (g11:ρ 11=VK .u64 v1) (g12:ρ 12=VK .u64 v0) (g15:ρ 15=VI k) (g17:ρ 17=VK .u64 g) (g18:ρ 18=VK .u64 left) (hh:u2*4294967296+u1=g*v1+left) (hq:val 4294967296 iH / val 4294967296 vs≤g) (hl:left<4294967296) (hgb:g<18446744073709551616)
  (hQ:∀(aZ:cP) (g':Nat),val 4294967296 iH / val 4294967296 vs≤g'→g'≤val 4294967296 iH / val 4294967296 vs+1→g'<4294967296→aZ 17=VK .u64 g'→aZ 8=ρ 8→aZ 9=ρ 9→aZ 10=ρ 10→aZ 11=ρ 11→aZ 12=ρ 12→aZ 13=ρ 13→aZ 14=ρ 14→aZ 15=ρ 15→Q (.exit 2) aZ (H3 us ws os)) :
  VW ⟨true,false⟩ 0 (.loop gD) Q ρ (H3 us ws os):=by
 have lv1:=G.T0
 have lv0:=G.Z0
 have lu0:=G.aeM
 have qlt:=G.abS
 have lA:=G.pos
 refine bC (fun(t:Nat×Nat) aZ H=>H=H3 us ws os∧u2*4294967296+u1=t.1*v1+t.2∧val 4294967296 iH / val 4294967296 vs≤t.1∧t.2<4294967296∧t.1<18446744073709551616 ∧
  aZ 9 = .ref 0 0 0 N N∧aZ 11=VK .u64 v1∧aZ 12=VK .u64 v0∧aZ 15=VI k∧aZ 17=VK .u64 t.1∧aZ 18=VK .u64 t.2∧aZ 8=ρ 8∧aZ 10=ρ 10∧aZ 13=ρ 13∧aZ 14=ρ 14) (fun t=>4294967296-t.2) (g,left) ⟨rfl,hh,hq,hl,hgb,g9,g11,g12,g15,g17,g18,rfl,rfl,rfl,rfl⟩ ?_
 rintro⟨g,left⟩ Nu H ⟨rfl,hh,hq,hl,hgb,k9,TZ,Im,Jd,G8,W4,k8,Xe,Bc,Cc⟩
 simp only at hh hq hl hgb G8 W4
 have e1:bJ 1 (.ref 0 0 0 N N) (VI ((k-2:Nat):Int)) (H3 us ws os)=some (.ptr 0 0 (k-2) 0):=by rw[bB Ca (by omega),Nat.zero_add]
 have e2:dN false 1 (.ptr 0 0 (k-2) 0) (H3 us ws os)=some (uV u0):=iQ Ca hu0
 have wk:IntKind.i64.wrap ((k:Int)-2)=((k-2:Nat):Int):=wrapN _ (by omega) (by omega)
 have wu:IntKind.u64.wrap (u0:Int)=(u0:Int):=fH _ (by omega)
 have ws:=DJ left .u64 hl
 have wa:IntKind.u64.wrap (((left*4294967296:Nat):Int)+(u0:Int))=((left*4294967296+u0:Nat):Int):=by rw[←Int.natCast_add];exact fH _ (by omega)
 have wl:IntKind.u64.wrap ((left:Int)+(v1:Int))=((left+v1:Nat):Int):=by rw[←Int.natCast_add];exact fH _ (by omega)
 have same:Nu 9=ρ 9∧Nu 11=ρ 11∧Nu 12=ρ 12∧Nu 15=ρ 15:=⟨by rw[k9,g9],by rw[TZ,g11],by rw[Im,g12],by rw[Jd,g15]⟩
 obtain⟨s9,s11,s12,s15⟩:=same
 have down:val 4294967296 iH / val 4294967296 vs<g→∃g',g=g'+1∧IntKind.u64.wrap ((g:Int)-1)=(g':Int)∧u2*4294967296+u1=g'*v1+(left+v1)∧val 4294967296 iH / val 4294967296 vs≤g':=by
  intro h
  have hg1:1≤g:=Nat.lt_of_le_of_lt (Nat.zero_le _) h
  obtain⟨g',rfl⟩:∃g',g=g'+1:=⟨g-1,by omega⟩
  refine⟨g',rfl,?_,?_,by omega⟩
  ·rw[show ((g'+1:Nat):Int)-1=(g':Int) by omega]
   exact fH _ (by omega)
  ·rw[hh,Nat.add_mul]
   omega
 by_cases hA:(4294967296:Int)≤(g:Int)
 ·obtain⟨g',Zv,wg,SL,LC⟩:=down (by omega)
  by_cases hB:(4294967296:Int)≤((left+v1:Nat):Int)
  ·obtain⟨c1,c2⟩:=G.broken SL (by omega)
   simp only[gD,k9,TZ,Im,Jd,G8,W4,hA,hB,wg,wl,VX,Nat.reduceEqDiff,Nat.reduceAdd]
   exact hQ _ g' LC (G.WE SL (by omega) c2) c1 rfl k8 s9 Xe s11 s12 Bc Cc s15
  ·simp only[gD,k9,TZ,Im,Jd,G8,W4,hA,hB,wg,wl,VX,Nat.reduceEqDiff,Nat.reduceAdd]
   exact⟨(g',left+v1),by simp only;omega,SL,LC,by simp only;omega,by simp only;omega,by rfl,by rfl,k8,Xe,Bc,Cc⟩
 ·have hgv:g*v0≤4294967295*4294967295:=Nat.mul_le_mul (by omega) (by omega)
  have wm:IntKind.u64.wrap ((g:Int)*(v0:Int))=((g*v0:Nat):Int):=by rw[←Int.natCast_mul];exact fH _ (by omega)
  by_cases hT:((left*4294967296+u0:Nat):Int)<((g*v0:Nat):Int)
  ·obtain⟨g',Zv,wg,SL,LC⟩:=down (G.too hh (by omega))
   by_cases hB:(4294967296:Int)≤((left+v1:Nat):Int)
   ·obtain⟨c1,c2⟩:=G.broken SL (by omega)
    simp only[gD,k9,TZ,Im,Jd,G8,W4,hA,hB,hT,e1,e2,wk,wu,ws,wa,wm,wg,wl,VX,Nat.reduceEqDiff,Nat.reduceAdd]
    exact hQ _ g' LC (G.WE SL (by omega) c2) c1 rfl k8 s9 Xe s11 s12 Bc Cc s15
   ·simp only[gD,k9,TZ,Im,Jd,G8,W4,hA,hB,hT,e1,e2,wk,wu,ws,wa,wm,wg,wl,VX,Nat.reduceEqDiff,Nat.reduceAdd]
    exact⟨(g',left+v1),by simp only;omega,SL,LC,by simp only;omega,by simp only;omega,by rfl,by rfl,k8,Xe,Bc,Cc⟩
  ·simp only[gD,k9,TZ,Im,Jd,G8,W4,hA,hT,e1,e2,wk,wu,ws,wa,wm,VX,Nat.reduceEqDiff,Nat.reduceAdd]
   exact hQ _ g hq (G.WE hh (by omega) (by omega)) (by omega) G8 k8 s9 Xe s11 s12 Bc Cc s15
theorem Lb {X S S' R V q Q P w:Nat} (hs:S=q*V+S') (h:X+P*S+P*w*V*Q=R):X+P*S'+P*V*(q+w*Q)=R:=by
 subst hs
 grind
theorem ZG {DS ws W9 vs:List Nat} {N m n v1 v0 A s:Nat} {ρ:cP} {Q:VQ} (hN:DS.length=N) (hm:m+(n+2)=N) (Df:N≤70368744177664) (Ik:∀d∈DS,d<4294967296) (hws:ws.take (n+2)=vs) (hwl:ws.length=n+3) (D3:vs.length=n+2) (Gm:∀d∈vs,d<4294967296) (f1:vs[n+1]? = some v1) (f0:vs[n]? = some v0) (lA:1≤v1)
  (hA:val 4294967296 DS=A) (B4:val 4294967296 (DS.drop m)<val 4294967296 vs) (iK:W9.length=m) (lC:∀d∈W9,d<4294967296)
  (g8:ρ 8=VI s) (g9:ρ 9 = .ref 0 0 0 N N) (g10:ρ 10 = .ref 1 0 0 (n+2) (n+3)) (g11:ρ 11=VK .u64 v1) (g12:ρ 12=VK .u64 v0) (g13:ρ 13 = .ref 2 0 0 m m) (g14:ρ 14=VI ((m:Int)-1))
  (hQ:∀(aZ:cP) (us os:List Nat),aZ 8=VI s→aZ 9 = .ref 0 0 0 N N→aZ 13 = .ref 2 0 0 m m→us.length=N→(∀d∈us,d<4294967296)→os.length=m→(∀d∈os,d<4294967296)→val 4294967296 us+val 4294967296 vs*val 4294967296 os=A→val 4294967296 us<val 4294967296 vs→Q (.exit 0) aZ (H3 us ws os)) :
  VW ⟨true,false⟩ 0 (.loop nN) Q ρ (H3 DS ws W9):=by
 have hVb:=oM Gm
 rw[D3] at hVb
 refine bC (fun(t:Nat×List Nat×List Nat) aZ H=>t.1≤m∧H=H3 t.2.1 ws t.2.2∧t.2.1.length=N∧(∀d∈t.2.1,d<4294967296)∧t.2.2.length=m∧(∀d∈t.2.2,d<4294967296)∧val 4294967296 (t.2.1.drop t.1)<val 4294967296 vs∧val 4294967296 t.2.1+4294967296^t.1*val 4294967296 vs*val 4294967296 (t.2.2.drop t.1)=A ∧
  aZ 8=VI s∧aZ 9 = .ref 0 0 0 N N∧aZ 10 = .ref 1 0 0 (n+2) (n+3)∧aZ 11=VK .u64 v1∧aZ 12=VK .u64 v0∧aZ 13 = .ref 2 0 0 m m∧aZ 14=VI ((t.1:Int)-1)) (fun t=>t.1) (m,DS,W9) ⟨Nat.le_refl _,rfl,hN,Ik,iK,lC,B4,by rw[List.drop_of_length_le (by simp only;omega)];simpa[val] using hA,g8,g9,g10,g11,g12,g13,g14⟩ ?_
 rintro⟨j,us,os⟩ Nu H ⟨hj,rfl,OX,Ik,iK,lC,bD,hv,k8,k9,Xe,TZ,Im,Bc,Cc⟩
 simp only at hj OX Ik iK lC bD hv Cc
 by_cases hz:(0:Int)≤(j:Int)-1
 ·obtain⟨i,rfl⟩:∃i,j=i+1:=⟨j-1,by omega⟩
  have Km:((i+1:Nat):Int)-1=(i:Int):=by omega
  rw[Km] at Cc hz
  obtain⟨SI,Ch,Oh,hsW,YN,XQ,zD⟩:=U5 (n:=n+2) OX (by omega) Ik hVb bD
  generalize Wc:(us.drop i).take (n+2+1)=iH at *
  have NW:∀d∈iH,d<4294967296:=fun d hd=>by rw[←Wc] at hd;exact Ik d (List.mem_of_mem_drop (List.mem_of_mem_take hd))
  obtain⟨u2,hu2⟩:∃u2,us[i+(n+2)]? = some u2:=⟨_,List.getElem?_eq_getElem (by omega)⟩
  obtain⟨u1,Z7⟩:∃u1,us[i+(n+1)]? = some u1:=⟨_,List.getElem?_eq_getElem (by omega)⟩
  obtain⟨u0,hu0⟩:∃u0,us[i+n]? = some u0:=⟨_,List.getElem?_eq_getElem (by omega)⟩
  have G:vS 4294967296 iH vs n u2 u1 u0 v1 v0:=⟨by decide,NW,Gm,Oh,D3,by rw[zD _ (by omega)];exact hu2,by rw[zD _ (by omega)];exact Z7,by rw[zD _ (by omega)];exact hu0,f1,f0,lA,hsW⟩
  have lu2:=G.afH
  have lu1:=G.Zi
  have lv1:=G.T0
  have qlt:=G.abS
  have HE:=G.HE
  have afZ:pV (.ref 1 0 0 (n+2) (n+3)) (H3 us ws os)=some (VI ((n+2:Nat):Int)):=fM amU
  have w1:IntKind.i64.wrap ((i:Int)+((n+2:Nat):Int))=((i+(n+2):Nat):Int):=by rw[←Int.natCast_add];exact wrapN _ rfl (by omega)
  have w2:IntKind.i64.wrap (((i+(n+2):Nat):Int)-1)=((i+(n+1):Nat):Int):=wrapN _ (by omega) (by omega)
  have e2:bJ 1 (.ref 0 0 0 N N) (VI ((i+(n+2):Nat):Int)) (H3 us ws os)=some (.ptr 0 0 (i+(n+2)) 0):=by rw[bB Ca (by omega),Nat.zero_add]
  have e1:bJ 1 (.ref 0 0 0 N N) (VI ((i+(n+1):Nat):Int)) (H3 us ws os)=some (.ptr 0 0 (i+(n+1)) 0):=by rw[bB Ca (by omega),Nat.zero_add]
  have l2:dN false 1 (.ptr 0 0 (i+(n+2)) 0) (H3 us ws os)=some (uV u2):=iQ Ca hu2
  have l1:dN false 1 (.ptr 0 0 (i+(n+1)) 0) (H3 us ws os)=some (uV u1):=iQ Ca Z7
  have wu2:IntKind.u64.wrap (u2:Int)=(u2:Int):=fH _ (by omega)
  have wu1:IntKind.u64.wrap (u1:Int)=(u1:Int):=fH _ (by omega)
  have ws2:=DJ u2 .u64 lu2
  have wa:IntKind.u64.wrap (((u2*4294967296:Nat):Int)+(u1:Int))=((u2*4294967296+u1:Nat):Int):=by rw[←Int.natCast_add];exact fH _ (by omega)
  have q1:=Ud (u2*4294967296+u1) v1 (by omega) lA
  have q2:=OL (u2*4294967296+u1) v1 lA
  simp only[nN,k8,k9,Xe,TZ,Im,Bc,Cc,hz,afZ,w1,w2,e1,e2,l1,l2,wu1,wu2,ws2,wa,q1,q2,VX,Nat.reduceEqDiff,Nat.reduceAdd]
  have hh:=Nat.mod_add_div (u2*4294967296+u1) v1
  have hml:=Nat.mod_lt (u2*4294967296+u1) lA
  have hdl:(u2*4294967296+u1) / v1≤u2*4294967296+u1:=Nat.div_le_self _ _
  have O4:val 4294967296 iH / val 4294967296 vs≤(u2*4294967296+u1) / v1:=by
   have t1:=(C7 (n:=n+1) (xs:=iH) NW (by omega) (by rw[zD _ (by omega)];exact hu2) (by rw[zD _ (by omega)];exact Z7)).2
   have t2:=(zQ (n:=n+1) Gm D3 f1).1
   rw[Nat.le_div_iff_mul_le lA]
   have t3:val 4294967296 iH / val 4294967296 vs*(v1*4294967296^(n+1))≤val 4294967296 iH / val 4294967296 vs*val 4294967296 vs:=Nat.mul_le_mul_left _ t2
   have t4:=Nat.div_mul_le_self (val 4294967296 iH) (val 4294967296 vs)
   have t5:val 4294967296 iH / val 4294967296 vs*v1*4294967296^(n+1)<(u2*4294967296+u1+1)*4294967296^(n+1):=by rw[Nat.mul_assoc];omega
   have:=Nat.lt_of_mul_lt_mul_right t5
   omega
  refine S5 (k:=i+(n+2)) G OX (by omega) (by omega) Df (by rw[show i+(n+2)-2=i+n by omega];exact hu0) k9 TZ Im (by rfl) (by rfl) (by rfl) (by rw[Nat.mul_comm ((u2*4294967296+u1) / v1)];omega) O4 (by omega) (by omega) ?_
  intro Te g' hq LC hgW r17 r8 r9 r10 r11 r12 r13 r14 r15
  have QI:Te 15=VI ((i+(n+2):Nat):Int):=r15
  have r8':Te 8=VI s:=r8.trans k8
  have r9':Te 9 = .ref 0 0 0 N N:=r9.trans k9
  have ahD:Te 10 = .ref 1 0 0 (n+2) (n+3):=r10.trans Xe
  have ajC:Te 11=VK .u64 v1:=r11.trans TZ
  have O8:Te 12=VK .u64 v0:=r12.trans Im
  have QT:Te 13 = .ref 2 0 0 m m:=r13.trans Bc
  have Q3:Te 14=VI i:=r14.trans Cc
  have w3:IntKind.i64.wrap (((i+(n+2):Nat):Int)+1)=((i+(n+3):Nat):Int):=wrapN _ (by omega) (by omega)
  have YZ:Fs 1 (.ref 0 0 0 N N) (some (VI i)) (some (VI ((i+(n+3):Nat):Int))) none (H3 us ws os)=some (.ref 0 0 i (n+3) (N-i)):=by
   rw[Kw Ca (by omega) (by omega),Nat.zero_add,Nat.add_sub_cancel_left]
  simp only[r8',r9',ahD,ajC,O8,QT,Q3,QI,r17,w3,YZ,VX,Nat.reduceEqDiff,Nat.reduceAdd]
  have xB:g'*val 4294967296 vs≤val 4294967296 iH+val 4294967296 vs:=by
   have:=Nat.mul_le_mul_right (val 4294967296 vs) LC
   rw[Nat.add_mul,Nat.one_mul] at this
   have:=Nat.div_mul_le_self (val 4294967296 iH) (val 4294967296 vs)
   omega
  refine kI rfl ((SA (pre:=us.take i) (iH:=iH) (post:=us.drop (i+(n+2+1))) (L:=n+3) (o:=i) (by rw[←SI];exact Ca) (amU (us:=us) (ws:=ws) (os:=os)) (by decide) (Nat.zero_le _) Ch Oh (by omega) hws (by omega) (by omega) NW Gm hgW xB).mono ?_)
  rintro r H' ⟨qT,rfl,zA,Zt,hr⟩
  generalize adE:us.take i++qT++us.drop (i+(n+2+1))=EG at *
  have Hi:(H3 us ws os).set 0 (.row 0 (EG.map uV) 1 true)=H3 EG ws os:=rfl
  rw[Hi]
  have afP:EG.length=N:=by rw[←adE,List.length_append,List.length_append,Ch,zA,List.length_drop];omega
  have adO:∀d∈EG,d<4294967296:=fun d hd=>by
   rw[←adE,List.mem_append,List.mem_append] at hd
   rcases hd with(hd | hd) | hd
   ·exact Ik d (List.mem_of_mem_take hd)
   ·exact Zt d hd
   ·exact Ik d (List.mem_of_mem_drop hd)
  have Sk:EG.drop i=qT++us.drop (i+(n+2+1)):=by rw[←adE,List.append_assoc,List.drop_append,List.drop_of_length_le (by omega),Ch];simp
  have R0:EG.take i=us.take i:=by rw[←adE,List.append_assoc,List.take_append_of_le_length (by omega),List.take_of_length_le (by omega)]
  have Qz:val 4294967296 (EG.drop i)=val 4294967296 qT:=by rw[Sk,yQ,XQ,Nat.mul_zero,Nat.add_zero]
  have digit:∀q:Nat,q=val 4294967296 iH / val 4294967296 vs→val 4294967296 qT=val 4294967296 iH % val 4294967296 vs →
    val 4294967296 (EG.drop i)<val 4294967296 vs∧val 4294967296 EG+4294967296^i*val 4294967296 vs*val 4294967296 ((os.set i q).drop i)=A:=by
   rintro q RD hse
   have acN:=Nat.mod_lt (val 4294967296 iH) HE
   refine⟨by rw[Qz,hse];exact acN,?_⟩
   have h1:=Nat.div_add_mod (val 4294967296 iH) (val 4294967296 vs)
   rw[←RD,←hse,Nat.mul_comm] at h1
   have h2:=pC (b:=4294967296) us i
   have h3:=pC (b:=4294967296) EG i
   rw[R0,Ch,Qz] at h3
   rw[Ch,YN] at h2
   rw[set_drop (by omega),rJ,h3]
   rw[h2,Nat.pow_succ] at hv
   exact Lb h1.symm hv
  have e3:∀d:Nat,bJ 1 (.ref 2 0 0 m m) (VI i) (H3 EG ws os)=some (.ptr 2 0 i 0)∧cR 0 1 (.ptr 2 0 i 0) (uV d) (H3 EG ws os)=some (H3 EG ws (os.set i d)):=fun d=>by
   refine⟨by rw[bB adB (by omega),Nat.zero_add],?_⟩
   rw[gI (f:=uV) (e:=1) adB (by omega) (Nat.zero_le _) rfl rfl]
   rfl
  have wi:IntKind.i64.wrap ((i:Int)-1)=(i:Int)-1:=wrap64 (by omega) (by omega)
  rcases hr with⟨rfl,hr⟩ | ⟨rfl,OV,hr2⟩
  ·have DT:g'*val 4294967296 vs≤val 4294967296 iH:=by omega
   have RD:g'=val 4294967296 iH / val 4294967296 vs:=by
    have:=(Nat.le_div_iff_mul_le HE).2 DT
    omega
   have hse:val 4294967296 qT=val 4294967296 iH % val 4294967296 vs:=by
    have h1:=Nat.div_add_mod (val 4294967296 iH) (val 4294967296 vs)
    rw[←RD,Nat.mul_comm] at h1
    omega
   obtain⟨d1,d2⟩:=digit g' RD hse
   simp only[r8',r9',ahD,ajC,O8,QT,Q3,QI,r17,(e3 g').1,(e3 g').2,wi,wrap32,Nat.mod_eq_of_lt hgW,VX,Nat.reduceEqDiff,Nat.reduceAdd]
   exact⟨(i,EG,os.set i g'),by simp only;omega,by omega,rfl,afP,adO,by rw[List.length_set];exact iK,lO lC hgW,d1,d2,by (repeat' apply And.intro)<;>first | rfl | trivial⟩
  ·have Zq:val 4294967296 iH / val 4294967296 vs<g':=(Nat.div_lt_iff_lt_mul HE).2 OV
   have hg1:1≤g':=Nat.lt_of_le_of_lt (Nat.zero_le _) Zq
   obtain⟨q,rfl⟩:∃q,g'=q+1:=⟨g'-1,by omega⟩
   have RD:q=val 4294967296 iH / val 4294967296 vs:=by omega
   have hse:val 4294967296 qT=val 4294967296 iH % val 4294967296 vs:=by
    have h1:=Nat.div_add_mod (val 4294967296 iH) (val 4294967296 vs)
    rw[←RD,Nat.mul_comm] at h1
    rw[Nat.add_mul,Nat.one_mul] at hr2
    omega
   have wq:IntKind.u64.wrap (((q+1:Nat):Int)-1)=(q:Int):=by rw[show ((q+1:Nat):Int)-1=(q:Int) by omega];exact fH _ (by omega)
   obtain⟨d1,d2⟩:=digit q RD hse
   simp only[r8',r9',ahD,ajC,O8,QT,Q3,QI,r17,wq,(e3 q).1,(e3 q).2,wi,wrap32,Nat.mod_eq_of_lt (show q<4294967296 by omega),VX,Nat.reduceEqDiff,Nat.reduceAdd]
   exact⟨(i,EG,os.set i q),by simp only;omega,by omega,rfl,afP,adO,by rw[List.length_set];exact iK,lO lC (by omega),d1,d2,by (repeat' apply And.intro)<;>first | rfl | trivial⟩
 ·have RZ:j=0:=by omega
  subst RZ
  rw[List.drop_zero] at bD
  rw[Nat.pow_zero,Nat.one_mul,List.drop_zero] at hv
  simp only[nN,k8,k9,Xe,TZ,Im,Bc,Cc,hz,VX,Nat.reduceEqDiff,Nat.reduceAdd]
  exact hQ _ us os k8 k9 Bc OX Ik iK lC hv bD
end Go.PM
namespace Go.PM
theorem J6 {a n:Nat} (hn:(aC 4294967296 a).length=n+1):∃d,(aC 4294967296 a)[n]? = some d∧d≠0∧d<4294967296:=by
 obtain⟨d,hd⟩:∃d,(aC 4294967296 a)[n]? = some d:=⟨_,List.getElem?_eq_getElem (by omega)⟩
 refine⟨d,hd,fun h0 => ?_,fF (by decide) a d (List.mem_of_getElem? hd)⟩
 have:=Mq (b:=4294967296) (by decide) a
 rw[List.getLast?_eq_getElem?,hn,Nat.add_sub_cancel,hd,h0] at this
 exact this rfl
theorem Qh {a d:Nat} (h:aC 4294967296 a=[d]):a=d∧0<d∧d<4294967296:=by
 have h1:=cA (b:=4294967296) (by decide) a
 rw[h,val_one] at h1
 obtain⟨e,h2,h3,h4⟩:=J6 (a:=a) (n:=0) (by rw[h];rfl)
 rw[h] at h2
 cases h2
 exact⟨h1.symm,by omega,h4⟩
theorem xV (a b:Nat) (hb:b≠0) (ha:(aC 4294967296 a).length≤17592186044416) (vB:(aC 4294967296 b).length≤17592186044416):TC 173 [bH a,bH b] (.dL [bH (a / b),bH (a % b)]):=by
 refine TC.walk ⟨true,false⟩ HD rfl (Nat.le_of_ble_eq_true rfl) (by simp[aJ,bM]) (by simp[eQ,pR,pW]) ?_
 have c1:=jV a b ha vB
 by_cases E6:fC a b<0
 ·have bD:a<b:=by
   unfold fC at E6
   split at E6
   ·assumption
   ·split at E6<;>omega
  simp only[rK,oU,c1,E6,VX,Nat.reduceEqDiff,Nat.reduceAdd]
  rw[Nat.div_eq_of_lt bD,Nat.mod_eq_of_lt bD]
  exact bG (d:=6) vZ (aH (bM a))
 have DT:b≤a:=by
  unfold fC at E6
  split at E6
  ·omega
  ·omega
 have hbn:(aC 4294967296 b).length≠0:=fun h=>hb ((lM (b:=4294967296) (by decide)).1 (List.length_eq_zero_iff.1 h))
 by_cases h1:(((aC 4294967296 b).length:Nat):Int)=1
 ·obtain⟨d,hd⟩:∃d,aC 4294967296 b=[d]:=by
   match hx:aC 4294967296 b with
   | []=>rw[hx] at hbn;exact absurd rfl hbn
   | [d]=>exact⟨d,rfl⟩
   | _::_::_=>rw[hx] at h1;simp at h1;omega
  obtain⟨rfl,Cl,hdW⟩:=Qh hd
  have c2:=vR a b Cl hdW ha
  have e0:pV (bH b) []=some (VI 1):=by rw[bH,AY,eK,hd];rfl
  have e1:bJ 1 (bH b) (VI 0) []=some (.cK (uV b) 0):=by
   rw[bH,hd]
   exact aI (f:=uV) (t := .op) (H:=[]) (size:=1) (k := .i64) (xs:=[b]) (i:=0) rfl rfl
  have e2:=pN (H:=[]) (z:=[.int .u32 0]) (v:=uV (a % b)) rfl rfl rfl
  have e3:=Zs (size:=1) (v:=Value.int .u32 ((b:Nat):Int))
  simp only[rK,oU,c1,E6,e0,e1,c2,e2,VX,Nat.reduceEqDiff,Nat.reduceAdd]
  refine Kp (ds:=[a % b]) (t := .cl 1) (fun d hd => ?_) (by show 1≤70368744177664;decide) (val_one _) fun t' ht => ?_
  ·rw[List.mem_singleton] at hd
   subst hd
   exact Nat.lt_of_lt_of_le (Nat.mod_lt _ Cl) (Nat.le_of_lt hdW)
  ·simp only[VX,Nat.reduceEqDiff,Nat.reduceAdd]
   exact bG (d:=6) (aH (bM _)) (Xh (d:=5) ht)
 obtain⟨n,hn⟩:∃n,(aC 4294967296 b).length=n+2:=⟨(aC 4294967296 b).length-2,by omega⟩
 obtain⟨t,ht,ht0,htW⟩:=J6 (a:=b) (n:=n+1) hn
 obtain⟨s,hs,cl,X6⟩:=S6 ht0 htW
 have hS:0<2^s:=Nat.pow_pos (by decide)
 have hSW:2^s*2^(32-s)=4294967296:=by rw[←Nat.pow_add,show s+(32-s)=32 by omega]
 have hla:=dR (b:=4294967296) (by decide) DT
 have e0:pV (bH b) []=some (VI ((n+2:Nat):Int)):=by rw[bH,AY,eK,hn]
 have w0:IntKind.i64.wrap (((n+2:Nat):Int)-1)=((n+1:Nat):Int):=wrapN _ (by omega) (by omega)
 have Vr:¬(((n+2:Nat):Int)=1):=by omega
 have e1:bJ 1 (bH b) (VI ((n+1:Nat):Int)) []=some (.cK (uV t) 0):=aI (f:=uV) (t := .op) (H:=[]) (size:=1) (k := .i64) ht rfl
 simp only[rK,oU,c1,E6,e0,Vr,w0,e1,cl,VX,Nat.reduceEqDiff,Nat.reduceAdd]
 have fa:[bH a,VI (s:Int)].mapM (fz depth ([]:aA))=some [bH a,VI (s:Int)]:=fz2 (aG (bM a)) (aG rfl)
 refine FC.call (yA a s hs ha) rfl fa ?_
 rintro r L ⟨GF,rfl,rfl,hAl,hAd,hAv,hAt⟩
 simp only[VX,Nat.reduceEqDiff,Nat.reduceAdd]
 have fb:∀H:aA,[bH b,VI (s:Int)].mapM (fz depth H)=some [bH b,VI (s:Int)]:=fun H=>fz2 (aG (bM b)) (aG rfl)
 refine FC.call (yA b s hs vB) rfl (fb _) ?_
 rintro r L ⟨DR,rfl,rfl,hBl,hBd,hBv,hBt⟩
 rw[hn] at hBl
 simp only[hn,List.length_singleton,VX,Nat.reduceEqDiff,Nat.reduceAdd]
 have aiY:b*2^s<4294967296^(n+2):=by
  have h2:=(zQ (n:=n+1) (fF (b:=4294967296) (by decide) b) hn ht).2
  rw[cA (by decide)] at h2
  have h3:b*2^s<(t+1)*4294967296^(n+1)*2^s:=Nat.mul_lt_mul_of_pos_right h2 hS
  have h4:(t+1)*4294967296^(n+1)*2^s=(t+1)*2^s*4294967296^(n+1):=by grind
  have h5:(t+1)*2^s≤4294967296:=by
   have h6:t*2^s<2^(32-s)*2^s:=by rw[Nat.mul_comm (2^(32-s)),hSW];exact X6
   have h7:=Nat.lt_of_mul_lt_mul_right h6
   have h8:(t+1)*2^s≤2^(32-s)*2^s:=Nat.mul_le_mul_right _ h7
   rwa [Nat.mul_comm (2^(32-s)),hSW] at h8
  have h9:(t+1)*2^s*4294967296^(n+1)≤4294967296*4294967296^(n+1):=Nat.mul_le_mul_right _ h5
  have h10:4294967296*4294967296^(n+1)=4294967296^(n+2):=by rw[Nat.pow_succ 4294967296 (n+1)];exact Nat.mul_comm _ _
  omega
 have hVl:(aC 4294967296 (b*2^s)).length=n+2:=by
  have h2:=lW (b:=4294967296) (by decide) aiY
  have h3:b≤b*2^s:=Nat.le_mul_of_pos_right b hS
  have h4:=dR (b:=4294967296) (by decide) h3
  omega
 refine rA (rows:=DR) (m:=b*2^s) (by rfl) (by omega) (by omega) (by omega) (fun d hd=>hBd d (List.mem_of_mem_take hd)) (by rw[List.take_of_length_le (by omega)];exact hBv) fun k hk he => ?_
 have hk2:k=n+2:=by
  have:=congrArg List.length he
  rw[hVl,List.length_take] at this
  omega
 subst hk2
 generalize OU:aC 4294967296 (b*2^s)=vs at *
 have Gm:∀d∈vs,d<4294967296:=by rw[←OU];exact fF (by decide) _
 have Lx:val 4294967296 vs=b*2^s:=by rw[←OU];exact cA (by decide) _
 obtain⟨v1,f1⟩:∃v1,vs[n+1]? = some v1:=⟨_,List.getElem?_eq_getElem (by omega)⟩
 obtain⟨v0,f0⟩:∃v0,vs[n]? = some v0:=⟨_,List.getElem?_eq_getElem (by omega)⟩
 have hv1:1≤v1:=by
  obtain⟨d,hd,Cl,_⟩:=J6 (a:=b*2^s) (n:=n+1) (by rw[OU];exact hVl)
  rw[OU,f1] at hd
  cases hd
  omega
 have b1:DR[n+1]? = some v1:=by rw[←f1,←he,List.getElem?_take_of_lt (by omega)]
 have b0:DR[n]? = some v0:=by rw[←f0,←he,List.getElem?_take_of_lt (by omega)]
 have lv1:=Gm v1 (List.mem_of_getElem? f1)
 have lv0:=Gm v0 (List.mem_of_getElem? f0)
 have x1:bJ 1 (.ref 1 0 0 (n+2) (n+2+1)) (VI ((n+1:Nat):Int)) [.row 0 (GF.map uV) 1 true,.row 0 (DR.map uV) 1 true]=some (.ptr 1 0 (n+1) 0):=by rw[bB (by rfl) (by omega),Nat.zero_add]
 have x0:bJ 1 (.ref 1 0 0 (n+2) (n+2+1)) (VI ((n:Nat):Int)) [.row 0 (GF.map uV) 1 true,.row 0 (DR.map uV) 1 true]=some (.ptr 1 0 n 0):=by rw[bB (by rfl) (by omega),Nat.zero_add]
 have y1:dN false 1 (.ptr 1 0 (n+1) 0) [.row 0 (GF.map uV) 1 true,.row 0 (DR.map uV) 1 true]=some (uV v1):=iQ (rows:=DR) (g:=0) (w:=true) (by rfl) b1
 have y0:dN false 1 (.ptr 1 0 n 0) [.row 0 (GF.map uV) 1 true,.row 0 (DR.map uV) 1 true]=some (uV v0):=iQ (rows:=DR) (g:=0) (w:=true) (by rfl) b0
 have z0:pV (.ref 1 0 0 (n+2) (n+2+1)) [.row 0 (GF.map uV) 1 true,.row 0 (DR.map uV) 1 true]=some (VI ((n+2:Nat):Int)):=fM (r:=(DR.map uV,1,true)) (by rfl)
 have z1:pV (.ref 0 0 0 ((aC 4294967296 a).length+1) ((aC 4294967296 a).length+1)) [.row 0 (GF.map uV) 1 true,.row 0 (DR.map uV) 1 true]=some (VI (((aC 4294967296 a).length+1:Nat):Int)):=fM (r:=(GF.map uV,1,true)) (by rfl)
 have w2:IntKind.i64.wrap (((n+2:Nat):Int)-2)=((n:Nat):Int):=wrapN _ (by omega) (by omega)
 have wv1:IntKind.u64.wrap (v1:Int)=(v1:Int):=fH _ (by omega)
 have wv0:IntKind.u64.wrap (v0:Int)=(v0:Int):=fH _ (by omega)
 obtain⟨m,hm⟩:∃m,m+(n+2)=(aC 4294967296 a).length+1:=⟨(aC 4294967296 a).length+1-(n+2),by omega⟩
 have wm:IntKind.i64.wrap ((((aC 4294967296 a).length+1:Nat):Int)-((n+2:Nat):Int))=(m:Int):=wrapN _ (by omega) (by omega)
 have wm1:IntKind.i64.wrap ((m:Int)-1)=(m:Int)-1:=wrap64 (by omega) (by omega)
 have mk:=TF m 0 (by omega) (H:=[.row 0 (GF.map uV) 1 true,.row 0 (DR.map uV) 1 true])
 have z2:pV (.ref 2 0 0 m m) (H3 GF DR (List.replicate m 0))=some (VI m):=fM (r:=((List.replicate m 0).map uV,1,true)) (by rfl)
 simp only[w0,x1,x0,y1,y0,z0,z1,w2,wv1,wv0,wm,mk,z2,wm1,List.length_cons,List.length_nil,VX,Nat.reduceEqDiff,Nat.reduceAdd]
 have B4:val 4294967296 (GF.drop m)<val 4294967296 vs:=by
  obtain⟨d,hd⟩:∃d,GF[(aC 4294967296 a).length]? = some d:=⟨_,List.getElem?_eq_getElem (by omega)⟩
  have h2:=(zQ (b:=4294967296) (xs:=GF.drop m) (n:=n+1) (t:=d) (fun x hx=>hAd x (List.mem_of_mem_drop hx)) (by rw[List.length_drop];omega) (by rw[List.getElem?_drop,show m+(n+1)=(aC 4294967296 a).length by omega];exact hd)).2
  have h3:=hAt d hd
  have h4:=(zQ (n:=n+1) (fF (b:=4294967296) (by decide) b) hn ht).1
  rw[cA (by decide)] at h4
  have h5:(d+1)*4294967296^(n+1)≤2^s*4294967296^(n+1):=Nat.mul_le_mul_right _ h3
  have h6:1*4294967296^(n+1)≤t*4294967296^(n+1):=Nat.mul_le_mul_right _ (by omega)
  have h7:1*4294967296^(n+1)*2^s≤b*2^s:=Nat.mul_le_mul_right _ (by omega)
  rw[Lx]
  rw[Nat.one_mul,Nat.mul_comm] at h7
  omega
 refine ZG (DS:=GF) (ws:=DR) (W9:=List.replicate m 0) (vs:=vs) (N:=(aC 4294967296 a).length+1) (m:=m) (n:=n) (A:=a*2^s) (s:=s) hAl hm (by omega) hAd he hBl hVl Gm f1 f0 hv1 hAv B4 (by simp) (Ad (by decide) _) (by rfl) (by rfl) (by rfl) (by rfl) (by rfl) (by rfl) (by rfl) ?_
 intro wO us os r8 r9 r13 OX Ik iK lC hv bD
 rw[Lx] at hv bD
 have hq:val 4294967296 os=a / b:=by
  rw[←Nat.mul_div_mul_right a b hS,←hv,Nat.add_mul_div_left _ _ (by omega),Nat.div_eq_of_lt bD,Nat.zero_add]
 have hr:val 4294967296 us=a % b*2^s:=by
  rw[←Nat.mul_mod_mul_right,←hv,Nat.add_mul_mod_self_left,Nat.mod_eq_of_lt bD]
 simp only[r9,VX,Nat.reduceEqDiff,Nat.reduceAdd]
 refine rA (rows:=us) (m:=a % b*2^s) Ca (by omega) (Nat.le_refl _) (by omega) (fun d hd=>Ik d (List.mem_of_mem_take hd)) (by rw[List.take_of_length_le (by omega)];exact hr) fun k hk he2 => ?_
 have z3:pV (.ref 0 0 0 k ((aC 4294967296 a).length+1)) (H3 us DR os)=some (VI k):=fM Ca
 simp only[z3,VX,Nat.reduceEqDiff,Nat.reduceAdd]
 refine Vn (us:=us) (k:=k) (N:=(aC 4294967296 a).length+1) (s:=s) (w0:=2^(32-s)) hs hSW OX hk (by omega) Ik r8 (by rfl) (by rfl) (by rfl) ?_
 intro Nu EG q9 q13 afP adO hv'
 have aqK:Nu 13 = .ref 2 0 0 m m:=q13.trans r13
 have De:val 4294967296 (EG.take k)=a % b:=by
  rw[hv',he2,cA (by decide),Nat.mul_div_cancel _ hS]
 simp only[q9,aqK,VX,Nat.reduceEqDiff,Nat.reduceAdd]
 refine rA (rows:=os) (m:=a / b) adB (by omega) (Nat.le_refl _) (by omega) (fun d hd=>lC d (List.mem_of_mem_take hd)) (by rw[List.take_of_length_le (by omega)];exact hq) fun k2 hk2 he3 => ?_
 simp only[q9,VX,Nat.reduceEqDiff,Nat.reduceAdd]
 refine rA (rows:=EG) (m:=a % b) Ca (by omega) hk (by omega) (fun d hd=>adO d (List.mem_of_mem_take hd)) De fun k3 hk3 he4 => ?_
 simp only[VX,Nat.reduceEqDiff,Nat.reduceAdd]
 exact bG (d:=6) (Jq (d:=5) adB (by omega) hk2 he3) (Jq (d:=5) Ca (by omega) (by omega) he4)
end Go.PM
namespace Go.PM
abbrev H2 (us os:List Nat):aA:=[.row 0 (us.map tV) 1 true,.row 0 (os.map tV) 1 true]
theorem SP {us os:List Nat}:aP (H2 us os) 0 0=some (us.map tV,1,true):=rfl
theorem aoK {us os:List Nat}:aP (H2 us os) 1 0=some (os.map tV,1,true):=rfl
theorem adN {P a Z:Nat} {y:Int} (h:(a:Int)+(P:Int)*y=(Z:Int)) (ha:a<P) (hZ:Z<P):y=0∧a=Z:=by
 have hy:y=0:=by
  rcases Int.lt_trichotomy y 0 with h1 | h1 | h1
  ·have:(P:Int)*y≤(P:Int)*(-1):=Int.mul_le_mul_of_nonneg_left (by omega) (by omega)
   omega
  ·exact h1
  ·have:(P:Int)*1≤(P:Int)*y:=Int.mul_le_mul_of_nonneg_left (by omega) (by omega)
   omega
 subst hy
 rw[Int.mul_zero] at h
 exact⟨rfl,by omega⟩
theorem Tb {us:List Nat} {i n N V:Nat} (hN:us.length=N) (cQ:i+n<N) (hd:∀d∈us,d<1000000000) (hV:V<1000000000^n) (B4:val 1000000000 (us.drop (i+1))<V) :
  us=us.take i++(us.drop i).take (n+1)++us.drop (i+(n+1))∧(us.take i).length=i∧((us.drop i).take (n+1)).length=n+1∧val 1000000000 ((us.drop i).take (n+1))<1000000000*V∧val 1000000000 (us.drop i)=val 1000000000 ((us.drop i).take (n+1))∧val 1000000000 (us.drop (i+(n+1)))=0∧∀j,j<n+1→((us.drop i).take (n+1))[j]? = us[i+j]? := by
 obtain⟨x,hx⟩:∃x,us[i]? = some x:=⟨_,List.getElem?_eq_getElem (by omega)⟩
 have lx:=hd x (List.mem_of_getElem? hx)
 have h1:=sJ (b:=1000000000) hx
 have h2:val 1000000000 (us.drop i)<1000000000*V:=by
  have:1000000000*(val 1000000000 (us.drop (i+1))+1)≤1000000000*V:=Nat.mul_le_mul_left _ B4
  omega
 have h3:=pC (b:=1000000000) (us.drop i) (n+1)
 have h4:((us.drop i).take (n+1)).length=n+1:=by rw[List.length_take,List.length_drop];omega
 rw[h4,List.drop_drop] at h3
 have h5:val 1000000000 (us.drop (i+(n+1)))=0:=by
  rcases Nat.eq_zero_or_pos (val 1000000000 (us.drop (i+(n+1)))) with h | h
  ·exact h
  ·have h6:1000000000^(n+1)*1≤1000000000^(n+1)*val 1000000000 (us.drop (i+(n+1))):=Nat.mul_le_mul_left _ h
   have h7:1000000000*V≤1000000000^(n+1):=by rw[Nat.pow_succ,Nat.mul_comm];exact Nat.mul_le_mul_right _ (by omega)
   omega
 rw[h5,Nat.mul_zero,Nat.add_zero] at h3
 refine⟨?_,by rw[List.length_take];omega,h4,by omega,h3,h5,fun j hj => ?_⟩
 ·rw[List.append_assoc,←List.drop_drop,List.take_append_drop,List.take_append_drop]
 ·rw[List.getElem?_take_of_lt hj,List.getElem?_drop]
theorem leT {g:Nat} (h:(1000000000:Int)≤(g:Int)):1000000000≤g:=by omega
theorem ZN {g:Nat} (h:¬(1000000000:Int)≤(g:Int)):g<1000000000:=by omega
theorem ltC {a b:Nat} (h:(a:Int)<(b:Int)):a<b:=by omega
theorem atO {a b:Nat} (h:¬(a:Int)<(b:Int)):b≤a:=by omega
theorem Nb {a:Nat} (h:a*1000000000≤9223372036854775807):IntKind.i64.wrap ((a:Int)*1000000000)=((a*1000000000:Nat):Int):=wrapN _ (by omega) h
theorem MH {a b:Nat} (h:a+b≤9223372036854775807):IntKind.i64.wrap ((a:Int)+(b:Int))=((a+b:Nat):Int):=wrapN _ (by omega) h
theorem Ws {a b:Nat} (h:a*b≤9223372036854775807):IntKind.i64.wrap ((a:Int)*(b:Int))=((a*b:Nat):Int):=wrapN _ (by simp) h
theorem x17 {a:Nat} (h:a<1000000000):a*1000000000≤9223372036854775807:=by omega
theorem x18 {a b:Nat} (h:a<1000000000) (hb:b<1000000000):a*1000000000+b≤1000000000000000000:=by omega
theorem PE {iH vs us os:List Nat} {n u2 u1 u0 v1 v0 N i g left:Nat} (G:vS 1000000000 iH vs n u2 u1 u0 v1 v0) {ρ:cP} {Q:VQ} (hN:us.length=N) (hiN:i+(n+2)<N) (Df:N≤70368744177664) (hu0:us[i+n]? = some u0)
  (g13:ρ 13 = .ref 0 0 0 N N) (g14:ρ 14=iE vs) (g15:ρ 15=VI ((n+2:Nat):Int)) (g17:ρ 17=VI i) (g19:ρ 19=VI g) (g20:ρ 20=VI left) (hh:u2*1000000000+u1=g*v1+left) (hq:val 1000000000 iH / val 1000000000 vs≤g) (hl:left<1000000000) (hgb:g≤1000000000000000000)
  (hQ:∀(aZ:cP) (g':Nat),val 1000000000 iH / val 1000000000 vs≤g'→g'≤val 1000000000 iH / val 1000000000 vs+1→g'<1000000000→aZ 19=VI g'→aZ 12=ρ 12→aZ 13=ρ 13→aZ 14=ρ 14→aZ 15=ρ 15→aZ 16=ρ 16→aZ 17=ρ 17→Q (.exit 2) aZ (H2 us os)) :
  VW ⟨true,false⟩ 0 (.loop gB) Q ρ (H2 us os):=by
 have lv1:=G.T0
 have lv0:=G.Z0
 have lu0:=G.aeM
 have qlt:=G.abS
 have lA:=G.pos
 have D3:=G.Li
 refine bC (fun(t:Nat×Nat) aZ H=>H=H2 us os∧u2*1000000000+u1=t.1*v1+t.2∧val 1000000000 iH / val 1000000000 vs≤t.1∧t.2<1000000000∧t.1≤1000000000000000000 ∧
  aZ 13 = .ref 0 0 0 N N∧aZ 14=iE vs∧aZ 15=VI ((n+2:Nat):Int)∧aZ 17=VI i∧aZ 19=VI t.1∧aZ 20=VI t.2∧aZ 12=ρ 12∧aZ 16=ρ 16) (fun t=>1000000000-t.2) (g,left) ⟨rfl,hh,hq,hl,hgb,g13,g14,g15,g17,g19,g20,rfl,rfl⟩ ?_
 rintro⟨g,left⟩ Nu H ⟨rfl,hh,hq,hl,hgb,Bc,Cc,Jd,G8,k19,k20,Im,Z6⟩
 simp only at hh hq hl hgb k19 k20
 have f1:bJ 1 (iE vs) (VI ((n+1:Nat):Int)) (H2 us os)=some (.cK (tV v1) 0):=aI (f:=tV) (t := .op) (size:=1) (k := .i64) G.f1 rfl
 have f0:bJ 1 (iE vs) (VI (n:Int)) (H2 us os)=some (.cK (tV v0) 0):=aI (f:=tV) (t := .op) (size:=1) (k := .i64) G.f0 rfl
 have wn2:IntKind.i64.wrap (((n+2:Nat):Int)-2)=(n:Int):=wrapN _ (by omega) (by omega)
 have wn1:IntKind.i64.wrap (((n+2:Nat):Int)-1)=((n+1:Nat):Int):=wrapN _ (by omega) (by omega)
 have wi:IntKind.i64.wrap ((i:Int)+((n+2:Nat):Int))=((i+(n+2):Nat):Int):=wrapN _ (by omega) (by omega)
 have wi2:IntKind.i64.wrap (((i+(n+2):Nat):Int)-2)=((i+n:Nat):Int):=wrapN _ (by omega) (by omega)
 have e1:bJ 1 (.ref 0 0 0 N N) (VI ((i+n:Nat):Int)) (H2 us os)=some (.ptr 0 0 (i+n) 0):=by rw[bB SP (by omega),Nat.zero_add]
 have e2:dN false 1 (.ptr 0 0 (i+n) 0) (H2 us os)=some (VI (u0:Int)):=KC SP hu0
 have wl:IntKind.i64.wrap ((left:Int)+(v1:Int))=((left+v1:Nat):Int):=wrapN _ (by omega) (by omega)
 have down:val 1000000000 iH / val 1000000000 vs<g→∃g',g=g'+1∧IntKind.i64.wrap ((g:Int)-1)=(g':Int)∧u2*1000000000+u1=g'*v1+(left+v1)∧val 1000000000 iH / val 1000000000 vs≤g':=by
  intro h
  have hg1:1≤g:=Nat.lt_of_le_of_lt (Nat.zero_le _) h
  obtain⟨g',rfl⟩:∃g',g=g'+1:=⟨g-1,by omega⟩
  refine⟨g',rfl,wrapN _ (by omega) (by omega),?_,by omega⟩
  rw[hh,Nat.add_mul]
  omega
 have hmu:∀g':Nat,left+v1<1000000000→1000000000-(g',left+v1).2<1000000000-(g,left).2:=fun g' h=>by
  show 1000000000-(left+v1)<1000000000-left
  omega
 have hle:∀g':Nat,g=g'+1→g'≤1000000000000000000:=fun g' h=>by
  omega
 have arO:left*1000000000+u0≤9223372036854775807:=Nat.le_trans (x18 hl lu0) (by decide)
 have aqO:left*1000000000≤9223372036854775807:=x17 hl
 have ws:IntKind.i64.wrap ((left:Int)*1000000000)=((left*1000000000:Nat):Int):=Nb aqO
 have wa:IntKind.i64.wrap (((left*1000000000:Nat):Int)+(u0:Int))=((left*1000000000+u0:Nat):Int):=MH arO
 obtain⟨s13,s14,s15,s17⟩:Nu 13=ρ 13∧Nu 14=ρ 14∧Nu 15=ρ 15∧Nu 17=ρ 17:=⟨by rw[Bc,g13],by rw[Cc,g14],by rw[Jd,g15],by rw[G8,g17]⟩
 by_cases hA:(1000000000:Int)≤(g:Int)
 ·have hA':=leT hA
  obtain⟨g',Zv,wg,SL,LC⟩:=down (Nat.lt_of_lt_of_le qlt hA')
  by_cases hB:(1000000000:Int)≤((left+v1:Nat):Int)
  ·obtain⟨c1,c2⟩:=G.broken SL (leT hB)
   simp only[gB,Bc,Cc,Jd,G8,k19,k20,hA,hB,f1,wn1,wg,wl,VX,Nat.reduceEqDiff,Nat.reduceAdd]
   exact hQ _ g' LC (G.WE SL (Nat.le_of_lt c1) c2) c1 rfl Im s13 s14 s15 Z6 s17
  ·simp only[gB,Bc,Cc,Jd,G8,k19,k20,hA,hB,f1,wn1,wg,wl,VX,Nat.reduceEqDiff,Nat.reduceAdd]
   refine⟨(g',left+v1),hmu g' (ZN hB),SL,LC,ZN hB,hle g' Zv,?_⟩
   exact⟨rfl,rfl,Im,Z6⟩
 ·have hA':=ZN hA
  have hgv:g*v0≤999999999*999999999:=Nat.mul_le_mul (Nat.le_of_lt_succ hA') (Nat.le_of_lt_succ lv0)
  have wm:IntKind.i64.wrap ((g:Int)*(v0:Int))=((g*v0:Nat):Int):=Ws (Nat.le_trans hgv (by decide))
  by_cases hT:((left*1000000000+u0:Nat):Int)<((g*v0:Nat):Int)
  ·obtain⟨g',Zv,wg,SL,LC⟩:=down (G.too hh (ltC hT))
   by_cases hB:(1000000000:Int)≤((left+v1:Nat):Int)
   ·obtain⟨c1,c2⟩:=G.broken SL (leT hB)
    simp only[gB,Bc,Cc,Jd,G8,k19,k20,hA,hB,hT,f1,f0,e1,e2,wn1,wn2,wi,wi2,ws,wa,wm,wg,wl,VX,Nat.reduceEqDiff,Nat.reduceAdd]
    exact hQ _ g' LC (G.WE SL (Nat.le_of_lt c1) c2) c1 rfl Im s13 s14 s15 Z6 s17
   ·simp only[gB,Bc,Cc,Jd,G8,k19,k20,hA,hB,hT,f1,f0,e1,e2,wn1,wn2,wi,wi2,ws,wa,wm,wg,wl,VX,Nat.reduceEqDiff,Nat.reduceAdd]
    refine⟨(g',left+v1),hmu g' (ZN hB),SL,LC,ZN hB,hle g' Zv,?_⟩
    exact⟨rfl,rfl,Im,Z6⟩
  ·simp only[gB,Bc,Cc,Jd,G8,k19,k20,hA,hT,f0,e1,e2,wn2,wi,wi2,ws,wa,wm,VX,Nat.reduceEqDiff,Nat.reduceAdd]
   exact hQ _ g hq (G.WE hh (Nat.le_of_lt hA') (atO hT)) hA' k19 Im s13 s14 s15 Z6 s17
theorem MB {DS W9 vs:List Nat} {N m n v1 v0 A s:Nat} {ρ:cP} {Q:VQ} (hN:DS.length=N) (hm:m+(n+2)=N) (Df:N≤70368744177664) (Ik:∀d∈DS,d<1000000000) (D3:vs.length=n+2) (Gm:∀d∈vs,d<1000000000) (f1:vs[n+1]? = some v1) (f0:vs[n]? = some v0) (lA:1≤v1)
  (hA:val 1000000000 DS=A) (B4:val 1000000000 (DS.drop m)<val 1000000000 vs) (iK:W9.length=m) (lC:∀d∈W9,d<1000000000)
  (g12:ρ 12=VI s) (g13:ρ 13 = .ref 0 0 0 N N) (g14:ρ 14=iE vs) (g15:ρ 15=VI ((n+2:Nat):Int)) (g16:ρ 16 = .ref 1 0 0 m m) (g17:ρ 17=VI ((m:Int)-1))
  (hQ:∀(aZ:cP) (us os:List Nat),aZ 12=VI s→aZ 13 = .ref 0 0 0 N N→aZ 16 = .ref 1 0 0 m m→us.length=N→(∀d∈us,d<1000000000)→os.length=m→(∀d∈os,d<1000000000)→val 1000000000 us+val 1000000000 vs*val 1000000000 os=A→val 1000000000 us<val 1000000000 vs→Q (.exit 0) aZ (H2 us os)) :
  VW ⟨true,false⟩ 0 (.loop iO) Q ρ (H2 DS W9):=by
 have hVb:=oM Gm
 rw[D3] at hVb
 refine bC (fun(t:Nat×List Nat×List Nat) aZ H=>t.1≤m∧H=H2 t.2.1 t.2.2∧t.2.1.length=N∧(∀d∈t.2.1,d<1000000000)∧t.2.2.length=m∧(∀d∈t.2.2,d<1000000000)∧val 1000000000 (t.2.1.drop t.1)<val 1000000000 vs∧val 1000000000 t.2.1+1000000000^t.1*val 1000000000 vs*val 1000000000 (t.2.2.drop t.1)=A ∧
  aZ 12=VI s∧aZ 13 = .ref 0 0 0 N N∧aZ 14=iE vs∧aZ 15=VI ((n+2:Nat):Int)∧aZ 16 = .ref 1 0 0 m m∧aZ 17=VI ((t.1:Int)-1)) (fun t=>t.1) (m,DS,W9) ⟨Nat.le_refl _,rfl,hN,Ik,iK,lC,B4,by rw[List.drop_of_length_le (by simp only;omega)];simpa[val] using hA,g12,g13,g14,g15,g16,g17⟩ ?_
 rintro⟨j,us,os⟩ Nu H ⟨hj,rfl,OX,Ik,iK,lC,bD,hv,Im,Bc,Cc,Jd,Z6,G8⟩
 simp only at hj OX Ik iK lC bD hv G8
 by_cases hz:(0:Int)≤(j:Int)-1
 ·obtain⟨i,rfl⟩:∃i,j=i+1:=⟨j-1,by omega⟩
  have Km:((i+1:Nat):Int)-1=(i:Int):=by omega
  rw[Km] at G8 hz
  obtain⟨SI,Ch,Oh,hsW,YN,XQ,zD⟩:=Tb (n:=n+2) OX (by omega) Ik hVb bD
  generalize Wc:(us.drop i).take (n+2+1)=iH at *
  have NW:∀d∈iH,d<1000000000:=fun d hd=>by rw[←Wc] at hd;exact Ik d (List.mem_of_mem_drop (List.mem_of_mem_take hd))
  obtain⟨u2,hu2⟩:∃u2,us[i+(n+2)]? = some u2:=⟨_,List.getElem?_eq_getElem (by omega)⟩
  obtain⟨u1,Z7⟩:∃u1,us[i+(n+1)]? = some u1:=⟨_,List.getElem?_eq_getElem (by omega)⟩
  obtain⟨u0,hu0⟩:∃u0,us[i+n]? = some u0:=⟨_,List.getElem?_eq_getElem (by omega)⟩
  have G:vS 1000000000 iH vs n u2 u1 u0 v1 v0:=⟨by decide,NW,Gm,Oh,D3,by rw[zD _ (by omega)];exact hu2,by rw[zD _ (by omega)];exact Z7,by rw[zD _ (by omega)];exact hu0,f1,f0,lA,hsW⟩
  have lu2:=G.afH
  have lu1:=G.Zi
  have lv1:=G.T0
  have qlt:=G.abS
  have HE:=G.HE
  have w1:IntKind.i64.wrap ((i:Int)+((n+2:Nat):Int))=((i+(n+2):Nat):Int):=wrapN _ (by omega) (by omega)
  have w2:IntKind.i64.wrap (((i+(n+2):Nat):Int)-1)=((i+(n+1):Nat):Int):=wrapN _ (by omega) (by omega)
  have wn1:IntKind.i64.wrap (((n+2:Nat):Int)-1)=((n+1:Nat):Int):=wrapN _ (by omega) (by omega)
  have ev1:bJ 1 (iE vs) (VI ((n+1:Nat):Int)) (H2 us os)=some (.cK (tV v1) 0):=aI (f:=tV) (t := .op) (size:=1) (k := .i64) f1 rfl
  have e2:bJ 1 (.ref 0 0 0 N N) (VI ((i+(n+2):Nat):Int)) (H2 us os)=some (.ptr 0 0 (i+(n+2)) 0):=by rw[bB SP (by omega),Nat.zero_add]
  have e1:bJ 1 (.ref 0 0 0 N N) (VI ((i+(n+1):Nat):Int)) (H2 us os)=some (.ptr 0 0 (i+(n+1)) 0):=by rw[bB SP (by omega),Nat.zero_add]
  have l2:dN false 1 (.ptr 0 0 (i+(n+2)) 0) (H2 us os)=some (VI (u2:Int)):=KC SP hu2
  have l1:dN false 1 (.ptr 0 0 (i+(n+1)) 0) (H2 us os)=some (VI (u1:Int)):=KC SP Z7
  have atI:u2*1000000000+u1≤1000000000000000000:=x18 lu2 lu1
  have asH:u2*1000000000≤9223372036854775807:=x17 lu2
  have amS:u2*1000000000+u1≤9223372036854775807:=Nat.le_trans atI (by decide)
  have ws2:IntKind.i64.wrap ((u2:Int)*1000000000)=((u2*1000000000:Nat):Int):=Nb asH
  have wa:IntKind.i64.wrap (((u2*1000000000:Nat):Int)+(u1:Int))=((u2*1000000000+u1:Nat):Int):=MH amS
  have q1:=Jj (u2*1000000000+u1) v1 amS lA
  have q2:=Jw (u2*1000000000+u1) v1 lA
  simp only[iO,Im,Bc,Cc,Jd,Z6,G8,hz,w1,w2,wn1,ev1,e1,e2,l1,l2,ws2,wa,q1,q2,VX,Nat.reduceEqDiff,Nat.reduceAdd]
  clear ws2 wa q1 q2 e1 e2 l1 l2 ev1 w1 w2 wn1
  have hh:=Nat.mod_add_div (u2*1000000000+u1) v1
  have hml:=Nat.mod_lt (u2*1000000000+u1) lA
  have hdl:(u2*1000000000+u1) / v1≤u2*1000000000+u1:=Nat.div_le_self _ _
  have O4:val 1000000000 iH / val 1000000000 vs≤(u2*1000000000+u1) / v1:=by
   have t1:=(C7 (n:=n+1) (xs:=iH) NW (by omega) (by rw[zD _ (by omega)];exact hu2) (by rw[zD _ (by omega)];exact Z7)).2
   have t2:=(zQ (n:=n+1) Gm D3 f1).1
   rw[Nat.le_div_iff_mul_le lA]
   have t3:val 1000000000 iH / val 1000000000 vs*(v1*1000000000^(n+1))≤val 1000000000 iH / val 1000000000 vs*val 1000000000 vs:=Nat.mul_le_mul_left _ t2
   have t4:=Nat.div_mul_le_self (val 1000000000 iH) (val 1000000000 vs)
   have t5:val 1000000000 iH / val 1000000000 vs*v1*1000000000^(n+1)<(u2*1000000000+u1+1)*1000000000^(n+1):=by rw[Nat.mul_assoc];omega
   have:=Nat.lt_of_mul_lt_mul_right t5
   omega
  generalize hQ1:(u2*1000000000+u1) / v1=g0 at *
  generalize hQ2:(u2*1000000000+u1) % v1=l0 at *
  refine PE (i:=i) G OX (by omega) Df hu0 Bc Cc Jd G8 (by rfl) (by rfl) (by rw[Nat.mul_comm g0];omega) O4 (by omega) (by omega) ?_
  intro Te g' hq LC hgW r19 r12 r13 r14 r15 r16 r17
  have O8:Te 12=VI s:=r12.trans Im
  have QT:Te 13 = .ref 0 0 0 N N:=r13.trans Bc
  have Q3:Te 14=iE vs:=r14.trans Cc
  have QI:Te 15=VI ((n+2:Nat):Int):=r15.trans Jd
  have acP:Te 16 = .ref 1 0 0 m m:=r16.trans Z6
  have acQ:Te 17=VI i:=r17.trans G8
  simp only[O8,QT,Q3,QI,acP,acQ,r19,VX,Nat.reduceEqDiff,Nat.reduceAdd]
  have xB:g'*val 1000000000 vs≤val 1000000000 iH+val 1000000000 vs:=by
   have:=Nat.mul_le_mul_right (val 1000000000 vs) LC
   rw[Nat.add_mul,Nat.one_mul] at this
   have:=Nat.div_mul_le_self (val 1000000000 iH) (val 1000000000 vs)
   omega
  obtain⟨low,ajE⟩:∃low,low=iH.take (n+2):=⟨_,rfl⟩
  have hll:low.length=n+2:=by rw[ajE,List.length_take];omega
  have ZS:∀d∈low,d<1000000000:=fun d hd=>NW d (by rw[ajE] at hd;exact List.mem_of_mem_take hd)
  have hsg:iH=low++[u2]:=by
   have h1:iH[n+2]? = some u2:=by rw[zD _ (by omega)];exact hu2
   have h2:=List.take_append_drop (n+2) iH
   have h3:=(List.getElem?_eq_some_iff.1 h1)
   rw[List.drop_eq_getElem_cons h3.1,h3.2,List.drop_of_length_le (by omega),←ajE] at h2
   exact h2.symm
  have OU:val 1000000000 iH=val 1000000000 low+1000000000^(n+2)*u2:=by rw[hsg,sB,hll]
  have pP:∀(lw:List Nat) (t:Nat),(us.take i).map tV++lw.map tV++VI (t:Int)::(us.drop (i+(n+2+1))).map tV=(us.take i++(lw++[t])++us.drop (i+(n+2+1))).map tV:=fun lw t=>by simp
  have OW:aP (H2 us os) 0 0=some ((us.take i).map tV++low.map tV++VI (u2:Int)::(us.drop (i+(n+2+1))).map tV,1,true):=by
   rw[pP,←hsg,←SI]
   rfl
  refine kI rfl ((WR (o:=i) (n:=n+2) OW (Nat.zero_le _) (by simpa using Ch) hll D3 (by omega) Df ZS Gm hgW lu2).mono ?_)
  rintro r H' ⟨AF,c,rfl,zA,Zt,hc,hr,hE⟩
  have awW:val 1000000000 low<1000000000^(n+2):=by have:=oM ZS;rwa [hll] at this
  have atK:val 1000000000 AF<1000000000^(n+2):=by have:=oM Zt;rwa [zA] at this
  have rows:∀(lw:List Nat) (t q:Nat),lw.length=n+2→(∀d∈lw,d<1000000000)→t<1000000000→q=val 1000000000 iH / val 1000000000 vs→val 1000000000 lw+1000000000^(n+2)*t=val 1000000000 iH % val 1000000000 vs →
    ((us.take i++(lw++[t])++us.drop (i+(n+2+1))).length=N∧(∀d∈us.take i++(lw++[t])++us.drop (i+(n+2+1)),d<1000000000)∧val 1000000000 ((us.take i++(lw++[t])++us.drop (i+(n+2+1))).drop i)<val 1000000000 vs∧val 1000000000 (us.take i++(lw++[t])++us.drop (i+(n+2+1)))+1000000000^i*val 1000000000 vs*val 1000000000 ((os.set i q).drop i)=A):=by
   intro lw t q hlw asS ht RD hse
   have aeT:val 1000000000 (lw++[t])=val 1000000000 iH % val 1000000000 vs:=by rw[sB,hlw];exact hse
   have arA:(lw++[t]).length=n+3:=by rw[List.length_append,hlw];rfl
   have auA:∀d∈lw++[t],d<1000000000:=fun d hd=>by
    rcases List.mem_append.1 hd with h | h
    ·exact asS d h
    ·rw[List.mem_singleton.1 h];exact ht
   generalize lw++[t]=qT at *
   have acN:=Nat.mod_lt (val 1000000000 iH) HE
   have Sk:(us.take i++qT++us.drop (i+(n+2+1))).drop i=qT++us.drop (i+(n+2+1)):=by rw[List.append_assoc,List.drop_append,List.drop_of_length_le (by omega),Ch];simp
   have R0:(us.take i++qT++us.drop (i+(n+2+1))).take i=us.take i:=by rw[List.append_assoc,List.take_append_of_le_length (by omega),List.take_of_length_le (by omega)]
   have Qz:val 1000000000 ((us.take i++qT++us.drop (i+(n+2+1))).drop i)=val 1000000000 qT:=by rw[Sk,yQ,XQ,Nat.mul_zero,Nat.add_zero]
   refine⟨by rw[List.length_append,List.length_append,Ch,arA,List.length_drop];omega,fun d hd => ?_,by rw[Qz,aeT];exact acN,?_⟩
   ·rw[List.mem_append,List.mem_append] at hd
    rcases hd with(hd | hd) | hd
    ·exact Ik d (List.mem_of_mem_take hd)
    ·exact auA d hd
    ·exact Ik d (List.mem_of_mem_drop hd)
   ·have h1:=Nat.div_add_mod (val 1000000000 iH) (val 1000000000 vs)
    rw[←RD,←aeT,Nat.mul_comm] at h1
    have h2:=pC (b:=1000000000) us i
    have h3:=pC (b:=1000000000) (us.take i++qT++us.drop (i+(n+2+1))) i
    rw[R0,Ch,Qz] at h3
    rw[Ch,YN] at h2
    rw[set_drop (by omega),rJ,h3]
    rw[h2,Nat.pow_succ] at hv
    exact Lb h1.symm hv
  have e3:∀(EG:List Nat) (d:Nat),bJ 1 (.ref 1 0 0 m m) (VI i) (H2 EG os)=some (.ptr 1 0 i 0)∧cR 0 1 (.ptr 1 0 i 0) (VI (d:Int)) (H2 EG os)=some (H2 EG (os.set i d)):=fun EG d=>by
   refine⟨by rw[bB aoK (by omega),Nat.zero_add],?_⟩
   rw[show VI (d:Int)=tV d from rfl,gI (f:=tV) (e:=1) aoK (by omega) (Nat.zero_le _) rfl rfl]
   rfl
  have wi:IntKind.i64.wrap ((i:Int)-1)=(i:Int)-1:=wrap64 (by omega) (by omega)
  have hdm:=Nat.div_add_mod (val 1000000000 iH) (val 1000000000 vs)
  have acN:=Nat.mod_lt (val 1000000000 iH) HE
  generalize hPP:1000000000^(n+2)=P at *
  by_cases lD:(u2:Int)-(c:Int)<0
  ·
   rw[decide_eq_true lD] at hr
   subst hr
   have hgt:val 1000000000 iH<g'*val 1000000000 vs:=by
    have h1:P*(u2+1)≤P*c:=Nat.mul_le_mul_left _ (by omega)
    rw[Nat.mul_add,Nat.mul_one] at h1
    omega
   have RD:g'=val 1000000000 iH / val 1000000000 vs+1:=by
    rcases Nat.lt_or_ge (val 1000000000 iH / val 1000000000 vs) g' with h | h
    ·omega
    ·have h1:g'*val 1000000000 vs≤val 1000000000 iH / val 1000000000 vs*val 1000000000 vs:=Nat.mul_le_mul_right _ h
     have:=Nat.div_mul_le_self (val 1000000000 iH) (val 1000000000 vs)
     omega
   have hg1:1≤g':=by rw[RD];exact Nat.le_add_left 1 _
   have wg:IntKind.i64.wrap ((g':Int)-1)=((g'-1:Nat):Int):=wrapN _ (by omega) (by omega)
   simp only[O8,QT,Q3,QI,acP,acQ,r19,wg,VX,Nat.reduceEqDiff,Nat.reduceAdd]
   have OV:aP ((H2 us os).set 0 (.row 0 ((us.take i).map tV++AF.map tV++VI ((u2:Int)-(c:Int))::(us.drop (i+(n+2+1))).map tV) 1 true)) 0 0=some ((us.take i).map tV++AF.map tV++VI ((u2:Int)-(c:Int))::(us.drop (i+(n+2+1))).map tV,1,true):=rfl
   refine kI rfl ((Vu (o:=i) (n:=n+2) OV (Nat.zero_le _) (by simpa using Ch) zA D3 (by omega) Df Zt Gm (by omega) (by omega)).mono ?_)
   rintro r H' ⟨Sy,c2,rfl,HY,hd2,Z8,hE2⟩
   rw[hPP] at hE2
   have ahV:val 1000000000 Sy<P:=by have:=oM hd2;rwa [HY,hPP] at this
   obtain⟨hy,hZ⟩:(u2:Int)-(c:Int)+(c2:Int)=0∧val 1000000000 Sy=val 1000000000 iH % val 1000000000 vs:=by
    refine adN (P:=P) ?_ ahV (by omega)
    have i1:(P:Int)*((u2:Int)-(c:Int)+(c2:Int))=(P:Int)*u2-(P:Int)*c+(P:Int)*c2:=by rw[Int.mul_add,Int.mul_sub]
    have i2:((P*u2:Nat):Int)=(P:Int)*u2:=by simp
    have i3:((P*c:Nat):Int)=(P:Int)*c:=by simp
    have i4:((P*c2:Nat):Int)=(P:Int)*c2:=by simp
    rw[i1,←i2,←i3,←i4]
    have i5:g'*val 1000000000 vs=val 1000000000 vs*(val 1000000000 iH / val 1000000000 vs)+val 1000000000 vs:=by rw[RD,Nat.add_mul,Nat.one_mul,Nat.mul_comm (val 1000000000 vs)]
    omega
   have Hi:((H2 us os).set 0 (.row 0 ((us.take i).map tV++AF.map tV++VI ((u2:Int)-(c:Int))::(us.drop (i+(n+2+1))).map tV) 1 true)).set 0 (.row 0 ((us.take i).map tV++Sy.map tV++VI ((u2:Int)-(c:Int)+(c2:Int))::(us.drop (i+(n+2+1))).map tV) 1 true)=H2 (us.take i++(Sy++[0])++us.drop (i+(n+2+1))) os:=by
    rw[hy]
    rw[show (0:Int)=((0:Nat):Int) from rfl,pP]
    rfl
   rw[Hi]
   obtain⟨x1,x2⟩:=e3 (us.take i++(Sy++[0])++us.drop (i+(n+2+1))) (g'-1)
   obtain⟨y1,y2,y3,y4⟩:=rows Sy 0 (g'-1) HY hd2 (by decide) (by rw[RD,Nat.add_sub_cancel]) (by rw[Nat.mul_zero,Nat.add_zero];exact hZ)
   simp only[O8,QT,Q3,QI,acP,acQ,x1,x2,wi,VX,Nat.reduceEqDiff,Nat.reduceAdd]
   refine⟨(i,us.take i++(Sy++[0])++us.drop (i+(n+2+1)),os.set i (g'-1)),by simp only;omega,by omega,rfl,y1,y2,by rw[List.length_set];exact iK,lO lC (by omega),y3,y4,?_⟩
   try (repeat' apply And.intro)<;>first | rfl | trivial
  ·rw[decide_eq_false lD] at hr
   subst hr
   obtain⟨t',ht'⟩:∃t':Nat,(u2:Int)-(c:Int)=(t':Int):=⟨u2-c,by omega⟩
   have hP1:P*u2=P*c+P*t':=by rw[←Nat.mul_add];congr 1;omega
   have DT:g'*val 1000000000 vs≤val 1000000000 iH:=by omega
   have RD:g'=val 1000000000 iH / val 1000000000 vs:=by
    have:=(Nat.le_div_iff_mul_le HE).2 DT
    omega
   have Hi:(H2 us os).set 0 (.row 0 ((us.take i).map tV++AF.map tV++VI ((u2:Int)-(c:Int))::(us.drop (i+(n+2+1))).map tV) 1 true)=H2 (us.take i++(AF++[t'])++us.drop (i+(n+2+1))) os:=by
    rw[ht',pP]
    rfl
   rw[Hi]
   obtain⟨x1,x2⟩:=e3 (us.take i++(AF++[t'])++us.drop (i+(n+2+1))) g'
   have hse:val 1000000000 AF+P*t'=val 1000000000 iH % val 1000000000 vs:=by
    rw[←RD,Nat.mul_comm] at hdm
    omega
   obtain⟨y1,y2,y3,y4⟩:=rows AF t' g' zA Zt (by omega) RD hse
   simp only[O8,QT,Q3,QI,acP,acQ,r19,x1,x2,wi,VX,Nat.reduceEqDiff,Nat.reduceAdd]
   refine⟨(i,us.take i++(AF++[t'])++us.drop (i+(n+2+1)),os.set i g'),by simp only;omega,by omega,rfl,y1,y2,by rw[List.length_set];exact iK,lO lC (by omega),y3,y4,?_⟩
   try (repeat' apply And.intro)<;>first | rfl | trivial
 ·have RZ:j=0:=by omega
  subst RZ
  rw[Nat.pow_zero,Nat.one_mul,List.drop_zero] at hv
  rw[List.drop_zero] at bD
  simp only[iO,Im,Bc,Cc,Jd,Z6,G8,hz,VX,Nat.reduceEqDiff,Nat.reduceAdd]
  exact hQ _ us os Im Bc Z6 OX Ik iK lC hv bD
end Go.PM
namespace Go.PM
def bl (n:Nat):Nat:=(aC 2 n).length
theorem MA (n:Nat):n<2^bl n:=gK (by decide) n
theorem Fk {n k:Nat} (h:n<2^k):bl n≤k:=lW (by decide) h
theorem kV {m n:Nat} (h:m≤n):bl m≤bl n:=dR (by decide) h
theorem nH (m n:Nat):bl (m*n)≤bl m+bl n:=by
 refine Fk ?_
 rw[Nat.pow_add]
 exact Nat.mul_lt_mul'' (MA m) (MA n)
theorem Ft {n k:Nat} (h:bl n≤k):n<2^k:=Nat.lt_of_lt_of_le (MA n) (Nat.pow_le_pow_right (by decide) h)
theorem Ta {m n k:Nat} (hm:bl m≤k) (hn:bl n≤k):bl (m+n)≤k+1:=by
 refine Fk ?_
 have h1:=Ft hm
 have h2:=Ft hn
 rw[Nat.pow_succ]
 omega
theorem Ui:bl 0=0:=by simp[bl,bW]
theorem OO:bl 1=1:=by simp[bl,jH (b:=2) (by decide) (n:=1) (by decide),bW]
theorem ZD {n:Nat} (h:n≠0):1≤bl n:=by
 have:=kV (m:=1) (n:=n) (by omega)
 rwa [OO] at this
theorem aeS (n:Nat):32*(aC 4294967296 n).length≤bl n+31:=by
 by_cases h:n=0
 ·subst h;rw[bW];simp
 ·have h1:=Jh (b:=4294967296) (by decide) h
  have h2:=MA n
  have e:(4294967296:Nat)=2^32:=by decide
  rw[e] at h1 ⊢
  rw[←Nat.pow_mul] at h1
  have h3:2^(32*((aC (2^32) n).length-1))<2^bl n:=by omega
  have h4:=(Nat.pow_lt_pow_iff_right (by decide)).1 h3
  omega
theorem afD (n:Nat):29*(aC 1000000000 n).length≤bl n+28:=by
 by_cases h:n=0
 ·subst h;rw[bW];simp
 ·have h1:=Jh (b:=1000000000) (by decide) h
  have h2:=MA n
  have h5:(2^29)^((aC 1000000000 n).length-1)≤1000000000^((aC 1000000000 n).length-1):=Nat.pow_le_pow_left (by decide) _
  rw[←Nat.pow_mul] at h5
  have h3:2^(29*((aC 1000000000 n).length-1))<2^bl n:=by omega
  have h4:=(Nat.pow_lt_pow_iff_right (by decide)).1 h3
  omega
def cW (q:Rat):Nat:=max (bl q.num.natAbs) (bl q.den)
theorem tK {q:Rat}:bl q.num.natAbs≤cW q:=Nat.le_max_left _ _
theorem qW {q:Rat}:bl q.den≤cW q:=Nat.le_max_right _ _
theorem WA {q:Rat}:1≤cW q:=Nat.le_trans (ZD q.den_nz) qW
theorem YG {q:Rat} {k:Nat} (h1:bl q.num.natAbs≤k) (h2:bl q.den≤k):cW q≤k:=Nat.max_le.2 ⟨h1,h2⟩
theorem FG {n:Int} {d k:Nat} (h1:bl n.natAbs≤k) (h2:bl d≤k) (hk:1≤k):cW (mkRat n d)≤k:=by
 refine YG ?_ ?_
 ·rw[Rat.num_mkRat]
  split
  ·rw[Int.natAbs_zero,Ui];omega
  ·exact Nat.le_trans (kV (Int.natAbs_ediv_le_natAbs _ _)) h1
 ·rw[Rat.den_mkRat]
  split
  ·rw[OO];exact hk
  ·exact Nat.le_trans (kV (Nat.div_le_self _ _)) h2
theorem Mn (a b:Rat):cW (a+b)≤cW a+cW b+1:=by
 rw[Rat.add_def']
 have h1 := @tK a
 have h2 := @tK b
 have h3 := @qW a
 have h4 := @qW b
 have h5:=nH a.num.natAbs b.den
 have h6:=nH b.num.natAbs a.den
 have h7:=nH a.den b.den
 refine FG ?_ (by omega) (by omega)
 have h8:(a.num*b.den+b.num*a.den).natAbs≤a.num.natAbs*b.den+b.num.natAbs*a.den:=by
  refine Nat.le_trans (Int.natAbs_add_le _ _) ?_
  rw[Int.natAbs_mul,Int.natAbs_mul,Int.natAbs_natCast,Int.natAbs_natCast]
  exact Nat.le_refl _
 exact Nat.le_trans (kV h8) (Ta (by omega) (by omega))
theorem GC (a b:Rat):cW (a*b)≤cW a+cW b:=by
 rw[Rat.mul_def']
 have h1 := @tK a
 have h2 := @tK b
 have h3 := @qW a
 have h4 := @qW b
 have h5:=nH a.num.natAbs b.num.natAbs
 have h7:=nH a.den b.den
 have h8 := @WA a
 refine FG ?_ (by omega) (by omega)
 rw[Int.natAbs_mul]
 omega
theorem EJ:cW 0=1:=by simp[cW,Ui,OO]
theorem MS:cW 1=1:=by simp[cW,OO]
def kG (neg:Bool) (t:Nat):Int:=if neg then -(t:Int) else t
theorem nP (neg:Bool) (t:Nat):(kG neg t).natAbs=t:=by cases neg<;>simp[kG]
theorem OJ {neg:Bool} {t:Nat}:kG neg t<0↔neg=true∧t≠0:=by cases neg<;>simp[kG]<;>omega
theorem xR (neg:Bool):kG neg 0=0:=by cases neg<;>rfl
theorem Fg (z:Int):kG (decide (z<0)) z.natAbs=z:=by
 by_cases h:z<0<;>simp[kG,h]<;>omega
theorem acD {neg:Bool} {t g:Nat}:(kG neg t) / (g:Int)=kG neg (t / g)∨¬g ∣ t:=by
 by_cases h:g ∣ t
 ·left
  obtain⟨k,rfl⟩:=h
  by_cases hg:g=0
  ·subst hg;simp[xR]
  ·rw[Nat.mul_div_cancel_left _ (by omega)]
   cases neg
   ·simp only[kG]
    simp only[Bool.false_eq_true,if_false]
    rw[Int.natCast_mul,Int.mul_ediv_cancel_left _ (by omega)]
   ·simp only[kG,if_true]
    rw[Int.natCast_mul,←Int.mul_neg,Int.mul_ediv_cancel_left _ (by omega)]
 ·exact .inr h
theorem Es {neg:Bool} {t b:Nat} (hb:b≠0):(mkRat (kG neg t) b).num=kG neg (t / Nat.gcd t b):=by
 rw[Rat.num_mkRat,if_neg hb,nP,Nat.gcd_comm]
 rcases acD (neg:=neg) (t:=t) (g:=Nat.gcd t b) with h | h
 ·exact h
 ·exact absurd (Nat.gcd_dvd_left _ _) h
theorem OI {neg:Bool} {t b:Nat} (hb:b≠0):(mkRat (kG neg t) b).den=b / Nat.gcd t b:=by
 rw[Rat.den_mkRat,if_neg hb,nP,Nat.gcd_comm]
theorem Jg (q:Rat):mkRat (kG (decide (q.num<0)) q.num.natAbs) q.den=q:=by rw[Fg,Rat.mkRat_self]
end Go.PM
namespace Go.PM
theorem acJ (neg:Bool) (t d:Nat):kG neg (t*d)=kG neg t*(d:Int):=by cases neg<;>simp[kG,Int.neg_mul]
theorem DE (q:Rat) {d:Nat} (hd:d≠0):mkRat (kG (decide (q.num<0)) (q.num.natAbs*d)) (q.den*d)=q:=by
 rw[acJ,Rat.mkRat_mul_right hd,Jg]
theorem CO (X Y:Int) {B:Nat} (hB:B≠0):mkRat X B+mkRat Y B=mkRat (X+Y) B:=by
 rw[Rat.mkRat_add_mkRat _ _ hB hB,←Int.add_mul,Rat.mkRat_mul_right hB]
theorem Og (n:Bool) (x y:Nat):kG n x+kG n y=kG n (x+y):=by cases n<;>simp[kG]<;>omega
theorem R9 {m n:Bool} (h:m≠n) {x y:Nat} (hx:y≤x):kG m x+kG n y=kG m (x-y):=by
 cases m<;>cases n<;>simp_all [kG]<;>omega
theorem SU {m n:Bool} (h:m≠n) {x y:Nat} (hx:x≤y):kG m x+kG n y=kG n (y-x):=by
 cases m<;>cases n<;>simp_all [kG]<;>omega
theorem NQ (n:Int) {d:Nat} (hd:d≠0):(mkRat n d).num.natAbs=n.natAbs / Nat.gcd n.natAbs d:=by
 have:=Es (neg:=decide (n<0)) (t:=n.natAbs) (b:=d) hd
 rw[Fg] at this
 rw[this,nP]
theorem Jc (n:Int) {d:Nat} (hd:d≠0):(mkRat n d).den=d / Nat.gcd n.natAbs d:=by
 have:=OI (neg:=decide (n<0)) (t:=n.natAbs) (b:=d) hd
 rwa [Fg] at this
theorem agL (n:Int) {d:Nat} (hd:d≠0):(mkRat n d).num<0↔n<0:=by
 have:=Es (neg:=decide (n<0)) (t:=n.natAbs) (b:=d) hd
 rw[Fg] at this
 rw[this,OJ]
 have h:n<0→n.natAbs / Nat.gcd n.natAbs d≠0:=fun h=>by
  have:=Nat.div_pos (Nat.le_of_dvd (by omega) (Nat.gcd_dvd_left n.natAbs d)) (Nat.gcd_pos_of_pos_left d (show 0<n.natAbs by omega))
  omega
 constructor
 ·rintro⟨h1,_⟩;simpa using h1
 ·intro h1;exact⟨by simpa using h1,h h1⟩
theorem Bh (t:Nat) {d:Nat} (hd:d≠0):(mkRat (kG false t) d).num.natAbs ∣ t∧(mkRat (kG false t) d).den ∣ d:=by
 rw[NQ _ hd,Jc _ hd,nP]
 exact⟨Nat.div_dvd_of_dvd (Nat.gcd_dvd_left _ _),Nat.div_dvd_of_dvd (Nat.gcd_dvd_right _ _)⟩
theorem WH (a b:Rat):(a*b).num.natAbs=(mkRat (kG false a.num.natAbs) b.den).num.natAbs*(mkRat (kG false b.num.natAbs) a.den).num.natAbs ∧
  (a*b).den=(mkRat (kG false a.num.natAbs) b.den).den*(mkRat (kG false b.num.natAbs) a.den).den:=by
 have ha:=a.den_nz
 have hb:=b.den_nz
 have E6:a.den*b.den≠0:=Nat.mul_ne_zero ha hb
 obtain⟨u1,u2⟩:=Bh a.num.natAbs hb
 obtain⟨v1,v2⟩:=Bh b.num.natAbs ha
 have e:(mkRat (kG false a.num.natAbs) b.den)*(mkRat (kG false b.num.natAbs) a.den)=mkRat (kG false a.num.natAbs*kG false b.num.natAbs) (b.den*a.den):=Rat.mkRat_mul_mkRat _ _ _ _
 have en:((mkRat (kG false a.num.natAbs) b.den)*(mkRat (kG false b.num.natAbs) a.den)).num.natAbs=(a*b).num.natAbs:=by
  rw[e,Rat.mul_def',NQ _ E6,NQ _ (Nat.mul_ne_zero hb ha),Int.natAbs_mul,Int.natAbs_mul,nP,nP,Nat.mul_comm b.den]
 have ed:((mkRat (kG false a.num.natAbs) b.den)*(mkRat (kG false b.num.natAbs) a.den)).den=(a*b).den:=by
  rw[e,Rat.mul_def',Jc _ E6,Jc _ (Nat.mul_ne_zero hb ha),Int.natAbs_mul,Int.natAbs_mul,nP,nP,Nat.mul_comm b.den]
 rw[←en,←ed]
 generalize hu:mkRat (kG false a.num.natAbs) b.den=u at *
 generalize hv:mkRat (kG false b.num.natAbs) a.den=v at *
 have c1:Nat.Coprime u.num.natAbs u.den:=u.reduced
 have c2:Nat.Coprime v.num.natAbs v.den:=v.reduced
 have c3:Nat.Coprime u.num.natAbs v.den:=Nat.Coprime.coprime_dvd_left u1 (Nat.Coprime.coprime_dvd_right v2 a.reduced)
 have c4:Nat.Coprime v.num.natAbs u.den:=Nat.Coprime.coprime_dvd_left v1 (Nat.Coprime.coprime_dvd_right u2 b.reduced)
 have c:Nat.gcd (u.num*v.num).natAbs (u.den*v.den)=1:=by
  rw[Int.natAbs_mul]
  exact Nat.Coprime.mul_left (Nat.Coprime.mul_right c1 c3) (Nat.Coprime.mul_right c4 c2)
 rw[Rat.mul_def',NQ _ (Nat.mul_ne_zero u.den_nz v.den_nz),Jc _ (Nat.mul_ne_zero u.den_nz v.den_nz),c,Nat.div_one,Nat.div_one,Int.natAbs_mul]
 exact⟨rfl,rfl⟩
theorem P4 {a b:Rat} (ha:a.num≠0) (hb:b.num≠0):(a*b).num<0↔(decide (a.num<0) != decide (b.num<0))=true:=by
 rw[Rat.mul_def',agL _ (Nat.mul_ne_zero a.den_nz b.den_nz)]
 rcases Int.lt_or_gt_of_ne ha with h1 | h1<;>rcases Int.lt_or_gt_of_ne hb with h2 | h2
 ·have:=Int.mul_pos_of_neg_of_neg h1 h2
  rw[decide_eq_true h1,decide_eq_true h2]
  simp;omega
 ·have:=Int.mul_neg_of_neg_of_pos h1 h2
  rw[decide_eq_true h1,decide_eq_false (show ¬b.num<0 by omega)]
  simp[this]
 ·have:=Int.mul_neg_of_pos_of_neg h1 h2
  rw[decide_eq_false (show ¬a.num<0 by omega),decide_eq_true h2]
  simp[this]
 ·have:=Int.mul_pos h1 h2
  rw[decide_eq_false (show ¬a.num<0 by omega),decide_eq_false (show ¬b.num<0 by omega)]
  simp;omega
def kR (q:Rat):Int:=if q.num=0 then 0 else if q.num<0 then -1 else 1
def Md (a b:Rat):Int:=if kR a=kR b then (if a.num<0 then -fC (a.num.natAbs*b.den) (b.num.natAbs*a.den) else fC (a.num.natAbs*b.den) (b.num.natAbs*a.den)) else kR a-kR b
theorem vY {m n:Nat}:fC m n<0↔m<n:=by
 unfold fC
 split
 ·omega
 ·split<;>omega
theorem adA {m n:Nat}:0<fC m n↔n<m:=by
 unfold fC
 split
 ·omega
 ·split<;>omega
theorem wU {m n:Nat}:fC m n=0↔m=n:=by
 unfold fC
 split
 ·omega
 ·split<;>omega
theorem oT {q:Rat} (h:q.num<0):kR q = -1:=by unfold kR;rw[if_neg (by omega),if_pos h]
theorem kO {q:Rat} (h:q.num=0):kR q=0:=by unfold kR;rw[if_pos h]
theorem pE {q:Rat} (h:0<q.num):kR q=1:=by unfold kR;rw[if_neg (by omega),if_neg (by omega)]
theorem Uv {a b:Rat}:Md a b<0↔a<b:=by
 rw[Rat.lt_iff]
 have hA:(0:Int)<a.den:=by have:=a.den_nz;omega
 have hB:(0:Int)<b.den:=by have:=b.den_nz;omega
 have eA:((a.num.natAbs*b.den:Nat):Int)=(a.num.natAbs:Int)*b.den:=by simp
 have eB:((b.num.natAbs*a.den:Nat):Int)=(b.num.natAbs:Int)*a.den:=by simp
 unfold Md
 rcases Int.lt_trichotomy a.num 0 with h1 | h1 | h1<;>rcases Int.lt_trichotomy b.num 0 with h2 | h2 | h2
 ·rw[oT h1,oT h2,if_pos rfl,if_pos h1]
  have f1:(a.num.natAbs:Int) = -a.num:=by omega
  have f2:(b.num.natAbs:Int) = -b.num:=by omega
  rw[f1,Int.neg_mul] at eA
  rw[f2,Int.neg_mul] at eB
  have := @adA (a.num.natAbs*b.den) (b.num.natAbs*a.den)
  omega
 ·rw[oT h1,kO h2,if_neg (by decide),h2,Int.zero_mul]
  have:=Int.mul_neg_of_neg_of_pos h1 hB
  omega
 ·rw[oT h1,pE h2,if_neg (by decide)]
  have:=Int.mul_neg_of_neg_of_pos h1 hB
  have:=Int.mul_pos h2 hA
  omega
 ·rw[kO h1,oT h2,if_neg (by decide),h1,Int.zero_mul]
  have:=Int.mul_neg_of_neg_of_pos h2 hA
  omega
 ·rw[kO h1,kO h2,if_pos rfl,h1,h2];simp[fC]
 ·rw[kO h1,pE h2,if_neg (by decide),h1,Int.zero_mul]
  have:=Int.mul_pos h2 hA
  omega
 ·rw[pE h1,oT h2,if_neg (by decide)]
  have:=Int.mul_neg_of_neg_of_pos h2 hA
  have:=Int.mul_pos h1 hB
  omega
 ·rw[pE h1,kO h2,if_neg (by decide),h2,Int.zero_mul]
  have:=Int.mul_pos h1 hB
  omega
 ·rw[pE h1,pE h2,if_pos rfl,if_neg (by omega)]
  have f1:(a.num.natAbs:Int)=a.num:=by omega
  have f2:(b.num.natAbs:Int)=b.num:=by omega
  rw[f1] at eA
  rw[f2] at eB
  have := @vY (a.num.natAbs*b.den) (b.num.natAbs*a.den)
  omega
theorem Yh (m n:Nat):fC n m = -fC m n:=by
 rcases Nat.lt_trichotomy m n with h | h | h
 ·rw[fC,fC,if_neg (by omega),if_neg (by omega),if_pos h];rfl
 ·subst h;rw[fC,if_neg (by omega),if_pos rfl];rfl
 ·rw[fC,fC,if_pos h,if_neg (by omega),if_neg (by omega)]
theorem Pv (a b:Rat):Md b a = -Md a b:=by
 unfold Md
 by_cases h:kR a=kR b
 ·have h2:b.num<0↔a.num<0:=by
   rcases Int.lt_trichotomy a.num 0 with h1 | h1 | h1<;>rcases Int.lt_trichotomy b.num 0 with h2 | h2 | h2
   ·simp[h1,h2]
   ·rw[oT h1,kO h2] at h;omega
   ·rw[oT h1,pE h2] at h;omega
   ·rw[kO h1,oT h2] at h;omega
   ·omega
   ·rw[kO h1,pE h2] at h;omega
   ·rw[pE h1,oT h2] at h;omega
   ·rw[pE h1,kO h2] at h;omega
   ·omega
  rw[if_pos h,if_pos h.symm,Yh]
  by_cases h3:a.num<0
  ·rw[if_pos h3,if_pos (h2.2 h3)]
  ·rw[if_neg h3,if_neg (mt h2.1 h3)]
 ·rw[if_neg h,if_neg (fun h'=>h h'.symm)];omega
theorem abO {a b:Rat}:0<Md a b↔b<a:=by
 rw[←Uv,Pv a b];omega
theorem Nn {a b:Rat}:Md a b=0↔a=b:=by
 constructor
 ·intro h
  refine Rat.le_antisymm ?_ ?_
  ·rw[←Rat.not_lt,←abO];omega
  ·rw[←Rat.not_lt,←Uv];omega
 ·rintro rfl
  have:=Pv a a
  omega
theorem Bz {q:Rat}:kR q=0↔q=0:=by
 rw[←Rat.num_eq_zero]
 rcases Int.lt_trichotomy q.num 0 with h | h | h
 ·rw[oT h];omega
 ·rw[kO h];omega
 ·rw[pE h];omega
end Go.PM