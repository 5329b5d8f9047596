/- Texts of a claim, in one: part 9. -/
import Derived.Test.YtodamlihdkalfaaGreatDoorKWh
set_option linter.unusedSimpArgs false
set_option linter.unusedVariables false
namespace Go.PM
section
variable {H:aA} {b g o i lo d:Nat} {L R:List VV} {low:List Nat}
theorem WT (hr:aK H b g=some (L++low.map tV++R,1,true)) (ho:L.length=o) (hi:low[i]? = some d):cU false 1 (.ptr b g (o+i) 0) H=some (VI (d:Int)):=by
 have aX:=(List.getElem?_eq_some_iff.1 hi).1
 rw[NY hr (x:=tV d) (by rw[MO ho (by simpa using aX)];simp[hi])]
 rfl
theorem XV (hr:aK H b g=some (L++low.map tV++R,1,true)) (ho:L.length=o) (hi:i<low.length) (iD:lo≤b):cD lo 1 (.ptr b g (o+i) 0) (VI (d:Int)) H=some (H.set b (.row g (L++(low.set i d).map tV++R) 1 true)):=by
 rw[dI hr (by simp only[List.length_append,List.length_map];omega) iD rfl rfl,SA ho (by simpa using hi),List.map_set]
theorem Sz {n:Nat} {z:Int} (hr:aK H b g=some (L++low.map tV++VI z::R,1,true)) (ho:L.length=o) (hn:low.length=n):cU false 1 (.ptr b g (o+n) 0) H=some (VI z):=by
 rw[NY hr (x:=VI z) (by rw[List.getElem?_append_right (by simp;omega)];simp[ho,hn])]
 rfl
theorem X0 {n:Nat} {z z':Int} (hr:aK H b g=some (L++low.map tV++VI z::R,1,true)) (ho:L.length=o) (hn:low.length=n) (iD:lo≤b):cD lo 1 (.ptr b g (o+n) 0) (VI z') H=some (H.set b (.row g (L++low.map tV++VI z'::R) 1 true)):=by
 rw[dI hr (by simp only[List.length_append,List.length_map,List.length_cons];omega) iD rfl rfl,List.set_append_right _ _ (by simp;omega)]
 congr 5
 simp[ho,hn]
end
theorem M3 {P A N B c u x t r k m q T:Nat} (h:A+P*c=N+t*B) (h1:r+m+c=u+T*k) (h2:m+T*q=x*t):(A+P*u)+P*T*(q+k)=(N+P*r)+t*(B+P*x):=by
 have e1:P*(r+m+c)=P*(u+T*k):=by rw[h1]
 have e2:P*(m+T*q)=P*(x*t):=by rw[h2]
 grind
theorem WE {x t:Nat} (hx:x<1000000000) (ht:t<1000000000):x*t≤999999998000000001∧x*t / 1000000000≤999999998:=by
 have h:x*t≤999999999*999999999:=Nat.mul_le_mul (by omega) (by omega)
 omega
theorem UA {H:aA} {lo b g o n N t top:Nat} {L R:List VV} {low vs:List Nat} (hr:aK H b g=some (L++low.map tV++VI (top:Int)::R,1,true)) (iD:lo≤b) (ho:L.length=o) (hl:low.length=n) (DR:vs.length=n) (hN:o+n<N) (EK:N≤70368744177664)
  (Xp:∀d∈low,d<1000000000) (Fc:∀d∈vs,d<1000000000) (ht:t<1000000000) (ajO:top<1000000000) :
  qD 239 [.ref b g 0 N N,iB vs,VI (o:Int),VI (t:Int)] lo H fun r H'=>∃(Al:List Nat) (c:Nat),H'=H.set b (.row g (L++Al.map tV++VI ((top:Int)-(c:Int))::R) 1 true)∧Al.length=n∧(∀d∈Al,d<1000000000)∧c≤1000000000 ∧
   r=VB (decide ((top:Int)-(c:Int)<0))∧val 1000000000 low+1000000000^n*c=val 1000000000 Al+t*val 1000000000 vs:=by
 refine qD.walk ⟨true,false⟩ Fm (Nat.le_of_ble_eq_true rfl) ?_
 have rd:∀(s:List Nat) (z:Int),aK (H.set b (.row g (L++s.map tV++VI z::R) 1 true)) b g=some (L++s.map tV++VI z::R,1,true):=fun s z=>zY hr
 have ad:∀(K:aA) (es:List VV) (i:Nat),aK K b g=some (es,1,true)→i≤n→bF 1 (.ref b g 0 N N) (VI ((o+i:Nat):Int)) K=some (.ptr b g (o+i) 0):=fun K es i h hi=>by rw[aV h (by omega),Nat.zero_add]
 simp only[BR,zS,dM,VX,Nat.reduceEqDiff,Nat.reduceAdd]
 refine aW (fun(u:Nat×List Nat×Nat) ρ K=>u.1≤n∧K=H.set b (.row g (L++u.2.1.map tV++VI (top:Int)::R) 1 true)∧u.2.1.length=n∧(∀d∈u.2.1,d<1000000000)∧u.2.2≤1000000000∧val 1000000000 (low.take u.1)+1000000000^u.1*u.2.2=val 1000000000 (u.2.1.take u.1)+t*val 1000000000 (vs.take u.1)∧(∀j,u.1≤j→u.2.1[j]? = low[j]?) ∧
  ρ 0 = .ref b g 0 N N∧ρ 1=iB vs∧ρ 2=VI o∧ρ 3=VI t∧ρ 9=VI u.2.2∧ρ 13=iB vs∧ρ 14=VI vs.length∧ρ 15=VI u.1) (fun u=>n-u.1) (0,low,0) ⟨Nat.zero_le _,(Bn hr).symm,hl,Xp,by simp,by simp[val],fun _ _=>rfl,by (repeat' apply And.intro)<;>first | rfl | trivial⟩ ?_
 rintro⟨i,outs,c⟩ ρ K ⟨hi,rfl,fU,lB,hc,hv,ES,k0,k1,k2,k3,k9,zK,AM,IT⟩
 simp only at hi fU lB hc hv ES k9 IT
 by_cases cB:(i:Int)<(vs.length:Int)
 ·obtain⟨u,hu⟩:∃u,outs[i]? = some u:=⟨_,List.getElem?_eq_getElem (by omega)⟩
  have lu:=lB u (List.mem_of_getElem? hu)
  have hu':low[i]? = some u:=by rw[←ES i (Nat.le_refl _)];exact hu
  obtain⟨x,hx⟩:∃x,vs[i]? = some x:=⟨_,List.getElem?_eq_getElem (by omega)⟩
  have lx:=Fc x (List.mem_of_getElem? hx)
  obtain⟨xt1,xt2⟩:=WE lx ht
  have e1:bF 1 (iB vs) (VI i) (H.set b (.row g (L++outs.map tV++VI (top:Int)::R) 1 true))=some (.cP (tV x) 0):=aG (f:=tV) (t := .op) (size:=1) (k := .i64) hx rfl
  have w1:IntKind.i64.wrap ((o:Int)+(i:Int))=((o+i:Nat):Int):=wrapN _ (by omega) (by omega)
  have e2:=ad _ _ i (rd outs top) (by omega)
  have e3:=WT (rd outs top) ho hu
  have e4:∀d:Nat,cD lo 1 (.ptr b g (o+i) 0) (VI (d:Int)) (H.set b (.row g (L++outs.map tV++VI (top:Int)::R) 1 true))=some (H.set b (.row g (L++(outs.set i d).map tV++VI (top:Int)::R) 1 true)):=fun d=>by rw[XV (rd outs top) ho (by omega) iD,rM]
  have w2:IntKind.i64.wrap ((x:Int)*(t:Int))=((x*t:Nat):Int):=wrapN _ (by simp) (by omega)
  have r1:=Lj (x*t)
  have q1:=Mz (x*t) (by omega)
  have hm:=Nat.mod_lt (x*t) (show 0<1000000000 by decide)
  have hdv:=Nat.mod_add_div (x*t) 1000000000
  have wi:IntKind.i64.wrap ((i:Int)+1)=((i+1:Nat):Int):=wrapN (i+1) (by omega) (by omega)
  generalize hmq:x*t % 1000000000=m at *
  generalize hqq:x*t / 1000000000=q at *
  have w3:IntKind.i64.wrap ((u:Int)-(m:Int))=(u:Int)-(m:Int):=wrap64 (by omega) (by omega)
  have w4:IntKind.i64.wrap ((u:Int)-(m:Int)-(c:Int))=(u:Int)-(m:Int)-(c:Int):=wrap64 (by omega) (by omega)
  have step:∀r k:Nat,r<1000000000→r+m+c=u+1000000000*k→val 1000000000 (low.take (i+1))+1000000000^(i+1)*(q+k)=val 1000000000 ((outs.set i r).take (i+1))+t*val 1000000000 (vs.take (i+1))∧(∀d∈outs.set i r,d<1000000000)∧(∀j,i+1≤j→(outs.set i r)[j]? = low[j]?)∧(outs.set i r).length=n:=by
   intro r k hr hk
   refine⟨?_,lO lB hr,fun j hj=>by rw[List.getElem?_set_ne (by omega)];exact ES j (by omega),by rw[List.length_set];exact fU⟩
   rw[aT hu',aT hx,dP (by omega),Nat.pow_succ]
   exact M3 hv hk hdv
  by_cases h1:(u:Int)-(m:Int)-(c:Int)<0
  ·have w5:IntKind.i64.wrap ((u:Int)-(m:Int)-(c:Int)+1000000000)=(u:Int)-(m:Int)-(c:Int)+1000000000:=wrap64 (by omega) (by omega)
   have w6:IntKind.i64.wrap ((q:Int)+1)=((q+1:Nat):Int):=wrapN _ (by omega) (by omega)
   by_cases h2:(u:Int)-(m:Int)-(c:Int)+1000000000<0
   ·obtain⟨r,hr⟩:∃r:Nat,r+m+c=u+1000000000*2:=⟨u+1000000000*2-m-c,by omega⟩
    have w7:IntKind.i64.wrap ((u:Int)-(m:Int)-(c:Int)+1000000000+1000000000)=(r:Int):=wrapN r (by omega) (by omega)
    have w8:IntKind.i64.wrap (((q+1:Nat):Int)+1)=((q+2:Nat):Int):=wrapN _ (by omega) (by omega)
    obtain⟨s1,s2,s3,s4⟩:=step r 2 (by omega) hr
    simp only[jX,k0,k1,k2,k3,k9,zK,AM,IT,cB,e1,e2,e3,e4,w1,w2,w3,w4,w5,w6,w7,w8,wi,r1,q1,h1,h2,VX,Nat.reduceEqDiff,Nat.reduceAdd]
    refine⟨(i+1,outs.set i r,q+2),by simp only;omega,by omega,rfl,s4,s2,by simp only;omega,s1,s3,?_⟩
    try (repeat' apply And.intro)<;>first | rfl | trivial
   ·obtain⟨r,hr⟩:∃r:Nat,r+m+c=u+1000000000*1:=⟨u+1000000000*1-m-c,by omega⟩
    have w7:IntKind.i64.wrap ((u:Int)-(m:Int)-(c:Int)+1000000000)=(r:Int):=wrapN r (by omega) (by omega)
    have h3:¬(r:Int)<0:=by omega
    obtain⟨s1,s2,s3,s4⟩:=step r 1 (by omega) hr
    simp only[jX,k0,k1,k2,k3,k9,zK,AM,IT,cB,e1,e2,e3,e4,w1,w2,w3,w4,w6,w7,wi,r1,q1,h1,h3,VX,Nat.reduceEqDiff,Nat.reduceAdd]
    refine⟨(i+1,outs.set i r,q+1),by simp only;omega,by omega,rfl,s4,s2,by simp only;omega,s1,s3,?_⟩
    try (repeat' apply And.intro)<;>first | rfl | trivial
  ·obtain⟨r,hr⟩:∃r:Nat,r+m+c=u+1000000000*0:=⟨u-m-c,by omega⟩
   have w7:IntKind.i64.wrap ((u:Int)-(m:Int)-(c:Int))=(r:Int):=wrapN r (by omega) (by omega)
   have h3:¬(r:Int)<0:=by omega
   obtain⟨s1,s2,s3,s4⟩:=step r 0 (by omega) hr
   simp only[jX,k0,k1,k2,k3,k9,zK,AM,IT,cB,e1,e2,e3,e4,w1,w2,w3,w7,wi,r1,q1,h3,VX,Nat.reduceEqDiff,Nat.reduceAdd]
   refine⟨(i+1,outs.set i r,q),by simp only;omega,by omega,rfl,s4,s2,by simp only;omega,s1,s3,?_⟩
   try (repeat' apply And.intro)<;>first | rfl | trivial
 ·have pD:i=n:=by omega
  subst pD
  rw[List.take_of_length_le (by omega),List.take_of_length_le (by omega),List.take_of_length_le (by omega)] at hv
  have w1:IntKind.i64.wrap ((o:Int)+(vs.length:Int))=((o+i:Nat):Int):=wrapN _ (by omega) (by omega)
  have e2:=ad _ _ i (rd outs top) (by omega)
  have e2':=ad _ _ i (rd outs ((top:Int)-(c:Int))) (by omega)
  have e3:=Sz (rd outs top) ho fU
  have e3':=Sz (rd outs ((top:Int)-(c:Int))) ho fU
  have e4:cD lo 1 (.ptr b g (o+i) 0) (VI ((top:Int)-(c:Int))) (H.set b (.row g (L++outs.map tV++VI (top:Int)::R) 1 true))=some (H.set b (.row g (L++outs.map tV++VI ((top:Int)-(c:Int))::R) 1 true)):=by rw[X0 (rd outs top) ho fU iD,rM]
  have w2:IntKind.i64.wrap ((top:Int)-(c:Int))=(top:Int)-(c:Int):=wrap64 (by omega) (by omega)
  simp only[jX,k0,k1,k2,k3,k9,zK,AM,IT,cB,dM,w1,w2,e2,e2',e3,e3',e4,VX,Nat.reduceEqDiff,Nat.reduceAdd]
  refine⟨outs,c,rfl,fU,lB,hc,?_,hv⟩
  try rfl
theorem Vy {H:aA} {lo b g o n N:Nat} {z:Int} {L R:List VV} {low vs:List Nat} (hr:aK H b g=some (L++low.map tV++VI z::R,1,true)) (iD:lo≤b) (ho:L.length=o) (hl:low.length=n) (DR:vs.length=n) (hN:o+n<N) (EK:N≤70368744177664)
  (Xp:∀d∈low,d<1000000000) (Fc:∀d∈vs,d<1000000000) (hz : -1000000000≤z) (V5:z≤1000000000) :
  qD 240 [.ref b g 0 N N,iB vs,VI (o:Int)] lo H fun r H'=>∃(Al:List Nat) (c:Nat),H'=H.set b (.row g (L++Al.map tV++VI (z+(c:Int))::R) 1 true)∧Al.length=n∧(∀d∈Al,d<1000000000)∧c≤1 ∧
   val 1000000000 low+val 1000000000 vs=val 1000000000 Al+1000000000^n*c:=by
 refine qD.walk ⟨true,false⟩ FZ (Nat.le_of_ble_eq_true rfl) ?_
 have rd:∀(s:List Nat) (z:Int),aK (H.set b (.row g (L++s.map tV++VI z::R) 1 true)) b g=some (L++s.map tV++VI z::R,1,true):=fun s z=>zY hr
 have ad:∀(K:aA) (es:List VV) (i:Nat),aK K b g=some (es,1,true)→i≤n→bF 1 (.ref b g 0 N N) (VI ((o+i:Nat):Int)) K=some (.ptr b g (o+i) 0):=fun K es i h hi=>by rw[aV h (by omega),Nat.zero_add]
 simp only[BI,yZ,dM,VX,Nat.reduceEqDiff,Nat.reduceAdd]
 refine aW (fun(u:Nat×List Nat×Nat) ρ K=>u.1≤n∧K=H.set b (.row g (L++u.2.1.map tV++VI z::R) 1 true)∧u.2.1.length=n∧(∀d∈u.2.1,d<1000000000)∧u.2.2≤1∧val 1000000000 (low.take u.1)+val 1000000000 (vs.take u.1)=val 1000000000 (u.2.1.take u.1)+1000000000^u.1*u.2.2∧(∀j,u.1≤j→u.2.1[j]? = low[j]?) ∧
  ρ 0 = .ref b g 0 N N∧ρ 1=iB vs∧ρ 2=VI o∧ρ 6=VI u.2.2∧ρ 10=iB vs∧ρ 11=VI vs.length∧ρ 12=VI u.1) (fun u=>n-u.1) (0,low,0) ⟨Nat.zero_le _,(Bn hr).symm,hl,Xp,by simp,by simp[val],fun _ _=>rfl,by (repeat' apply And.intro)<;>first | rfl | trivial⟩ ?_
 rintro⟨i,outs,c⟩ ρ K ⟨hi,rfl,fU,lB,hc,hv,ES,k0,k1,k2,k6,V3,TT,GY⟩
 simp only at hi fU lB hc hv ES k6 GY
 by_cases cB:(i:Int)<(vs.length:Int)
 ·obtain⟨u,hu⟩:∃u,outs[i]? = some u:=⟨_,List.getElem?_eq_getElem (by omega)⟩
  have lu:=lB u (List.mem_of_getElem? hu)
  have hu':low[i]? = some u:=by rw[←ES i (Nat.le_refl _)];exact hu
  obtain⟨x,hx⟩:∃x,vs[i]? = some x:=⟨_,List.getElem?_eq_getElem (by omega)⟩
  have lx:=Fc x (List.mem_of_getElem? hx)
  have e1:bF 1 (iB vs) (VI i) (H.set b (.row g (L++outs.map tV++VI z::R) 1 true))=some (.cP (tV x) 0):=aG (f:=tV) (t := .op) (size:=1) (k := .i64) hx rfl
  have w1:IntKind.i64.wrap ((o:Int)+(i:Int))=((o+i:Nat):Int):=wrapN _ (by omega) (by omega)
  have e2:=ad _ _ i (rd outs z) (by omega)
  have e3:=WT (rd outs z) ho hu
  have e4:∀d:Nat,cD lo 1 (.ptr b g (o+i) 0) (VI (d:Int)) (H.set b (.row g (L++outs.map tV++VI z::R) 1 true))=some (H.set b (.row g (L++(outs.set i d).map tV++VI z::R) 1 true)):=fun d=>by rw[XV (rd outs z) ho (by omega) iD,rM]
  have w2:IntKind.i64.wrap ((u:Int)+(x:Int))=((u+x:Nat):Int):=wrapN _ (by omega) (by omega)
  have w3:IntKind.i64.wrap (((u+x:Nat):Int)+(c:Int))=((u+x+c:Nat):Int):=wrapN _ (by omega) (by omega)
  have r1:=Lj (u+x+c)
  have q1:=Mz (u+x+c) (by omega)
  have wi:IntKind.i64.wrap ((i:Int)+1)=((i+1:Nat):Int):=wrapN (i+1) (by omega) (by omega)
  simp only[qV,k0,k1,k2,k6,V3,TT,GY,cB,e1,e2,e3,e4,w1,w2,w3,wi,r1,q1,VX,Nat.reduceEqDiff,Nat.reduceAdd]
  refine⟨(i+1,outs.set i ((u+x+c) % 1000000000),(u+x+c) / 1000000000),by simp only;omega,by omega,rfl,by rw[List.length_set];exact fU,lO lB (Nat.mod_lt _ (by decide)),by simp only;omega,?_,fun j hj=>by rw[List.getElem?_set_ne (by omega)];exact ES j (by omega),?_⟩
  ·simp only
   rw[aT hu',aT hx,dP (by omega),Nat.pow_succ]
   exact El hv (show c+u+x=u+x+c by omega) (Nat.mod_add_div _ _)
  ·try (repeat' apply And.intro)<;>first | rfl | trivial
 ·have pD:i=n:=by omega
  subst pD
  rw[List.take_of_length_le (by omega),List.take_of_length_le (by omega),List.take_of_length_le (by omega)] at hv
  have w1:IntKind.i64.wrap ((o:Int)+(vs.length:Int))=((o+i:Nat):Int):=wrapN _ (by omega) (by omega)
  have e2:=ad _ _ i (rd outs z) (by omega)
  have e3:=Sz (rd outs z) ho fU
  have e4:cD lo 1 (.ptr b g (o+i) 0) (VI (z+(c:Int))) (H.set b (.row g (L++outs.map tV++VI z::R) 1 true))=some (H.set b (.row g (L++outs.map tV++VI (z+(c:Int))::R) 1 true)):=by rw[X0 (rd outs z) ho fU iD,rM]
  have w2:IntKind.i64.wrap (z+(c:Int))=z+(c:Int):=wrap64 (by omega) (by omega)
  simp only[qV,k0,k1,k2,k6,V3,TT,GY,cB,dM,w1,w2,e2,e3,e4,VX,Nat.reduceEqDiff,Nat.reduceAdd]
  exact⟨outs,c,rfl,fU,lB,hc,hv⟩
end Go.PM
namespace Go.PM
theorem wA {d:Nat} {H:aA}:fz (d+1) H (.tree [] .nil)=some (bH 0):=by
 rw[C7]
 unfold fz
 have:aP (.tree [] .nil)=false:=by simp[aP]
 simp only[this,Bool.false_eq_true,if_false]
 rfl
theorem Xr {d:Nat} {H:aA} {m:Nat} {t:TK} (ht:t = .cl 1∨t = .op):fz (d+2) H (.tree ((aD 4294967296 m).map uV) t)=some (bH m):=by
 rcases ht with rfl | rfl
 ·unfold fz
  have:aP (.tree ((aD 4294967296 m).map uV) (.cl 1))=false:=by simp[aP]
  simp only[this,Bool.false_eq_true,if_false]
  rw[mapM_pure (dZ fun _=>rfl)]
  rfl
 ·exact aH (bP m)
abbrev H3 (us ws os:List Nat):aA:=[.row 0 (us.map uV) 1 true,.row 0 (ws.map uV) 1 true,.row 0 (os.map uV) 1 true]
theorem BV {us ws os:List Nat}:aK (H3 us ws os) 0 0=some (us.map uV,1,true):=rfl
theorem ahX {us ws os:List Nat}:aK (H3 us ws os) 1 0=some (ws.map uV,1,true):=rfl
theorem aaG {us ws os:List Nat}:aK (H3 us ws os) 2 0=some (os.map uV,1,true):=rfl
theorem US {us:List Nat} {i n N V:Nat} (hN:us.length=N) (cB:i+n<N) (hd:∀d∈us,d<4294967296) (hV:V<4294967296^n) (BD:val 4294967296 (us.drop (i+1))<V) :
  us=us.take i++(us.drop i).take (n+1)++us.drop (i+(n+1))∧(us.take i).length=i∧((us.drop i).take (n+1)).length=n+1∧val 4294967296 ((us.drop i).take (n+1))<4294967296*V∧val 4294967296 (us.drop i)=val 4294967296 ((us.drop i).take (n+1))∧val 4294967296 (us.drop (i+(n+1)))=0∧∀j,j<n+1→((us.drop i).take (n+1))[j]? = us[i+j]? := by
 obtain⟨x,hx⟩:∃x,us[i]? = some x:=⟨_,List.getElem?_eq_getElem (by omega)⟩
 have lx:=hd x (List.mem_of_getElem? hx)
 have h1:=sO (b:=4294967296) hx
 have h2:val 4294967296 (us.drop i)<4294967296*V:=by
  have:4294967296*(val 4294967296 (us.drop (i+1))+1)≤4294967296*V:=Nat.mul_le_mul_left _ BD
  omega
 have h3:=pH (b:=4294967296) (us.drop i) (n+1)
 have h4:((us.drop i).take (n+1)).length=n+1:=by rw[List.length_take,List.length_drop];omega
 rw[h4,List.drop_drop] at h3
 have h5:val 4294967296 (us.drop (i+(n+1)))=0:=by
  rcases Nat.eq_zero_or_pos (val 4294967296 (us.drop (i+(n+1)))) with h | h
  ·exact h
  ·have h6:4294967296^(n+1)*1≤4294967296^(n+1)*val 4294967296 (us.drop (i+(n+1))):=Nat.mul_le_mul_left _ h
   have h7:4294967296*V≤4294967296^(n+1):=by rw[Nat.pow_succ,Nat.mul_comm];exact Nat.mul_le_mul_right _ (by omega)
   omega
 rw[h5,Nat.mul_zero,Nat.add_zero] at h3
 refine⟨?_,by rw[List.length_take];omega,h4,by omega,h3,h5,fun j hj => ?_⟩
 ·rw[List.append_assoc,←List.drop_drop,List.take_append_drop,List.take_append_drop]
 ·rw[List.getElem?_take_of_lt hj,List.getElem?_drop]
theorem Ok {x D p w:Nat} (hp:0<p) (hw:p*w=4294967296):(x+4294967296*D) / p=((D % 4294967296*4294967296+x) / p) % 4294967296+4294967296*(D / p)∨¬x<4294967296:=by
 rcases Nat.lt_or_ge x 4294967296 with hx | hx
 ·left
  have h1:(x+4294967296*D) / p / 4294967296=D / p:=by
   rw[Nat.div_div_eq_div_mul,Nat.mul_comm p,←Nat.div_div_eq_div_mul,Nat.add_mul_div_left _ _ (by decide),Nat.div_eq_of_lt hx,Nat.zero_add]
  have h2:(x+4294967296*D) / p % 4294967296=(D % 4294967296*4294967296+x) / p % 4294967296:=by
   have e:x+4294967296*D=(D % 4294967296*4294967296+x)+p*(4294967296*(w*(D / 4294967296))):=by
    have h3:=Nat.mod_add_div D 4294967296
    have h4:p*(4294967296*(w*(D / 4294967296)))=(p*w)*(4294967296*(D / 4294967296)):=by grind
    rw[h4,hw]
    omega
   rw[e,Nat.add_mul_div_left _ _ hp,Nat.add_mul_mod_self_left]
  have:=Nat.mod_add_div ((x+4294967296*D) / p) 4294967296
  rw[h1,h2] at this
  exact this.symm
 ·right
  omega
theorem RP {x:Nat} (h0:x≠0) (hx:x<4294967296):∃s,s≤31∧TC 219 [uV x] (VI (s:Nat))∧x*2^s<4294967296:=by
 obtain⟨h1,h2,h3⟩:=Lib.bitLenAux_bounds 64 x (by omega) h0
 have h4:Lib.bitLenAux 64 x-1<32:=by
  have:2^(Lib.bitLenAux 64 x-1)<2^32:=by omega
  exact(Nat.pow_lt_pow_iff_right (by decide)).1 this
 refine⟨32-Lib.bitLenAux 64 x,by omega,?_,?_⟩
 ·have:=UG x hx
  have e:(((32-Lib.bitLenAux 64 x:Nat)):Int)=32-(Lib.bitLen x:Int):=by unfold Lib.bitLen;omega
  rw[e]
  exact this
 ·have:2^Lib.bitLenAux 64 x*2^(32-Lib.bitLenAux 64 x)=4294967296:=by rw[←Nat.pow_add,show Lib.bitLenAux 64 x+(32-Lib.bitLenAux 64 x)=32 by omega]
  rw[←this]
  exact Nat.mul_lt_mul_of_pos_right h3 (Nat.pow_pos (by decide))
theorem Uy {us ws os:List Nat} {k N s w0:Nat} {ρ:cG} {Q:VQ} (hs:s≤31) (hw:2^s*w0=4294967296) (hN:us.length=N) (hk:k≤N) (EK:N≤70368744177664) (hd:∀d∈us,d<4294967296) (g8:ρ 8=VI s) (g9:ρ 9 = .ref 0 0 0 k N) (asC:ρ 147=VI k) (aqD:ρ 148=VI 0)
  (hQ:∀(aM:cG) (EB:List Nat),aM 9 = .ref 0 0 0 k N→aM 13=ρ 13→EB.length=N→(∀d∈EB,d<4294967296)→val 4294967296 (EB.take k)=val 4294967296 (us.take k) / 2^s→Q (.exit 4) aM (H3 EB ws os)) :
  VW ⟨true,false⟩ 0 (.loop kM) Q ρ (H3 us ws os):=by
 have hp:0<2^s:=Nat.pow_pos (by decide)
 refine aW (fun(t:Nat×List Nat) aM H=>t.1≤k∧H=H3 t.2 ws os∧t.2.length=N∧(∀d∈t.2,d<4294967296)∧(∀j,t.1≤j→t.2[j]? = us[j]?)∧val 4294967296 (t.2.take t.1)+4294967296^t.1*(val 4294967296 ((us.take k).drop t.1) / 2^s)=val 4294967296 (us.take k) / 2^s ∧
  aM 8=VI s∧aM 9 = .ref 0 0 0 k N∧aM 13=ρ 13∧aM 147=VI k∧aM 148=VI t.1) (fun t=>k-t.1) (0,us) ⟨Nat.zero_le _,rfl,hN,hd,fun _ _=>rfl,by simp[val],g8,g9,rfl,asC,aqD⟩ ?_
 rintro⟨i,vs⟩ pM H ⟨hi,rfl,DR,Fc,ES,hv,k8,k9,zK,aeJ,Zv⟩
 simp only at hi DR Fc ES hv Zv
 by_cases cB:(i:Int)<(k:Int)
 ·obtain⟨x,hx⟩:∃x,us[i]? = some x:=⟨_,List.getElem?_eq_getElem (by omega)⟩
  have hx2:vs[i]? = some x:=by rw[ES i (Nat.le_refl _)];exact hx
  have lx:=hd x (List.mem_of_getElem? hx)
  have hx3:(us.take k)[i]? = some x:=by rw[List.getElem?_take_of_lt (by omega)];exact hx
  have h1:=sO (b:=4294967296) hx3
  generalize hD:val 4294967296 ((us.take k).drop (i+1))=D at *
  have hlen:pX (.ref 0 0 0 k N) (H3 vs ws os)=some (VI k):=eV BV
  have e1:bF 1 (.ref 0 0 0 k N) (VI i) (H3 vs ws os)=some (.ptr 0 0 i 0):=by rw[aV BV (by omega),Nat.zero_add]
  have e2:cU false 1 (.ptr 0 0 i 0) (H3 vs ws os)=some (uV x):=iM BV hx2
  have e3:∀d:Nat,cD 0 1 (.ptr 0 0 i 0) (uV d) (H3 vs ws os)=some (H3 (vs.set i d) ws os):=fun d=>by
   rw[gU (f:=uV) (e:=1) BV (by omega) (Nat.le_refl _) rfl rfl]
   rfl
  have wi:IntKind.i64.wrap ((i:Int)+1)=((i+1:Nat):Int):=wrapN (i+1) (by omega) (by omega)
  have wx:IntKind.u64.wrap (x:Int)=(x:Int):=fN _ (by omega)
  have hm:=Nat.mod_lt D (show 0<4294967296 by decide)
  have w5:=De (D % 4294967296) .u64 hm
  have w6:IntKind.u64.wrap (((D % 4294967296*4294967296:Nat):Int)+(x:Int))=((D % 4294967296*4294967296+x:Nat):Int):=by rw[←Int.natCast_add];exact fN _ (by omega)
  have w7:=Yz (D % 4294967296*4294967296+x) s hs
  have sd:(x+4294967296*D) / 2^s=((D % 4294967296*4294967296+x) / 2^s) % 4294967296+4294967296*(D / 2^s):=by
   rcases Ok (x:=x) (D:=D) hp hw with h | h
   ·exact h
   ·exact absurd lx h
  have next:∃s':Nat×List Nat,k-s'.1<k-i∧s'.1≤k∧H3 (vs.set i (((D % 4294967296*4294967296+x) / 2^s) % 4294967296)) ws os=H3 s'.2 ws os∧s'.2.length=N∧(∀d∈s'.2,d<4294967296)∧(∀j,s'.1≤j→s'.2[j]? = us[j]?)∧val 4294967296 (s'.2.take s'.1)+4294967296^s'.1*(val 4294967296 ((us.take k).drop s'.1) / 2^s)=val 4294967296 (us.take k) / 2^s∧s'.1=i+1:=by
   refine⟨(i+1,vs.set i (((D % 4294967296*4294967296+x) / 2^s) % 4294967296)),by simp only;omega,by simp only;omega,rfl,by simp only[List.length_set];exact DR,lO Fc (Nat.mod_lt _ (by decide)),fun j hj => ?_,?_,rfl⟩
   ·simp only at hj ⊢
    rw[List.getElem?_set_ne (by omega)]
    exact ES j (by omega)
   ·simp only
    rw[dP (by omega),hD,←hv,h1,sd,Nat.pow_succ]
    generalize (D % 4294967296*4294967296+x) / 2^s % 4294967296=q
    generalize D / 2^s=E
    rw[Nat.mul_add,Nat.mul_assoc,Nat.add_assoc]
  obtain⟨s',n1,n2,n3,n4,n5,n6,n7,n8⟩:=next
  by_cases aiU:((i+1:Nat):Int)<(k:Int)
  ·obtain⟨h,hh⟩:∃h,us[i+1]? = some h:=⟨_,List.getElem?_eq_getElem (by omega)⟩
   have hh2:vs[i+1]? = some h:=by rw[ES (i+1) (by omega)];exact hh
   have hhD:D % 4294967296=h:=by
    have hh3:(us.take k)[i+1]? = some h:=by rw[List.getElem?_take_of_lt (by omega)];exact hh
    have:=sO (b:=4294967296) hh3
    rw[hD] at this
    have lh:=hd h (List.mem_of_getElem? hh)
    omega
   have f1:bF 1 (.ref 0 0 0 k N) (VI ((i+1:Nat):Int)) (H3 vs ws os)=some (.ptr 0 0 (i+1) 0):=by rw[aV BV (by omega),Nat.zero_add]
   have f2:cU false 1 (.ptr 0 0 (i+1) 0) (H3 vs ws os)=some (uV h):=iM BV hh2
   have wh:IntKind.u64.wrap (h:Int)=(h:Int):=fN _ (by omega)
   rw[hhD] at w5 w6 w7 n3
   simp only[kM,k8,k9,aeJ,Zv,cB,aiU,hlen,e1,e2,e3,f1,f2,wi,wx,wh,w5,w6,w7,wrap32,VX,Nat.reduceEqDiff,Nat.reduceAdd]
   exact⟨s',n1,n2,n3,n4,n5,n6,n7,zK,by rw[n8]⟩
  ·have hD0:D=0:=by
    rw[←hD,List.drop_of_length_le (by rw[List.length_take];omega)]
    rfl
   subst hD0
   have w5':fB .shl (.int .u64 0) (.int .u64 32)=some (.int .u64 0):=De 0 .u64 (by decide)
   have w6':IntKind.u64.wrap ((0:Int)+(x:Int))=(x:Int):=by rw[Int.zero_add];exact wx
   have w7':=Yz x s hs
   simp only[Nat.zero_mod,Nat.zero_mul,Nat.zero_add] at n3
   simp only[kM,k8,k9,aeJ,Zv,cB,aiU,hlen,e1,e2,e3,wi,wx,w5',w6',w7',wrap32,VX,Nat.reduceEqDiff,Nat.reduceAdd]
   exact⟨s',n1,n2,n3,n4,n5,n6,n7,zK,by rw[n8]⟩
 ·have pD:i=k:=by omega
  subst pD
  rw[List.drop_of_length_le (by rw[List.length_take];omega)] at hv
  simp only[val,Nat.zero_div,Nat.mul_zero,Nat.add_zero] at hv
  simp only[kM,k8,k9,aeJ,Zv,cB,VX,Nat.reduceEqDiff,Nat.reduceAdd]
  exact hQ _ vs k9 zK DR Fc hv
end Go.PM
namespace Go.PM
theorem Sl {iF vs us ws os:List Nat} {n u2 u1 u0 v1 v0 N k g left:Nat} (G:vO 4294967296 iF vs n u2 u1 u0 v1 v0) {ρ:cG} {Q:VQ} (hN:us.length=N) (hk2:2≤k) (hkN:k<N) (EK:N≤70368744177664) (ZQ:us[k-2]? = some u0)
  (g9:ρ 9 = .ref 0 0 0 N N) (g11:ρ 11=VK .u64 v1) (g12:ρ 12=VK .u64 v0) (g15:ρ 15=VI k) (g17:ρ 17=VK .u64 g) (g18:ρ 18=VK .u64 left) (hh:u2*4294967296+u1=g*v1+left) (hq:val 4294967296 iF / val 4294967296 vs≤g) (hl:left<4294967296) (hgb:g<18446744073709551616)
  (hQ:∀(aM:cG) (g':Nat),val 4294967296 iF / val 4294967296 vs≤g'→g'≤val 4294967296 iF / val 4294967296 vs+1→g'<4294967296→aM 17=VK .u64 g'→aM 8=ρ 8→aM 9=ρ 9→aM 10=ρ 10→aM 11=ρ 11→aM 12=ρ 12→aM 13=ρ 13→aM 14=ρ 14→aM 15=ρ 15→Q (.exit 2) aM (H3 us ws os)) :
  VW ⟨true,false⟩ 0 (.loop gB) Q ρ (H3 us ws os):=by
 have lv1:=G.S3
 have lv0:=G.W1
 have lu0:=G.acE
 have qlt:=G.Z8
 have kI:=G.pos
 refine aW (fun(t:Nat×Nat) aM H=>H=H3 us ws os∧u2*4294967296+u1=t.1*v1+t.2∧val 4294967296 iF / val 4294967296 vs≤t.1∧t.2<4294967296∧t.1<18446744073709551616 ∧
  aM 9 = .ref 0 0 0 N N∧aM 11=VK .u64 v1∧aM 12=VK .u64 v0∧aM 15=VI k∧aM 17=VK .u64 t.1∧aM 18=VK .u64 t.2∧aM 8=ρ 8∧aM 10=ρ 10∧aM 13=ρ 13∧aM 14=ρ 14) (fun t=>4294967296-t.2) (g,left) ⟨rfl,hh,hq,hl,hgb,g9,g11,g12,g15,g17,g18,rfl,rfl,rfl,rfl⟩ ?_
 rintro⟨g,left⟩ pM H ⟨rfl,hh,hq,hl,hgb,k9,TT,GY,IT,EI,QP,k8,V3,zK,AM⟩
 simp only at hh hq hl hgb EI QP
 have e1:bF 1 (.ref 0 0 0 N N) (VI ((k-2:Nat):Int)) (H3 us ws os)=some (.ptr 0 0 (k-2) 0):=by rw[aV BV (by omega),Nat.zero_add]
 have e2:cU false 1 (.ptr 0 0 (k-2) 0) (H3 us ws os)=some (uV u0):=iM BV ZQ
 have wk:IntKind.i64.wrap ((k:Int)-2)=((k-2:Nat):Int):=wrapN _ (by omega) (by omega)
 have wu:IntKind.u64.wrap (u0:Int)=(u0:Int):=fN _ (by omega)
 have ws:=De left .u64 hl
 have wa:IntKind.u64.wrap (((left*4294967296:Nat):Int)+(u0:Int))=((left*4294967296+u0:Nat):Int):=by rw[←Int.natCast_add];exact fN _ (by omega)
 have wl:IntKind.u64.wrap ((left:Int)+(v1:Int))=((left+v1:Nat):Int):=by rw[←Int.natCast_add];exact fN _ (by omega)
 have same:pM 9=ρ 9∧pM 11=ρ 11∧pM 12=ρ 12∧pM 15=ρ 15:=⟨by rw[k9,g9],by rw[TT,g11],by rw[GY,g12],by rw[IT,g15]⟩
 obtain⟨s9,s11,s12,s15⟩:=same
 have down:val 4294967296 iF / val 4294967296 vs<g→∃g',g=g'+1∧IntKind.u64.wrap ((g:Int)-1)=(g':Int)∧u2*4294967296+u1=g'*v1+(left+v1)∧val 4294967296 iF / val 4294967296 vs≤g':=by
  intro h
  have hg1:1≤g:=Nat.lt_of_le_of_lt (Nat.zero_le _) h
  obtain⟨g',rfl⟩:∃g',g=g'+1:=⟨g-1,by omega⟩
  refine⟨g',rfl,?_,?_,by omega⟩
  ·rw[show ((g'+1:Nat):Int)-1=(g':Int) by omega]
   exact fN _ (by omega)
  ·rw[hh,Nat.add_mul]
   omega
 by_cases hA:(4294967296:Int)≤(g:Int)
 ·obtain⟨g',Xc,wg,Rn,Lc⟩:=down (by omega)
  by_cases hB:(4294967296:Int)≤((left+v1:Nat):Int)
  ·obtain⟨c1,c2⟩:=G.broken Rn (by omega)
   simp only[gB,k9,TT,GY,IT,EI,QP,hA,hB,wg,wl,VX,Nat.reduceEqDiff,Nat.reduceAdd]
   exact hQ _ g' Lc (G.T3 Rn (by omega) c2) c1 rfl k8 s9 V3 s11 s12 zK AM s15
  ·simp only[gB,k9,TT,GY,IT,EI,QP,hA,hB,wg,wl,VX,Nat.reduceEqDiff,Nat.reduceAdd]
   exact⟨(g',left+v1),by simp only;omega,Rn,Lc,by simp only;omega,by simp only;omega,by rfl,by rfl,k8,V3,zK,AM⟩
 ·have hgv:g*v0≤4294967295*4294967295:=Nat.mul_le_mul (by omega) (by omega)
  have wm:IntKind.u64.wrap ((g:Int)*(v0:Int))=((g*v0:Nat):Int):=by rw[←Int.natCast_mul];exact fN _ (by omega)
  by_cases hT:((left*4294967296+u0:Nat):Int)<((g*v0:Nat):Int)
  ·obtain⟨g',Xc,wg,Rn,Lc⟩:=down (G.too hh (by omega))
   by_cases hB:(4294967296:Int)≤((left+v1:Nat):Int)
   ·obtain⟨c1,c2⟩:=G.broken Rn (by omega)
    simp only[gB,k9,TT,GY,IT,EI,QP,hA,hB,hT,e1,e2,wk,wu,ws,wa,wm,wg,wl,VX,Nat.reduceEqDiff,Nat.reduceAdd]
    exact hQ _ g' Lc (G.T3 Rn (by omega) c2) c1 rfl k8 s9 V3 s11 s12 zK AM s15
   ·simp only[gB,k9,TT,GY,IT,EI,QP,hA,hB,hT,e1,e2,wk,wu,ws,wa,wm,wg,wl,VX,Nat.reduceEqDiff,Nat.reduceAdd]
    exact⟨(g',left+v1),by simp only;omega,Rn,Lc,by simp only;omega,by simp only;omega,by rfl,by rfl,k8,V3,zK,AM⟩
  ·simp only[gB,k9,TT,GY,IT,EI,QP,hA,hT,e1,e2,wk,wu,ws,wa,wm,VX,Nat.reduceEqDiff,Nat.reduceAdd]
   exact hQ _ g hq (G.T3 hh (by omega) (by omega)) (by omega) EI k8 s9 V3 s11 s12 zK AM s15
theorem Jk {X S S' R V q Q P w:Nat} (hs:S=q*V+S') (h:X+P*S+P*w*V*Q=R):X+P*S'+P*V*(q+w*Q)=R:=by
 subst hs
 grind
theorem Wh {DG ws VO vs:List Nat} {N m n v1 v0 A s:Nat} {ρ:cG} {Q:VQ} (hN:DG.length=N) (hm:m+(n+2)=N) (EK:N≤70368744177664) (Hw:∀d∈DG,d<4294967296) (hws:ws.take (n+2)=vs) (hwl:ws.length=n+3) (DR:vs.length=n+2) (Fc:∀d∈vs,d<4294967296) (f1:vs[n+1]? = some v1) (f0:vs[n]? = some v0) (kI:1≤v1)
  (hA:val 4294967296 DG=A) (BD:val 4294967296 (DG.drop m)<val 4294967296 vs) (fU:VO.length=m) (lB:∀d∈VO,d<4294967296)
  (g8:ρ 8=VI s) (g9:ρ 9 = .ref 0 0 0 N N) (g10:ρ 10 = .ref 1 0 0 (n+2) (n+3)) (g11:ρ 11=VK .u64 v1) (g12:ρ 12=VK .u64 v0) (g13:ρ 13 = .ref 2 0 0 m m) (g14:ρ 14=VI ((m:Int)-1))
  (hQ:∀(aM:cG) (us os:List Nat),aM 8=VI s→aM 9 = .ref 0 0 0 N N→aM 13 = .ref 2 0 0 m m→us.length=N→(∀d∈us,d<4294967296)→os.length=m→(∀d∈os,d<4294967296)→val 4294967296 us+val 4294967296 vs*val 4294967296 os=A→val 4294967296 us<val 4294967296 vs→Q (.exit 0) aM (H3 us ws os)) :
  VW ⟨true,false⟩ 0 (.loop nT) Q ρ (H3 DG ws VO):=by
 have hVb:=oE Fc
 rw[DR] at hVb
 refine aW (fun(t:Nat×List Nat×List Nat) aM H=>t.1≤m∧H=H3 t.2.1 ws t.2.2∧t.2.1.length=N∧(∀d∈t.2.1,d<4294967296)∧t.2.2.length=m∧(∀d∈t.2.2,d<4294967296)∧val 4294967296 (t.2.1.drop t.1)<val 4294967296 vs∧val 4294967296 t.2.1+4294967296^t.1*val 4294967296 vs*val 4294967296 (t.2.2.drop t.1)=A ∧
  aM 8=VI s∧aM 9 = .ref 0 0 0 N N∧aM 10 = .ref 1 0 0 (n+2) (n+3)∧aM 11=VK .u64 v1∧aM 12=VK .u64 v0∧aM 13 = .ref 2 0 0 m m∧aM 14=VI ((t.1:Int)-1)) (fun t=>t.1) (m,DG,VO) ⟨Nat.le_refl _,rfl,hN,Hw,fU,lB,BD,by rw[List.drop_of_length_le (by simp only;omega)];simpa[val] using hA,g8,g9,g10,g11,g12,g13,g14⟩ ?_
 rintro⟨j,us,os⟩ pM H ⟨hj,rfl,N3,Hw,fU,lB,aX,hv,k8,k9,V3,TT,GY,zK,AM⟩
 simp only at hj N3 Hw fU lB aX hv AM
 by_cases hz:(0:Int)≤(j:Int)-1
 ·obtain⟨i,rfl⟩:∃i,j=i+1:=⟨j-1,by omega⟩
  have J6:((i+1:Nat):Int)-1=(i:Int):=by omega
  rw[J6] at AM hz
  obtain⟨Ra,AV,Nx,hsW,Yb,YB,yU⟩:=US (n:=n+2) N3 (by omega) Hw hVb aX
  generalize T8:(us.drop i).take (n+2+1)=iF at *
  have NO:∀d∈iF,d<4294967296:=fun d hd=>by rw[←T8] at hd;exact Hw d (List.mem_of_mem_drop (List.mem_of_mem_take hd))
  obtain⟨u2,hu2⟩:∃u2,us[i+(n+2)]? = some u2:=⟨_,List.getElem?_eq_getElem (by omega)⟩
  obtain⟨u1,Zf⟩:∃u1,us[i+(n+1)]? = some u1:=⟨_,List.getElem?_eq_getElem (by omega)⟩
  obtain⟨u0,ZQ⟩:∃u0,us[i+n]? = some u0:=⟨_,List.getElem?_eq_getElem (by omega)⟩
  have G:vO 4294967296 iF vs n u2 u1 u0 v1 v0:=⟨by decide,NO,Fc,Nx,DR,by rw[yU _ (by omega)];exact hu2,by rw[yU _ (by omega)];exact Zf,by rw[yU _ (by omega)];exact ZQ,f1,f0,kI,hsW⟩
  have lu2:=G.abE
  have lu1:=G.Xt
  have lv1:=G.S3
  have qlt:=G.Z8
  have Hp:=G.Hp
  have acS:pX (.ref 1 0 0 (n+2) (n+3)) (H3 us ws os)=some (VI ((n+2:Nat):Int)):=eV ahX
  have w1:IntKind.i64.wrap ((i:Int)+((n+2:Nat):Int))=((i+(n+2):Nat):Int):=by rw[←Int.natCast_add];exact wrapN _ rfl (by omega)
  have w2:IntKind.i64.wrap (((i+(n+2):Nat):Int)-1)=((i+(n+1):Nat):Int):=wrapN _ (by omega) (by omega)
  have e2:bF 1 (.ref 0 0 0 N N) (VI ((i+(n+2):Nat):Int)) (H3 us ws os)=some (.ptr 0 0 (i+(n+2)) 0):=by rw[aV BV (by omega),Nat.zero_add]
  have e1:bF 1 (.ref 0 0 0 N N) (VI ((i+(n+1):Nat):Int)) (H3 us ws os)=some (.ptr 0 0 (i+(n+1)) 0):=by rw[aV BV (by omega),Nat.zero_add]
  have l2:cU false 1 (.ptr 0 0 (i+(n+2)) 0) (H3 us ws os)=some (uV u2):=iM BV hu2
  have l1:cU false 1 (.ptr 0 0 (i+(n+1)) 0) (H3 us ws os)=some (uV u1):=iM BV Zf
  have wu2:IntKind.u64.wrap (u2:Int)=(u2:Int):=fN _ (by omega)
  have wu1:IntKind.u64.wrap (u1:Int)=(u1:Int):=fN _ (by omega)
  have ws2:=De u2 .u64 lu2
  have wa:IntKind.u64.wrap (((u2*4294967296:Nat):Int)+(u1:Int))=((u2*4294967296+u1:Nat):Int):=by rw[←Int.natCast_add];exact fN _ (by omega)
  have q1:=TN (u2*4294967296+u1) v1 (by omega) kI
  have q2:=Nz (u2*4294967296+u1) v1 kI
  simp only[nT,k8,k9,V3,TT,GY,zK,AM,hz,acS,w1,w2,e1,e2,l1,l2,wu1,wu2,ws2,wa,q1,q2,VX,Nat.reduceEqDiff,Nat.reduceAdd]
  have hh:=Nat.mod_add_div (u2*4294967296+u1) v1
  have hml:=Nat.mod_lt (u2*4294967296+u1) kI
  have hdl:(u2*4294967296+u1) / v1≤u2*4294967296+u1:=Nat.div_le_self _ _
  have Ws:val 4294967296 iF / val 4294967296 vs≤(u2*4294967296+u1) / v1:=by
   have t1:=(Cg (n:=n+1) (xs:=iF) NO (by omega) (by rw[yU _ (by omega)];exact hu2) (by rw[yU _ (by omega)];exact Zf)).2
   have t2:=(yY (n:=n+1) Fc DR f1).1
   rw[Nat.le_div_iff_mul_le kI]
   have t3:val 4294967296 iF / val 4294967296 vs*(v1*4294967296^(n+1))≤val 4294967296 iF / val 4294967296 vs*val 4294967296 vs:=Nat.mul_le_mul_left _ t2
   have t4:=Nat.div_mul_le_self (val 4294967296 iF) (val 4294967296 vs)
   have t5:val 4294967296 iF / val 4294967296 vs*v1*4294967296^(n+1)<(u2*4294967296+u1+1)*4294967296^(n+1):=by rw[Nat.mul_assoc];omega
   have:=Nat.lt_of_mul_lt_mul_right t5
   omega
  refine Sl (k:=i+(n+2)) G N3 (by omega) (by omega) EK (by rw[show i+(n+2)-2=i+n by omega];exact ZQ) k9 TT GY (by rfl) (by rfl) (by rfl) (by rw[Nat.mul_comm ((u2*4294967296+u1) / v1)];omega) Ws (by omega) (by omega) ?_
  intro sS g' hq Lc hgW r17 r8 r9 r10 r11 r12 ZP r14 r15
  have On:sS 15=VI ((i+(n+2):Nat):Int):=r15
  have r8':sS 8=VI s:=r8.trans k8
  have r9':sS 9 = .ref 0 0 0 N N:=r9.trans k9
  have aeB:sS 10 = .ref 1 0 0 (n+2) (n+3):=r10.trans V3
  have adY:sS 11=VK .u64 v1:=r11.trans TT
  have OK:sS 12=VK .u64 v0:=r12.trans GY
  have QF:sS 13 = .ref 2 0 0 m m:=ZP.trans zK
  have PN:sS 14=VI i:=r14.trans AM
  have w3:IntKind.i64.wrap (((i+(n+2):Nat):Int)+1)=((i+(n+3):Nat):Int):=wrapN _ (by omega) (by omega)
  have YI:EV 1 (.ref 0 0 0 N N) (some (VI i)) (some (VI ((i+(n+3):Nat):Int))) none (H3 us ws os)=some (.ref 0 0 i (n+3) (N-i)):=by
   rw[Kv BV (by omega) (by omega),Nat.zero_add,Nat.add_sub_cancel_left]
  simp only[r8',r9',aeB,adY,OK,QF,PN,On,r17,w3,YI,VX,Nat.reduceEqDiff,Nat.reduceAdd]
  have wT:g'*val 4294967296 vs≤val 4294967296 iF+val 4294967296 vs:=by
   have:=Nat.mul_le_mul_right (val 4294967296 vs) Lc
   rw[Nat.add_mul,Nat.one_mul] at this
   have:=Nat.div_mul_le_self (val 4294967296 iF) (val 4294967296 vs)
   omega
  refine lT rfl ((RJ (pre:=us.take i) (iF:=iF) (post:=us.drop (i+(n+2+1))) (L:=n+3) (o:=i) (by rw[←Ra];exact BV) (ahX (us:=us) (ws:=ws) (os:=os)) (by decide) (Nat.zero_le _) AV Nx (by omega) hws (by omega) (by omega) NO Fc hgW wT).mono ?_)
  rintro r H' ⟨rH,rfl,CY,We,hr⟩
  generalize ZU:us.take i++rH++us.drop (i+(n+2+1))=EB at *
  have JM:(H3 us ws os).set 0 (.row 0 (EB.map uV) 1 true)=H3 EB ws os:=rfl
  rw[JM]
  have adJ:EB.length=N:=by rw[←ZU,List.length_append,List.length_append,AV,CY,List.length_drop];omega
  have aaP:∀d∈EB,d<4294967296:=fun d hd=>by
   rw[←ZU,List.mem_append,List.mem_append] at hd
   rcases hd with(hd | hd) | hd
   ·exact Hw d (List.mem_of_mem_take hd)
   ·exact We d hd
   ·exact Hw d (List.mem_of_mem_drop hd)
  have Ru:EB.drop i=rH++us.drop (i+(n+2+1)):=by rw[←ZU,List.append_assoc,List.drop_append,List.drop_of_length_le (by omega),AV];simp
  have Rr:EB.take i=us.take i:=by rw[←ZU,List.append_assoc,List.take_append_of_le_length (by omega),List.take_of_length_le (by omega)]
  have Pf:val 4294967296 (EB.drop i)=val 4294967296 rH:=by rw[Ru,wR,YB,Nat.mul_zero,Nat.add_zero]
  have digit:∀q:Nat,q=val 4294967296 iF / val 4294967296 vs→val 4294967296 rH=val 4294967296 iF % val 4294967296 vs →
    val 4294967296 (EB.drop i)<val 4294967296 vs∧val 4294967296 EB+4294967296^i*val 4294967296 vs*val 4294967296 ((os.set i q).drop i)=A:=by
   rintro q QT Y1
   have Zo:=Nat.mod_lt (val 4294967296 iF) Hp
   refine⟨by rw[Pf,Y1];exact Zo,?_⟩
   have h1:=Nat.div_add_mod (val 4294967296 iF) (val 4294967296 vs)
   rw[←QT,←Y1,Nat.mul_comm] at h1
   have h2:=pH (b:=4294967296) us i
   have h3:=pH (b:=4294967296) EB i
   rw[Rr,AV,Pf] at h3
   rw[AV,Yb] at h2
   rw[set_drop (by omega),sC,h3]
   rw[h2,Nat.pow_succ] at hv
   exact Jk h1.symm hv
  have e3:∀d:Nat,bF 1 (.ref 2 0 0 m m) (VI i) (H3 EB ws os)=some (.ptr 2 0 i 0)∧cD 0 1 (.ptr 2 0 i 0) (uV d) (H3 EB ws os)=some (H3 EB ws (os.set i d)):=fun d=>by
   refine⟨by rw[aV aaG (by omega),Nat.zero_add],?_⟩
   rw[gU (f:=uV) (e:=1) aaG (by omega) (Nat.zero_le _) rfl rfl]
   rfl
  have wi:IntKind.i64.wrap ((i:Int)-1)=(i:Int)-1:=wrap64 (by omega) (by omega)
  rcases hr with⟨rfl,hr⟩ | ⟨rfl,Rs,hr2⟩
  ·have DA:g'*val 4294967296 vs≤val 4294967296 iF:=by omega
   have QT:g'=val 4294967296 iF / val 4294967296 vs:=by
    have:=(Nat.le_div_iff_mul_le Hp).2 DA
    omega
   have Y1:val 4294967296 rH=val 4294967296 iF % val 4294967296 vs:=by
    have h1:=Nat.div_add_mod (val 4294967296 iF) (val 4294967296 vs)
    rw[←QT,Nat.mul_comm] at h1
    omega
   obtain⟨d1,d2⟩:=digit g' QT Y1
   simp only[r8',r9',aeB,adY,OK,QF,PN,On,r17,(e3 g').1,(e3 g').2,wi,wrap32,Nat.mod_eq_of_lt hgW,VX,Nat.reduceEqDiff,Nat.reduceAdd]
   exact⟨(i,EB,os.set i g'),by simp only;omega,by omega,rfl,adJ,aaP,by rw[List.length_set];exact fU,lO lB hgW,d1,d2,by (repeat' apply And.intro)<;>first | rfl | trivial⟩
  ·have Yq:val 4294967296 iF / val 4294967296 vs<g':=(Nat.div_lt_iff_lt_mul Hp).2 Rs
   have hg1:1≤g':=Nat.lt_of_le_of_lt (Nat.zero_le _) Yq
   obtain⟨q,rfl⟩:∃q,g'=q+1:=⟨g'-1,by omega⟩
   have QT:q=val 4294967296 iF / val 4294967296 vs:=by omega
   have Y1:val 4294967296 rH=val 4294967296 iF % val 4294967296 vs:=by
    have h1:=Nat.div_add_mod (val 4294967296 iF) (val 4294967296 vs)
    rw[←QT,Nat.mul_comm] at h1
    rw[Nat.add_mul,Nat.one_mul] at hr2
    omega
   have wq:IntKind.u64.wrap (((q+1:Nat):Int)-1)=(q:Int):=by rw[show ((q+1:Nat):Int)-1=(q:Int) by omega];exact fN _ (by omega)
   obtain⟨d1,d2⟩:=digit q QT Y1
   simp only[r8',r9',aeB,adY,OK,QF,PN,On,r17,wq,(e3 q).1,(e3 q).2,wi,wrap32,Nat.mod_eq_of_lt (show q<4294967296 by omega),VX,Nat.reduceEqDiff,Nat.reduceAdd]
   exact⟨(i,EB,os.set i q),by simp only;omega,by omega,rfl,adJ,aaP,by rw[List.length_set];exact fU,lO lB (by omega),d1,d2,by (repeat' apply And.intro)<;>first | rfl | trivial⟩
 ·have UN:j=0:=by omega
  subst UN
  rw[List.drop_zero] at aX
  rw[Nat.pow_zero,Nat.one_mul,List.drop_zero] at hv
  simp only[nT,k8,k9,V3,TT,GY,zK,AM,hz,VX,Nat.reduceEqDiff,Nat.reduceAdd]
  exact hQ _ us os k8 k9 zK N3 Hw fU lB hv aX
end Go.PM
namespace Go.PM
theorem Kw {a n:Nat} (hn:(aD 4294967296 a).length=n+1):∃d,(aD 4294967296 a)[n]? = some d∧d≠0∧d<4294967296:=by
 obtain⟨d,hd⟩:∃d,(aD 4294967296 a)[n]? = some d:=⟨_,List.getElem?_eq_getElem (by omega)⟩
 refine⟨d,hd,fun h0 => ?_,fC (by decide) a d (List.mem_of_getElem? hd)⟩
 have:=Lg (b:=4294967296) (by decide) a
 rw[List.getLast?_eq_getElem?,hn,Nat.add_sub_cancel,hd,h0] at this
 exact this rfl
theorem Qc {a d:Nat} (h:aD 4294967296 a=[d]):a=d∧0<d∧d<4294967296:=by
 have h1:=bX (b:=4294967296) (by decide) a
 rw[h,val_one] at h1
 obtain⟨e,h2,h3,h4⟩:=Kw (a:=a) (n:=0) (by rw[h];rfl)
 rw[h] at h2
 cases h2
 exact⟨h1.symm,by omega,h4⟩
theorem xM (a b:Nat) (hb:b≠0) (ha:(aD 4294967296 a).length≤17592186044416) (uR:(aD 4294967296 b).length≤17592186044416):TC 173 [bH a,bH b] (.eG [bH (a / b),bH (a % b)]):=by
 refine TC.walk ⟨true,false⟩ Gl rfl (Nat.le_of_ble_eq_true rfl) (by simp[aN,bP]) (by simp[gK,pB,qA]) ?_
 have c1:=jY a b ha uR
 by_cases Hi:fD a b<0
 ·have aX:a<b:=by
   unfold fD at Hi
   split at Hi
   ·assumption
   ·split at Hi<;>omega
  simp only[sR,oX,c1,Hi,VX,Nat.reduceEqDiff,Nat.reduceAdd]
  rw[Nat.div_eq_of_lt aX,Nat.mod_eq_of_lt aX]
  exact bE (d:=6) wA (aH (bP a))
 have DA:b≤a:=by
  unfold fD at Hi
  split at Hi
  ·omega
  ·omega
 have hbn:(aD 4294967296 b).length≠0:=fun h=>hb ((oJ (b:=4294967296) (by decide)).1 (List.length_eq_zero_iff.1 h))
 by_cases h1:(((aD 4294967296 b).length:Nat):Int)=1
 ·obtain⟨d,hd⟩:∃d,aD 4294967296 b=[d]:=by
   match hx:aD 4294967296 b with
   | []=>rw[hx] at hbn;exact absurd rfl hbn
   | [d]=>exact⟨d,rfl⟩
   | _::_::_=>rw[hx] at h1;simp at h1;omega
  obtain⟨rfl,CP,hdW⟩:=Qc hd
  have c2:=DL a b CP hdW ha
  have e0:pX (bH b) []=some (VI 1):=by rw[bH,AL,dM,hd];rfl
  have e1:bF 1 (bH b) (VI 0) []=some (.cP (uV b) 0):=by
   rw[bH,hd]
   exact aG (f:=uV) (t := .op) (H:=[]) (size:=1) (k := .i64) (xs:=[b]) (i:=0) rfl rfl
  have e2:=uM (H:=[]) (z:=[.int .u32 0]) (v:=uV (a % b)) rfl rfl rfl
  have e3:=YC (size:=1) (v:=Value.int .u32 ((b:Nat):Int))
  simp only[sR,oX,c1,Hi,e0,e1,c2,e2,VX,Nat.reduceEqDiff,Nat.reduceAdd]
  refine IY (ds:=[a % b]) (t := .cl 1) (fun d hd => ?_) (by show 1≤70368744177664;decide) (val_one _) fun t' ht => ?_
  ·rw[List.mem_singleton] at hd
   subst hd
   exact Nat.lt_of_lt_of_le (Nat.mod_lt _ CP) (Nat.le_of_lt hdW)
  ·simp only[VX,Nat.reduceEqDiff,Nat.reduceAdd]
   exact bE (d:=6) (aH (bP _)) (Xr (d:=5) ht)
 obtain⟨n,hn⟩:∃n,(aD 4294967296 b).length=n+2:=⟨(aD 4294967296 b).length-2,by omega⟩
 obtain⟨t,ht,ht0,htW⟩:=Kw (a:=b) (n:=n+1) hn
 obtain⟨s,hs,cl,ajO⟩:=RP ht0 htW
 have hS:0<2^s:=Nat.pow_pos (by decide)
 have hSW:2^s*2^(32-s)=4294967296:=by rw[←Nat.pow_add,show s+(32-s)=32 by omega]
 have hla:=fA (b:=4294967296) (by decide) DA
 have e0:pX (bH b) []=some (VI ((n+2:Nat):Int)):=by rw[bH,AL,dM,hn]
 have w0:IntKind.i64.wrap (((n+2:Nat):Int)-1)=((n+1:Nat):Int):=wrapN _ (by omega) (by omega)
 have Vk:¬(((n+2:Nat):Int)=1):=by omega
 have e1:bF 1 (bH b) (VI ((n+1:Nat):Int)) []=some (.cP (uV t) 0):=aG (f:=uV) (t := .op) (H:=[]) (size:=1) (k := .i64) ht rfl
 simp only[sR,oX,c1,Hi,e0,Vk,w0,e1,cl,VX,Nat.reduceEqDiff,Nat.reduceAdd]
 have fa:[bH a,VI (s:Int)].mapM (fz depth ([]:aA))=some [bH a,VI (s:Int)]:=fz2 (aJ (bP a)) (aJ rfl)
 refine FC.call (xK a s hs ha) rfl fa ?_
 rintro r L ⟨Gh,rfl,rfl,hAl,hAd,hAv,hAt⟩
 simp only[VX,Nat.reduceEqDiff,Nat.reduceAdd]
 have fb:∀H:aA,[bH b,VI (s:Int)].mapM (fz depth H)=some [bH b,VI (s:Int)]:=fun H=>fz2 (aJ (bP b)) (aJ rfl)
 refine FC.call (xK b s hs uR) rfl (fb _) ?_
 rintro r L ⟨DM,rfl,rfl,hBl,hBd,hBv,hBt⟩
 rw[hn] at hBl
 simp only[hn,List.length_singleton,VX,Nat.reduceEqDiff,Nat.reduceAdd]
 have acQ:b*2^s<4294967296^(n+2):=by
  have h2:=(yY (n:=n+1) (fC (b:=4294967296) (by decide) b) hn ht).2
  rw[bX (by decide)] at h2
  have h3:b*2^s<(t+1)*4294967296^(n+1)*2^s:=Nat.mul_lt_mul_of_pos_right h2 hS
  have h4:(t+1)*4294967296^(n+1)*2^s=(t+1)*2^s*4294967296^(n+1):=by grind
  have h5:(t+1)*2^s≤4294967296:=by
   have h6:t*2^s<2^(32-s)*2^s:=by rw[Nat.mul_comm (2^(32-s)),hSW];exact ajO
   have h7:=Nat.lt_of_mul_lt_mul_right h6
   have h8:(t+1)*2^s≤2^(32-s)*2^s:=Nat.mul_le_mul_right _ h7
   rwa [Nat.mul_comm (2^(32-s)),hSW] at h8
  have h9:(t+1)*2^s*4294967296^(n+1)≤4294967296*4294967296^(n+1):=Nat.mul_le_mul_right _ h5
  have h10:4294967296*4294967296^(n+1)=4294967296^(n+2):=by rw[Nat.pow_succ 4294967296 (n+1)];exact Nat.mul_comm _ _
  omega
 have hVl:(aD 4294967296 (b*2^s)).length=n+2:=by
  have h2:=oF (b:=4294967296) (by decide) acQ
  have h3:b≤b*2^s:=Nat.le_mul_of_pos_right b hS
  have h4:=fA (b:=4294967296) (by decide) h3
  omega
 refine rL (rows:=DM) (m:=b*2^s) (by rfl) (by omega) (by omega) (by omega) (fun d hd=>hBd d (List.mem_of_mem_take hd)) (by rw[List.take_of_length_le (by omega)];exact hBv) fun k hk he => ?_
 have hk2:k=n+2:=by
  have:=congrArg List.length he
  rw[hVl,List.length_take] at this
  omega
 subst hk2
 generalize N4:aD 4294967296 (b*2^s)=vs at *
 have Fc:∀d∈vs,d<4294967296:=by rw[←N4];exact fC (by decide) _
 have KR:val 4294967296 vs=b*2^s:=by rw[←N4];exact bX (by decide) _
 obtain⟨v1,f1⟩:∃v1,vs[n+1]? = some v1:=⟨_,List.getElem?_eq_getElem (by omega)⟩
 obtain⟨v0,f0⟩:∃v0,vs[n]? = some v0:=⟨_,List.getElem?_eq_getElem (by omega)⟩
 have hv1:1≤v1:=by
  obtain⟨d,hd,CP,_⟩:=Kw (a:=b*2^s) (n:=n+1) (by rw[N4];exact hVl)
  rw[N4,f1] at hd
  cases hd
  omega
 have b1:DM[n+1]? = some v1:=by rw[←f1,←he,List.getElem?_take_of_lt (by omega)]
 have b0:DM[n]? = some v0:=by rw[←f0,←he,List.getElem?_take_of_lt (by omega)]
 have lv1:=Fc v1 (List.mem_of_getElem? f1)
 have lv0:=Fc v0 (List.mem_of_getElem? f0)
 have x1:bF 1 (.ref 1 0 0 (n+2) (n+2+1)) (VI ((n+1:Nat):Int)) [.row 0 (Gh.map uV) 1 true,.row 0 (DM.map uV) 1 true]=some (.ptr 1 0 (n+1) 0):=by rw[aV (by rfl) (by omega),Nat.zero_add]
 have x0:bF 1 (.ref 1 0 0 (n+2) (n+2+1)) (VI ((n:Nat):Int)) [.row 0 (Gh.map uV) 1 true,.row 0 (DM.map uV) 1 true]=some (.ptr 1 0 n 0):=by rw[aV (by rfl) (by omega),Nat.zero_add]
 have y1:cU false 1 (.ptr 1 0 (n+1) 0) [.row 0 (Gh.map uV) 1 true,.row 0 (DM.map uV) 1 true]=some (uV v1):=iM (rows:=DM) (g:=0) (w:=true) (by rfl) b1
 have y0:cU false 1 (.ptr 1 0 n 0) [.row 0 (Gh.map uV) 1 true,.row 0 (DM.map uV) 1 true]=some (uV v0):=iM (rows:=DM) (g:=0) (w:=true) (by rfl) b0
 have z0:pX (.ref 1 0 0 (n+2) (n+2+1)) [.row 0 (Gh.map uV) 1 true,.row 0 (DM.map uV) 1 true]=some (VI ((n+2:Nat):Int)):=eV (r:=(DM.map uV,1,true)) (by rfl)
 have z1:pX (.ref 0 0 0 ((aD 4294967296 a).length+1) ((aD 4294967296 a).length+1)) [.row 0 (Gh.map uV) 1 true,.row 0 (DM.map uV) 1 true]=some (VI (((aD 4294967296 a).length+1:Nat):Int)):=eV (r:=(Gh.map uV,1,true)) (by rfl)
 have w2:IntKind.i64.wrap (((n+2:Nat):Int)-2)=((n:Nat):Int):=wrapN _ (by omega) (by omega)
 have wv1:IntKind.u64.wrap (v1:Int)=(v1:Int):=fN _ (by omega)
 have wv0:IntKind.u64.wrap (v0:Int)=(v0:Int):=fN _ (by omega)
 obtain⟨m,hm⟩:∃m,m+(n+2)=(aD 4294967296 a).length+1:=⟨(aD 4294967296 a).length+1-(n+2),by omega⟩
 have wm:IntKind.i64.wrap ((((aD 4294967296 a).length+1:Nat):Int)-((n+2:Nat):Int))=(m:Int):=wrapN _ (by omega) (by omega)
 have wm1:IntKind.i64.wrap ((m:Int)-1)=(m:Int)-1:=wrap64 (by omega) (by omega)
 have mk:=Ti m 0 (by omega) (H:=[.row 0 (Gh.map uV) 1 true,.row 0 (DM.map uV) 1 true])
 have z2:pX (.ref 2 0 0 m m) (H3 Gh DM (List.replicate m 0))=some (VI m):=eV (r:=((List.replicate m 0).map uV,1,true)) (by rfl)
 simp only[w0,x1,x0,y1,y0,z0,z1,w2,wv1,wv0,wm,mk,z2,wm1,List.length_cons,List.length_nil,VX,Nat.reduceEqDiff,Nat.reduceAdd]
 have BD:val 4294967296 (Gh.drop m)<val 4294967296 vs:=by
  obtain⟨d,hd⟩:∃d,Gh[(aD 4294967296 a).length]? = some d:=⟨_,List.getElem?_eq_getElem (by omega)⟩
  have h2:=(yY (b:=4294967296) (xs:=Gh.drop m) (n:=n+1) (t:=d) (fun x hx=>hAd x (List.mem_of_mem_drop hx)) (by rw[List.length_drop];omega) (by rw[List.getElem?_drop,show m+(n+1)=(aD 4294967296 a).length by omega];exact hd)).2
  have h3:=hAt d hd
  have h4:=(yY (n:=n+1) (fC (b:=4294967296) (by decide) b) hn ht).1
  rw[bX (by decide)] at h4
  have h5:(d+1)*4294967296^(n+1)≤2^s*4294967296^(n+1):=Nat.mul_le_mul_right _ h3
  have h6:1*4294967296^(n+1)≤t*4294967296^(n+1):=Nat.mul_le_mul_right _ (by omega)
  have h7:1*4294967296^(n+1)*2^s≤b*2^s:=Nat.mul_le_mul_right _ (by omega)
  rw[KR]
  rw[Nat.one_mul,Nat.mul_comm] at h7
  omega
 refine Wh (DG:=Gh) (ws:=DM) (VO:=List.replicate m 0) (vs:=vs) (N:=(aD 4294967296 a).length+1) (m:=m) (n:=n) (A:=a*2^s) (s:=s) hAl hm (by omega) hAd he hBl hVl Fc f1 f0 hv1 hAv BD (by simp) (Ai (by decide) _) (by rfl) (by rfl) (by rfl) (by rfl) (by rfl) (by rfl) (by rfl) ?_
 intro wQ us os r8 r9 ZP N3 Hw fU lB hv aX
 rw[KR] at hv aX
 have hq:val 4294967296 os=a / b:=by
  rw[←Nat.mul_div_mul_right a b hS,←hv,Nat.add_mul_div_left _ _ (by omega),Nat.div_eq_of_lt aX,Nat.zero_add]
 have hr:val 4294967296 us=a % b*2^s:=by
  rw[←Nat.mul_mod_mul_right,←hv,Nat.add_mul_mod_self_left,Nat.mod_eq_of_lt aX]
 simp only[r9,VX,Nat.reduceEqDiff,Nat.reduceAdd]
 refine rL (rows:=us) (m:=a % b*2^s) BV (by omega) (Nat.le_refl _) (by omega) (fun d hd=>Hw d (List.mem_of_mem_take hd)) (by rw[List.take_of_length_le (by omega)];exact hr) fun k hk he2 => ?_
 have z3:pX (.ref 0 0 0 k ((aD 4294967296 a).length+1)) (H3 us DM os)=some (VI k):=eV BV
 simp only[z3,VX,Nat.reduceEqDiff,Nat.reduceAdd]
 refine Uy (us:=us) (k:=k) (N:=(aD 4294967296 a).length+1) (s:=s) (w0:=2^(32-s)) hs hSW N3 hk (by omega) Hw r8 (by rfl) (by rfl) (by rfl) ?_
 intro pM EB q9 q13 adJ aaP hv'
 have arB:pM 13 = .ref 2 0 0 m m:=q13.trans ZP
 have B8:val 4294967296 (EB.take k)=a % b:=by
  rw[hv',he2,bX (by decide),Nat.mul_div_cancel _ hS]
 simp only[q9,arB,VX,Nat.reduceEqDiff,Nat.reduceAdd]
 refine rL (rows:=os) (m:=a / b) aaG (by omega) (Nat.le_refl _) (by omega) (fun d hd=>lB d (List.mem_of_mem_take hd)) (by rw[List.take_of_length_le (by omega)];exact hq) fun k2 hk2 he3 => ?_
 simp only[q9,VX,Nat.reduceEqDiff,Nat.reduceAdd]
 refine rL (rows:=EB) (m:=a % b) BV (by omega) hk (by omega) (fun d hd=>aaP d (List.mem_of_mem_take hd)) B8 fun k3 hk3 he4 => ?_
 simp only[VX,Nat.reduceEqDiff,Nat.reduceAdd]
 exact bE (d:=6) (IS (d:=5) aaG (by omega) hk2 he3) (IS (d:=5) BV (by omega) (by omega) he4)
end Go.PM
namespace Go.PM
abbrev H2 (us os:List Nat):aA:=[.row 0 (us.map tV) 1 true,.row 0 (os.map tV) 1 true]
theorem Rb {us os:List Nat}:aK (H2 us os) 0 0=some (us.map tV,1,true):=rfl
theorem akN {us os:List Nat}:aK (H2 us os) 1 0=some (os.map tV,1,true):=rfl
theorem ZW {P a Z:Nat} {y:Int} (h:(a:Int)+(P:Int)*y=(Z:Int)) (ha:a<P) (hZ:Z<P):y=0∧a=Z:=by
 have hy:y=0:=by
  rcases Int.lt_trichotomy y 0 with h1 | h1 | h1
  ·have:(P:Int)*y≤(P:Int)*(-1):=Int.mul_le_mul_of_nonneg_left (by omega) (by omega)
   omega
  ·exact h1
  ·have:(P:Int)*1≤(P:Int)*y:=Int.mul_le_mul_of_nonneg_left (by omega) (by omega)
   omega
 subst hy
 rw[Int.mul_zero] at h
 exact⟨rfl,by omega⟩
theorem QV {us:List Nat} {i n N V:Nat} (hN:us.length=N) (cB:i+n<N) (hd:∀d∈us,d<1000000000) (hV:V<1000000000^n) (BD:val 1000000000 (us.drop (i+1))<V) :
  us=us.take i++(us.drop i).take (n+1)++us.drop (i+(n+1))∧(us.take i).length=i∧((us.drop i).take (n+1)).length=n+1∧val 1000000000 ((us.drop i).take (n+1))<1000000000*V∧val 1000000000 (us.drop i)=val 1000000000 ((us.drop i).take (n+1))∧val 1000000000 (us.drop (i+(n+1)))=0∧∀j,j<n+1→((us.drop i).take (n+1))[j]? = us[i+j]? := by
 obtain⟨x,hx⟩:∃x,us[i]? = some x:=⟨_,List.getElem?_eq_getElem (by omega)⟩
 have lx:=hd x (List.mem_of_getElem? hx)
 have h1:=sO (b:=1000000000) hx
 have h2:val 1000000000 (us.drop i)<1000000000*V:=by
  have:1000000000*(val 1000000000 (us.drop (i+1))+1)≤1000000000*V:=Nat.mul_le_mul_left _ BD
  omega
 have h3:=pH (b:=1000000000) (us.drop i) (n+1)
 have h4:((us.drop i).take (n+1)).length=n+1:=by rw[List.length_take,List.length_drop];omega
 rw[h4,List.drop_drop] at h3
 have h5:val 1000000000 (us.drop (i+(n+1)))=0:=by
  rcases Nat.eq_zero_or_pos (val 1000000000 (us.drop (i+(n+1)))) with h | h
  ·exact h
  ·have h6:1000000000^(n+1)*1≤1000000000^(n+1)*val 1000000000 (us.drop (i+(n+1))):=Nat.mul_le_mul_left _ h
   have h7:1000000000*V≤1000000000^(n+1):=by rw[Nat.pow_succ,Nat.mul_comm];exact Nat.mul_le_mul_right _ (by omega)
   omega
 rw[h5,Nat.mul_zero,Nat.add_zero] at h3
 refine⟨?_,by rw[List.length_take];omega,h4,by omega,h3,h5,fun j hj => ?_⟩
 ·rw[List.append_assoc,←List.drop_drop,List.take_append_drop,List.take_append_drop]
 ·rw[List.getElem?_take_of_lt hj,List.getElem?_drop]
theorem leT {g:Nat} (h:(1000000000:Int)≤(g:Int)):1000000000≤g:=by omega
theorem WH {g:Nat} (h:¬(1000000000:Int)≤(g:Int)):g<1000000000:=by omega
theorem ltC {a b:Nat} (h:(a:Int)<(b:Int)):a<b:=by omega
theorem aqS {a b:Nat} (h:¬(a:Int)<(b:Int)):b≤a:=by omega
theorem Mg {a:Nat} (h:a*1000000000≤9223372036854775807):IntKind.i64.wrap ((a:Int)*1000000000)=((a*1000000000:Nat):Int):=wrapN _ (by omega) h
theorem Mh {a b:Nat} (h:a+b≤9223372036854775807):IntKind.i64.wrap ((a:Int)+(b:Int))=((a+b:Nat):Int):=wrapN _ (by omega) h
theorem Vd {a b:Nat} (h:a*b≤9223372036854775807):IntKind.i64.wrap ((a:Int)*(b:Int))=((a*b:Nat):Int):=wrapN _ (by simp) h
theorem x17 {a:Nat} (h:a<1000000000):a*1000000000≤9223372036854775807:=by omega
theorem x18 {a b:Nat} (h:a<1000000000) (hb:b<1000000000):a*1000000000+b≤1000000000000000000:=by omega
theorem Oc {iF vs us os:List Nat} {n u2 u1 u0 v1 v0 N i g left:Nat} (G:vO 1000000000 iF vs n u2 u1 u0 v1 v0) {ρ:cG} {Q:VQ} (hN:us.length=N) (hiN:i+(n+2)<N) (EK:N≤70368744177664) (ZQ:us[i+n]? = some u0)
  (g13:ρ 13 = .ref 0 0 0 N N) (g14:ρ 14=iB vs) (g15:ρ 15=VI ((n+2:Nat):Int)) (g17:ρ 17=VI i) (g19:ρ 19=VI g) (g20:ρ 20=VI left) (hh:u2*1000000000+u1=g*v1+left) (hq:val 1000000000 iF / val 1000000000 vs≤g) (hl:left<1000000000) (hgb:g≤1000000000000000000)
  (hQ:∀(aM:cG) (g':Nat),val 1000000000 iF / val 1000000000 vs≤g'→g'≤val 1000000000 iF / val 1000000000 vs+1→g'<1000000000→aM 19=VI g'→aM 12=ρ 12→aM 13=ρ 13→aM 14=ρ 14→aM 15=ρ 15→aM 16=ρ 16→aM 17=ρ 17→Q (.exit 2) aM (H2 us os)) :
  VW ⟨true,false⟩ 0 (.loop gI) Q ρ (H2 us os):=by
 have lv1:=G.S3
 have lv0:=G.W1
 have lu0:=G.acE
 have qlt:=G.Z8
 have kI:=G.pos
 have DR:=G.IZ
 refine aW (fun(t:Nat×Nat) aM H=>H=H2 us os∧u2*1000000000+u1=t.1*v1+t.2∧val 1000000000 iF / val 1000000000 vs≤t.1∧t.2<1000000000∧t.1≤1000000000000000000 ∧
  aM 13 = .ref 0 0 0 N N∧aM 14=iB vs∧aM 15=VI ((n+2:Nat):Int)∧aM 17=VI i∧aM 19=VI t.1∧aM 20=VI t.2∧aM 12=ρ 12∧aM 16=ρ 16) (fun t=>1000000000-t.2) (g,left) ⟨rfl,hh,hq,hl,hgb,g13,g14,g15,g17,g19,g20,rfl,rfl⟩ ?_
 rintro⟨g,left⟩ pM H ⟨rfl,hh,hq,hl,hgb,zK,AM,IT,EI,Y2,k20,GY,Y9⟩
 simp only at hh hq hl hgb Y2 k20
 have f1:bF 1 (iB vs) (VI ((n+1:Nat):Int)) (H2 us os)=some (.cP (tV v1) 0):=aG (f:=tV) (t := .op) (size:=1) (k := .i64) G.f1 rfl
 have f0:bF 1 (iB vs) (VI (n:Int)) (H2 us os)=some (.cP (tV v0) 0):=aG (f:=tV) (t := .op) (size:=1) (k := .i64) G.f0 rfl
 have wn2:IntKind.i64.wrap (((n+2:Nat):Int)-2)=(n:Int):=wrapN _ (by omega) (by omega)
 have wn1:IntKind.i64.wrap (((n+2:Nat):Int)-1)=((n+1:Nat):Int):=wrapN _ (by omega) (by omega)
 have wi:IntKind.i64.wrap ((i:Int)+((n+2:Nat):Int))=((i+(n+2):Nat):Int):=wrapN _ (by omega) (by omega)
 have wi2:IntKind.i64.wrap (((i+(n+2):Nat):Int)-2)=((i+n:Nat):Int):=wrapN _ (by omega) (by omega)
 have e1:bF 1 (.ref 0 0 0 N N) (VI ((i+n:Nat):Int)) (H2 us os)=some (.ptr 0 0 (i+n) 0):=by rw[aV Rb (by omega),Nat.zero_add]
 have e2:cU false 1 (.ptr 0 0 (i+n) 0) (H2 us os)=some (VI (u0:Int)):=KD Rb ZQ
 have wl:IntKind.i64.wrap ((left:Int)+(v1:Int))=((left+v1:Nat):Int):=wrapN _ (by omega) (by omega)
 have down:val 1000000000 iF / val 1000000000 vs<g→∃g',g=g'+1∧IntKind.i64.wrap ((g:Int)-1)=(g':Int)∧u2*1000000000+u1=g'*v1+(left+v1)∧val 1000000000 iF / val 1000000000 vs≤g':=by
  intro h
  have hg1:1≤g:=Nat.lt_of_le_of_lt (Nat.zero_le _) h
  obtain⟨g',rfl⟩:∃g',g=g'+1:=⟨g-1,by omega⟩
  refine⟨g',rfl,wrapN _ (by omega) (by omega),?_,by omega⟩
  rw[hh,Nat.add_mul]
  omega
 have hmu:∀g':Nat,left+v1<1000000000→1000000000-(g',left+v1).2<1000000000-(g,left).2:=fun g' h=>by
  show 1000000000-(left+v1)<1000000000-left
  omega
 have hle:∀g':Nat,g=g'+1→g'≤1000000000000000000:=fun g' h=>by
  omega
 have apS:left*1000000000+u0≤9223372036854775807:=Nat.le_trans (x18 hl lu0) (by decide)
 have aqR:left*1000000000≤9223372036854775807:=x17 hl
 have ws:IntKind.i64.wrap ((left:Int)*1000000000)=((left*1000000000:Nat):Int):=Mg aqR
 have wa:IntKind.i64.wrap (((left*1000000000:Nat):Int)+(u0:Int))=((left*1000000000+u0:Nat):Int):=Mh apS
 obtain⟨s13,s14,s15,s17⟩:pM 13=ρ 13∧pM 14=ρ 14∧pM 15=ρ 15∧pM 17=ρ 17:=⟨by rw[zK,g13],by rw[AM,g14],by rw[IT,g15],by rw[EI,g17]⟩
 by_cases hA:(1000000000:Int)≤(g:Int)
 ·have hA':=leT hA
  obtain⟨g',Xc,wg,Rn,Lc⟩:=down (Nat.lt_of_lt_of_le qlt hA')
  by_cases hB:(1000000000:Int)≤((left+v1:Nat):Int)
  ·obtain⟨c1,c2⟩:=G.broken Rn (leT hB)
   simp only[gI,zK,AM,IT,EI,Y2,k20,hA,hB,f1,wn1,wg,wl,VX,Nat.reduceEqDiff,Nat.reduceAdd]
   exact hQ _ g' Lc (G.T3 Rn (Nat.le_of_lt c1) c2) c1 rfl GY s13 s14 s15 Y9 s17
  ·simp only[gI,zK,AM,IT,EI,Y2,k20,hA,hB,f1,wn1,wg,wl,VX,Nat.reduceEqDiff,Nat.reduceAdd]
   refine⟨(g',left+v1),hmu g' (WH hB),Rn,Lc,WH hB,hle g' Xc,?_⟩
   exact⟨rfl,rfl,GY,Y9⟩
 ·have hA':=WH hA
  have hgv:g*v0≤999999999*999999999:=Nat.mul_le_mul (Nat.le_of_lt_succ hA') (Nat.le_of_lt_succ lv0)
  have wm:IntKind.i64.wrap ((g:Int)*(v0:Int))=((g*v0:Nat):Int):=Vd (Nat.le_trans hgv (by decide))
  by_cases hT:((left*1000000000+u0:Nat):Int)<((g*v0:Nat):Int)
  ·obtain⟨g',Xc,wg,Rn,Lc⟩:=down (G.too hh (ltC hT))
   by_cases hB:(1000000000:Int)≤((left+v1:Nat):Int)
   ·obtain⟨c1,c2⟩:=G.broken Rn (leT hB)
    simp only[gI,zK,AM,IT,EI,Y2,k20,hA,hB,hT,f1,f0,e1,e2,wn1,wn2,wi,wi2,ws,wa,wm,wg,wl,VX,Nat.reduceEqDiff,Nat.reduceAdd]
    exact hQ _ g' Lc (G.T3 Rn (Nat.le_of_lt c1) c2) c1 rfl GY s13 s14 s15 Y9 s17
   ·simp only[gI,zK,AM,IT,EI,Y2,k20,hA,hB,hT,f1,f0,e1,e2,wn1,wn2,wi,wi2,ws,wa,wm,wg,wl,VX,Nat.reduceEqDiff,Nat.reduceAdd]
    refine⟨(g',left+v1),hmu g' (WH hB),Rn,Lc,WH hB,hle g' Xc,?_⟩
    exact⟨rfl,rfl,GY,Y9⟩
  ·simp only[gI,zK,AM,IT,EI,Y2,k20,hA,hT,f0,e1,e2,wn2,wi,wi2,ws,wa,wm,VX,Nat.reduceEqDiff,Nat.reduceAdd]
   exact hQ _ g hq (G.T3 hh (Nat.le_of_lt hA') (aqS hT)) hA' Y2 GY s13 s14 s15 Y9 s17
theorem Mq {DG VO vs:List Nat} {N m n v1 v0 A s:Nat} {ρ:cG} {Q:VQ} (hN:DG.length=N) (hm:m+(n+2)=N) (EK:N≤70368744177664) (Hw:∀d∈DG,d<1000000000) (DR:vs.length=n+2) (Fc:∀d∈vs,d<1000000000) (f1:vs[n+1]? = some v1) (f0:vs[n]? = some v0) (kI:1≤v1)
  (hA:val 1000000000 DG=A) (BD:val 1000000000 (DG.drop m)<val 1000000000 vs) (fU:VO.length=m) (lB:∀d∈VO,d<1000000000)
  (g12:ρ 12=VI s) (g13:ρ 13 = .ref 0 0 0 N N) (g14:ρ 14=iB vs) (g15:ρ 15=VI ((n+2:Nat):Int)) (g16:ρ 16 = .ref 1 0 0 m m) (g17:ρ 17=VI ((m:Int)-1))
  (hQ:∀(aM:cG) (us os:List Nat),aM 12=VI s→aM 13 = .ref 0 0 0 N N→aM 16 = .ref 1 0 0 m m→us.length=N→(∀d∈us,d<1000000000)→os.length=m→(∀d∈os,d<1000000000)→val 1000000000 us+val 1000000000 vs*val 1000000000 os=A→val 1000000000 us<val 1000000000 vs→Q (.exit 0) aM (H2 us os)) :
  VW ⟨true,false⟩ 0 (.loop iO) Q ρ (H2 DG VO):=by
 have hVb:=oE Fc
 rw[DR] at hVb
 refine aW (fun(t:Nat×List Nat×List Nat) aM H=>t.1≤m∧H=H2 t.2.1 t.2.2∧t.2.1.length=N∧(∀d∈t.2.1,d<1000000000)∧t.2.2.length=m∧(∀d∈t.2.2,d<1000000000)∧val 1000000000 (t.2.1.drop t.1)<val 1000000000 vs∧val 1000000000 t.2.1+1000000000^t.1*val 1000000000 vs*val 1000000000 (t.2.2.drop t.1)=A ∧
  aM 12=VI s∧aM 13 = .ref 0 0 0 N N∧aM 14=iB vs∧aM 15=VI ((n+2:Nat):Int)∧aM 16 = .ref 1 0 0 m m∧aM 17=VI ((t.1:Int)-1)) (fun t=>t.1) (m,DG,VO) ⟨Nat.le_refl _,rfl,hN,Hw,fU,lB,BD,by rw[List.drop_of_length_le (by simp only;omega)];simpa[val] using hA,g12,g13,g14,g15,g16,g17⟩ ?_
 rintro⟨j,us,os⟩ pM H ⟨hj,rfl,N3,Hw,fU,lB,aX,hv,GY,zK,AM,IT,Y9,EI⟩
 simp only at hj N3 Hw fU lB aX hv EI
 by_cases hz:(0:Int)≤(j:Int)-1
 ·obtain⟨i,rfl⟩:∃i,j=i+1:=⟨j-1,by omega⟩
  have J6:((i+1:Nat):Int)-1=(i:Int):=by omega
  rw[J6] at EI hz
  obtain⟨Ra,AV,Nx,hsW,Yb,YB,yU⟩:=QV (n:=n+2) N3 (by omega) Hw hVb aX
  generalize T8:(us.drop i).take (n+2+1)=iF at *
  have NO:∀d∈iF,d<1000000000:=fun d hd=>by rw[←T8] at hd;exact Hw d (List.mem_of_mem_drop (List.mem_of_mem_take hd))
  obtain⟨u2,hu2⟩:∃u2,us[i+(n+2)]? = some u2:=⟨_,List.getElem?_eq_getElem (by omega)⟩
  obtain⟨u1,Zf⟩:∃u1,us[i+(n+1)]? = some u1:=⟨_,List.getElem?_eq_getElem (by omega)⟩
  obtain⟨u0,ZQ⟩:∃u0,us[i+n]? = some u0:=⟨_,List.getElem?_eq_getElem (by omega)⟩
  have G:vO 1000000000 iF vs n u2 u1 u0 v1 v0:=⟨by decide,NO,Fc,Nx,DR,by rw[yU _ (by omega)];exact hu2,by rw[yU _ (by omega)];exact Zf,by rw[yU _ (by omega)];exact ZQ,f1,f0,kI,hsW⟩
  have lu2:=G.abE
  have lu1:=G.Xt
  have lv1:=G.S3
  have qlt:=G.Z8
  have Hp:=G.Hp
  have w1:IntKind.i64.wrap ((i:Int)+((n+2:Nat):Int))=((i+(n+2):Nat):Int):=wrapN _ (by omega) (by omega)
  have w2:IntKind.i64.wrap (((i+(n+2):Nat):Int)-1)=((i+(n+1):Nat):Int):=wrapN _ (by omega) (by omega)
  have wn1:IntKind.i64.wrap (((n+2:Nat):Int)-1)=((n+1:Nat):Int):=wrapN _ (by omega) (by omega)
  have ev1:bF 1 (iB vs) (VI ((n+1:Nat):Int)) (H2 us os)=some (.cP (tV v1) 0):=aG (f:=tV) (t := .op) (size:=1) (k := .i64) f1 rfl
  have e2:bF 1 (.ref 0 0 0 N N) (VI ((i+(n+2):Nat):Int)) (H2 us os)=some (.ptr 0 0 (i+(n+2)) 0):=by rw[aV Rb (by omega),Nat.zero_add]
  have e1:bF 1 (.ref 0 0 0 N N) (VI ((i+(n+1):Nat):Int)) (H2 us os)=some (.ptr 0 0 (i+(n+1)) 0):=by rw[aV Rb (by omega),Nat.zero_add]
  have l2:cU false 1 (.ptr 0 0 (i+(n+2)) 0) (H2 us os)=some (VI (u2:Int)):=KD Rb hu2
  have l1:cU false 1 (.ptr 0 0 (i+(n+1)) 0) (H2 us os)=some (VI (u1:Int)):=KD Rb Zf
  have apV:u2*1000000000+u1≤1000000000000000000:=x18 lu2 lu1
  have anT:u2*1000000000≤9223372036854775807:=x17 lu2
  have aiQ:u2*1000000000+u1≤9223372036854775807:=Nat.le_trans apV (by decide)
  have ws2:IntKind.i64.wrap ((u2:Int)*1000000000)=((u2*1000000000:Nat):Int):=Mg anT
  have wa:IntKind.i64.wrap (((u2*1000000000:Nat):Int)+(u1:Int))=((u2*1000000000+u1:Nat):Int):=Mh aiQ
  have q1:=IQ (u2*1000000000+u1) v1 aiQ kI
  have q2:=Kz (u2*1000000000+u1) v1 kI
  simp only[iO,GY,zK,AM,IT,Y9,EI,hz,w1,w2,wn1,ev1,e1,e2,l1,l2,ws2,wa,q1,q2,VX,Nat.reduceEqDiff,Nat.reduceAdd]
  clear ws2 wa q1 q2 e1 e2 l1 l2 ev1 w1 w2 wn1
  have hh:=Nat.mod_add_div (u2*1000000000+u1) v1
  have hml:=Nat.mod_lt (u2*1000000000+u1) kI
  have hdl:(u2*1000000000+u1) / v1≤u2*1000000000+u1:=Nat.div_le_self _ _
  have Ws:val 1000000000 iF / val 1000000000 vs≤(u2*1000000000+u1) / v1:=by
   have t1:=(Cg (n:=n+1) (xs:=iF) NO (by omega) (by rw[yU _ (by omega)];exact hu2) (by rw[yU _ (by omega)];exact Zf)).2
   have t2:=(yY (n:=n+1) Fc DR f1).1
   rw[Nat.le_div_iff_mul_le kI]
   have t3:val 1000000000 iF / val 1000000000 vs*(v1*1000000000^(n+1))≤val 1000000000 iF / val 1000000000 vs*val 1000000000 vs:=Nat.mul_le_mul_left _ t2
   have t4:=Nat.div_mul_le_self (val 1000000000 iF) (val 1000000000 vs)
   have t5:val 1000000000 iF / val 1000000000 vs*v1*1000000000^(n+1)<(u2*1000000000+u1+1)*1000000000^(n+1):=by rw[Nat.mul_assoc];omega
   have:=Nat.lt_of_mul_lt_mul_right t5
   omega
  generalize hQ1:(u2*1000000000+u1) / v1=g0 at *
  generalize hQ2:(u2*1000000000+u1) % v1=l0 at *
  refine Oc (i:=i) G N3 (by omega) EK ZQ zK AM IT EI (by rfl) (by rfl) (by rw[Nat.mul_comm g0];omega) Ws (by omega) (by omega) ?_
  intro sS g' hq Lc hgW r19 r12 ZP r14 r15 r16 r17
  have OK:sS 12=VI s:=r12.trans GY
  have QF:sS 13 = .ref 0 0 0 N N:=ZP.trans zK
  have PN:sS 14=iB vs:=r14.trans AM
  have On:sS 15=VI ((n+2:Nat):Int):=r15.trans IT
  have Zl:sS 16 = .ref 1 0 0 m m:=r16.trans Y9
  have abC:sS 17=VI i:=r17.trans EI
  simp only[OK,QF,PN,On,Zl,abC,r19,VX,Nat.reduceEqDiff,Nat.reduceAdd]
  have wT:g'*val 1000000000 vs≤val 1000000000 iF+val 1000000000 vs:=by
   have:=Nat.mul_le_mul_right (val 1000000000 vs) Lc
   rw[Nat.add_mul,Nat.one_mul] at this
   have:=Nat.div_mul_le_self (val 1000000000 iF) (val 1000000000 vs)
   omega
  obtain⟨low,agA⟩:∃low,low=iF.take (n+2):=⟨_,rfl⟩
  have hll:low.length=n+2:=by rw[agA,List.length_take];omega
  have Xp:∀d∈low,d<1000000000:=fun d hd=>NO d (by rw[agA] at hd;exact List.mem_of_mem_take hd)
  have hsg:iF=low++[u2]:=by
   have h1:iF[n+2]? = some u2:=by rw[yU _ (by omega)];exact hu2
   have h2:=List.take_append_drop (n+2) iF
   have h3:=(List.getElem?_eq_some_iff.1 h1)
   rw[List.drop_eq_getElem_cons h3.1,h3.2,List.drop_of_length_le (by omega),←agA] at h2
   exact h2.symm
  have N4:val 1000000000 iF=val 1000000000 low+1000000000^(n+2)*u2:=by rw[hsg,sL,hll]
  have nA:∀(lw:List Nat) (t:Nat),(us.take i).map tV++lw.map tV++VI (t:Int)::(us.drop (i+(n+2+1))).map tV=(us.take i++(lw++[t])++us.drop (i+(n+2+1))).map tV:=fun lw t=>by simp
  have KZ:aK (H2 us os) 0 0=some ((us.take i).map tV++low.map tV++VI (u2:Int)::(us.drop (i+(n+2+1))).map tV,1,true):=by
   rw[nA,←hsg,←Ra]
   rfl
  refine lT rfl ((UA (o:=i) (n:=n+2) KZ (Nat.zero_le _) (by simpa using AV) hll DR (by omega) EK Xp Fc hgW lu2).mono ?_)
  rintro r H' ⟨Al,c,rfl,CY,We,hc,hr,hE⟩
  have asW:val 1000000000 low<1000000000^(n+2):=by have:=oE Xp;rwa [hll] at this
  have aqJ:val 1000000000 Al<1000000000^(n+2):=by have:=oE We;rwa [CY] at this
  have rows:∀(lw:List Nat) (t q:Nat),lw.length=n+2→(∀d∈lw,d<1000000000)→t<1000000000→q=val 1000000000 iF / val 1000000000 vs→val 1000000000 lw+1000000000^(n+2)*t=val 1000000000 iF % val 1000000000 vs →
    ((us.take i++(lw++[t])++us.drop (i+(n+2+1))).length=N∧(∀d∈us.take i++(lw++[t])++us.drop (i+(n+2+1)),d<1000000000)∧val 1000000000 ((us.take i++(lw++[t])++us.drop (i+(n+2+1))).drop i)<val 1000000000 vs∧val 1000000000 (us.take i++(lw++[t])++us.drop (i+(n+2+1)))+1000000000^i*val 1000000000 vs*val 1000000000 ((os.set i q).drop i)=A):=by
   intro lw t q hlw asA ht QT Y1
   have abO:val 1000000000 (lw++[t])=val 1000000000 iF % val 1000000000 vs:=by rw[sL,hlw];exact Y1
   have apD:(lw++[t]).length=n+3:=by rw[List.length_append,hlw];rfl
   have anU:∀d∈lw++[t],d<1000000000:=fun d hd=>by
    rcases List.mem_append.1 hd with h | h
    ·exact asA d h
    ·rw[List.mem_singleton.1 h];exact ht
   generalize lw++[t]=rH at *
   have Zo:=Nat.mod_lt (val 1000000000 iF) Hp
   have Ru:(us.take i++rH++us.drop (i+(n+2+1))).drop i=rH++us.drop (i+(n+2+1)):=by rw[List.append_assoc,List.drop_append,List.drop_of_length_le (by omega),AV];simp
   have Rr:(us.take i++rH++us.drop (i+(n+2+1))).take i=us.take i:=by rw[List.append_assoc,List.take_append_of_le_length (by omega),List.take_of_length_le (by omega)]
   have Pf:val 1000000000 ((us.take i++rH++us.drop (i+(n+2+1))).drop i)=val 1000000000 rH:=by rw[Ru,wR,YB,Nat.mul_zero,Nat.add_zero]
   refine⟨by rw[List.length_append,List.length_append,AV,apD,List.length_drop];omega,fun d hd => ?_,by rw[Pf,abO];exact Zo,?_⟩
   ·rw[List.mem_append,List.mem_append] at hd
    rcases hd with(hd | hd) | hd
    ·exact Hw d (List.mem_of_mem_take hd)
    ·exact anU d hd
    ·exact Hw d (List.mem_of_mem_drop hd)
   ·have h1:=Nat.div_add_mod (val 1000000000 iF) (val 1000000000 vs)
    rw[←QT,←abO,Nat.mul_comm] at h1
    have h2:=pH (b:=1000000000) us i
    have h3:=pH (b:=1000000000) (us.take i++rH++us.drop (i+(n+2+1))) i
    rw[Rr,AV,Pf] at h3
    rw[AV,Yb] at h2
    rw[set_drop (by omega),sC,h3]
    rw[h2,Nat.pow_succ] at hv
    exact Jk h1.symm hv
  have e3:∀(EB:List Nat) (d:Nat),bF 1 (.ref 1 0 0 m m) (VI i) (H2 EB os)=some (.ptr 1 0 i 0)∧cD 0 1 (.ptr 1 0 i 0) (VI (d:Int)) (H2 EB os)=some (H2 EB (os.set i d)):=fun EB d=>by
   refine⟨by rw[aV akN (by omega),Nat.zero_add],?_⟩
   rw[show VI (d:Int)=tV d from rfl,gU (f:=tV) (e:=1) akN (by omega) (Nat.zero_le _) rfl rfl]
   rfl
  have wi:IntKind.i64.wrap ((i:Int)-1)=(i:Int)-1:=wrap64 (by omega) (by omega)
  have hdm:=Nat.div_add_mod (val 1000000000 iF) (val 1000000000 vs)
  have Zo:=Nat.mod_lt (val 1000000000 iF) Hp
  generalize hPP:1000000000^(n+2)=P at *
  by_cases mP:(u2:Int)-(c:Int)<0
  ·
   rw[decide_eq_true mP] at hr
   subst hr
   have hgt:val 1000000000 iF<g'*val 1000000000 vs:=by
    have h1:P*(u2+1)≤P*c:=Nat.mul_le_mul_left _ (by omega)
    rw[Nat.mul_add,Nat.mul_one] at h1
    omega
   have QT:g'=val 1000000000 iF / val 1000000000 vs+1:=by
    rcases Nat.lt_or_ge (val 1000000000 iF / val 1000000000 vs) g' with h | h
    ·omega
    ·have h1:g'*val 1000000000 vs≤val 1000000000 iF / val 1000000000 vs*val 1000000000 vs:=Nat.mul_le_mul_right _ h
     have:=Nat.div_mul_le_self (val 1000000000 iF) (val 1000000000 vs)
     omega
   have hg1:1≤g':=by rw[QT];exact Nat.le_add_left 1 _
   have wg:IntKind.i64.wrap ((g':Int)-1)=((g'-1:Nat):Int):=wrapN _ (by omega) (by omega)
   simp only[OK,QF,PN,On,Zl,abC,r19,wg,VX,Nat.reduceEqDiff,Nat.reduceAdd]
   have Rs:aK ((H2 us os).set 0 (.row 0 ((us.take i).map tV++Al.map tV++VI ((u2:Int)-(c:Int))::(us.drop (i+(n+2+1))).map tV) 1 true)) 0 0=some ((us.take i).map tV++Al.map tV++VI ((u2:Int)-(c:Int))::(us.drop (i+(n+2+1))).map tV,1,true):=rfl
   refine lT rfl ((Vy (o:=i) (n:=n+2) Rs (Nat.zero_le _) (by simpa using AV) CY DR (by omega) EK We Fc (by omega) (by omega)).mono ?_)
   rintro r H' ⟨R8,c2,rfl,GJ,hd2,Ze,V7⟩
   rw[hPP] at V7
   have adK:val 1000000000 R8<P:=by have:=oE hd2;rwa [GJ,hPP] at this
   obtain⟨hy,hZ⟩:(u2:Int)-(c:Int)+(c2:Int)=0∧val 1000000000 R8=val 1000000000 iF % val 1000000000 vs:=by
    refine ZW (P:=P) ?_ adK (by omega)
    have i1:(P:Int)*((u2:Int)-(c:Int)+(c2:Int))=(P:Int)*u2-(P:Int)*c+(P:Int)*c2:=by rw[Int.mul_add,Int.mul_sub]
    have i2:((P*u2:Nat):Int)=(P:Int)*u2:=by simp
    have i3:((P*c:Nat):Int)=(P:Int)*c:=by simp
    have i4:((P*c2:Nat):Int)=(P:Int)*c2:=by simp
    rw[i1,←i2,←i3,←i4]
    have i5:g'*val 1000000000 vs=val 1000000000 vs*(val 1000000000 iF / val 1000000000 vs)+val 1000000000 vs:=by rw[QT,Nat.add_mul,Nat.one_mul,Nat.mul_comm (val 1000000000 vs)]
    omega
   have JM:((H2 us os).set 0 (.row 0 ((us.take i).map tV++Al.map tV++VI ((u2:Int)-(c:Int))::(us.drop (i+(n+2+1))).map tV) 1 true)).set 0 (.row 0 ((us.take i).map tV++R8.map tV++VI ((u2:Int)-(c:Int)+(c2:Int))::(us.drop (i+(n+2+1))).map tV) 1 true)=H2 (us.take i++(R8++[0])++us.drop (i+(n+2+1))) os:=by
    rw[hy]
    rw[show (0:Int)=((0:Nat):Int) from rfl,nA]
    rfl
   rw[JM]
   obtain⟨x1,x2⟩:=e3 (us.take i++(R8++[0])++us.drop (i+(n+2+1))) (g'-1)
   obtain⟨y1,y2,y3,y4⟩:=rows R8 0 (g'-1) GJ hd2 (by decide) (by rw[QT,Nat.add_sub_cancel]) (by rw[Nat.mul_zero,Nat.add_zero];exact hZ)
   simp only[OK,QF,PN,On,Zl,abC,x1,x2,wi,VX,Nat.reduceEqDiff,Nat.reduceAdd]
   refine⟨(i,us.take i++(R8++[0])++us.drop (i+(n+2+1)),os.set i (g'-1)),by simp only;omega,by omega,rfl,y1,y2,by rw[List.length_set];exact fU,lO lB (by omega),y3,y4,?_⟩
   try (repeat' apply And.intro)<;>first | rfl | trivial
  ·rw[decide_eq_false mP] at hr
   subst hr
   obtain⟨t',Zt⟩:∃t':Nat,(u2:Int)-(c:Int)=(t':Int):=⟨u2-c,by omega⟩
   have hP1:P*u2=P*c+P*t':=by rw[←Nat.mul_add];congr 1;omega
   have DA:g'*val 1000000000 vs≤val 1000000000 iF:=by omega
   have QT:g'=val 1000000000 iF / val 1000000000 vs:=by
    have:=(Nat.le_div_iff_mul_le Hp).2 DA
    omega
   have JM:(H2 us os).set 0 (.row 0 ((us.take i).map tV++Al.map tV++VI ((u2:Int)-(c:Int))::(us.drop (i+(n+2+1))).map tV) 1 true)=H2 (us.take i++(Al++[t'])++us.drop (i+(n+2+1))) os:=by
    rw[Zt,nA]
    rfl
   rw[JM]
   obtain⟨x1,x2⟩:=e3 (us.take i++(Al++[t'])++us.drop (i+(n+2+1))) g'
   have Y1:val 1000000000 Al+P*t'=val 1000000000 iF % val 1000000000 vs:=by
    rw[←QT,Nat.mul_comm] at hdm
    omega
   obtain⟨y1,y2,y3,y4⟩:=rows Al t' g' CY We (by omega) QT Y1
   simp only[OK,QF,PN,On,Zl,abC,r19,x1,x2,wi,VX,Nat.reduceEqDiff,Nat.reduceAdd]
   refine⟨(i,us.take i++(Al++[t'])++us.drop (i+(n+2+1)),os.set i g'),by simp only;omega,by omega,rfl,y1,y2,by rw[List.length_set];exact fU,lO lB (by omega),y3,y4,?_⟩
   try (repeat' apply And.intro)<;>first | rfl | trivial
 ·have UN:j=0:=by omega
  subst UN
  rw[Nat.pow_zero,Nat.one_mul,List.drop_zero] at hv
  rw[List.drop_zero] at aX
  simp only[iO,GY,zK,AM,IT,Y9,EI,hz,VX,Nat.reduceEqDiff,Nat.reduceAdd]
  exact hQ _ us os GY zK Y9 N3 Hw fU lB hv aX
end Go.PM
namespace Go.PM
def bl (n:Nat):Nat:=(aD 2 n).length
theorem OC (n:Nat):n<2^bl n:=jN (by decide) n
theorem F0 {n k:Nat} (h:n<2^k):bl n≤k:=oF (by decide) h
theorem rZ {m n:Nat} (h:m≤n):bl m≤bl n:=fA (by decide) h
theorem sP (m n:Nat):bl (m*n)≤bl m+bl n:=by
 refine F0 ?_
 rw[Nat.pow_add]
 exact Nat.mul_lt_mul'' (OC m) (OC n)
theorem Fg {n k:Nat} (h:bl n≤k):n<2^k:=Nat.lt_of_lt_of_le (OC n) (Nat.pow_le_pow_right (by decide) h)
theorem RE {m n k:Nat} (hm:bl m≤k) (hn:bl n≤k):bl (m+n)≤k+1:=by
 refine F0 ?_
 have h1:=Fg hm
 have h2:=Fg hn
 rw[Nat.pow_succ]
 omega
theorem TL:bl 0=0:=by simp[bl,bZ]
theorem Rh:bl 1=1:=by simp[bl,kV (b:=2) (by decide) (n:=1) (by decide),bZ]
theorem ahR (n:Nat):32*(aD 4294967296 n).length≤bl n+31:=by
 by_cases h:n=0
 ·subst h;rw[bZ];simp
 ·have h1:=II (b:=4294967296) (by decide) h
  have h2:=OC n
  have e:(4294967296:Nat)=2^32:=by decide
  rw[e] at h1 ⊢
  rw[←Nat.pow_mul] at h1
  have h3:2^(32*((aD (2^32) n).length-1))<2^bl n:=by omega
  have h4:=(Nat.pow_lt_pow_iff_right (by decide)).1 h3
  omega
theorem ahI (n:Nat):29*(aD 1000000000 n).length≤bl n+28:=by
 by_cases h:n=0
 ·subst h;rw[bZ];simp
 ·have h1:=II (b:=1000000000) (by decide) h
  have h2:=OC n
  have h5:(2^29)^((aD 1000000000 n).length-1)≤1000000000^((aD 1000000000 n).length-1):=Nat.pow_le_pow_left (by decide) _
  rw[←Nat.pow_mul] at h5
  have h3:2^(29*((aD 1000000000 n).length-1))<2^bl n:=by omega
  have h4:=(Nat.pow_lt_pow_iff_right (by decide)).1 h3
  omega
def iR (q:Rat):Nat:=max (bl q.num.natAbs) (bl q.den)
theorem Am {q:Rat}:bl q.num.natAbs≤iR q:=Nat.le_max_left _ _
theorem Ak {q:Rat}:bl q.den≤iR q:=Nat.le_max_right _ _
theorem Xl {q:Rat} {k:Nat} (h1:bl q.num.natAbs≤k) (h2:bl q.den≤k):iR q≤k:=Nat.max_le.2 ⟨h1,h2⟩
theorem Jw {n:Int} {d k:Nat} (h1:bl n.natAbs≤k) (h2:bl d≤k) (hk:1≤k):iR (mkRat n d)≤k:=by
 refine Xl ?_ ?_
 ·rw[Rat.num_mkRat]
  split
  ·rw[Int.natAbs_zero,TL];omega
  ·exact Nat.le_trans (rZ (Int.natAbs_ediv_le_natAbs _ _)) h1
 ·rw[Rat.den_mkRat]
  split
  ·rw[Rh];exact hk
  ·exact Nat.le_trans (rZ (Nat.div_le_self _ _)) h2
theorem Ut (a b:Rat):iR (a+b)≤iR a+iR b+1:=by
 rw[Rat.add_def']
 have h1 := @Am a
 have h2 := @Am b
 have h3 := @Ak a
 have h4 := @Ak b
 have h5:=sP a.num.natAbs b.den
 have h6:=sP b.num.natAbs a.den
 have h7:=sP a.den b.den
 refine Jw ?_ (by omega) (by omega)
 have h8:(a.num*b.den+b.num*a.den).natAbs≤a.num.natAbs*b.den+b.num.natAbs*a.den:=by
  refine Nat.le_trans (Int.natAbs_add_le _ _) ?_
  rw[Int.natAbs_mul,Int.natAbs_mul,Int.natAbs_natCast,Int.natAbs_natCast]
  exact Nat.le_refl _
 exact Nat.le_trans (rZ h8) (RE (by omega) (by omega))
theorem Q8:iR 0=1:=by simp[iR,TL,Rh]
theorem Lk:iR 1=1:=by simp[iR,Rh]
def pR (neg:Bool) (t:Nat):Int:=if neg then -(t:Int) else t
theorem zQ (neg:Bool) (t:Nat):(pR neg t).natAbs=t:=by cases neg<;>simp[pR]
theorem SW {neg:Bool} {t:Nat}:pR neg t<0↔neg=true∧t≠0:=by cases neg<;>simp[pR]<;>omega
theorem QD (neg:Bool):pR neg 0=0:=by cases neg<;>rfl
theorem YK (z:Int):pR (decide (z<0)) z.natAbs=z:=by
 by_cases h:z<0<;>simp[pR,h]<;>omega
theorem aaH {neg:Bool} {t g:Nat}:(pR neg t) / (g:Int)=pR neg (t / g)∨¬g ∣ t:=by
 by_cases h:g ∣ t
 ·left
  obtain⟨k,rfl⟩:=h
  by_cases hg:g=0
  ·subst hg;simp[QD]
  ·rw[Nat.mul_div_cancel_left _ (by omega)]
   cases neg
   ·simp only[pR]
    simp only[Bool.false_eq_true,if_false]
    rw[Int.natCast_mul,Int.mul_ediv_cancel_left _ (by omega)]
   ·simp only[pR,if_true]
    rw[Int.natCast_mul,←Int.mul_neg,Int.mul_ediv_cancel_left _ (by omega)]
 ·exact .inr h
theorem Kh {neg:Bool} {t b:Nat} (hb:b≠0):(mkRat (pR neg t) b).num=pR neg (t / Nat.gcd t b):=by
 rw[Rat.num_mkRat,if_neg hb,zQ,Nat.gcd_comm]
 rcases aaH (neg:=neg) (t:=t) (g:=Nat.gcd t b) with h | h
 ·exact h
 ·exact absurd (Nat.gcd_dvd_left _ _) h
theorem Rv {neg:Bool} {t b:Nat} (hb:b≠0):(mkRat (pR neg t) b).den=b / Nat.gcd t b:=by
 rw[Rat.den_mkRat,if_neg hb,zQ,Nat.gcd_comm]
theorem IW (q:Rat):mkRat (pR (decide (q.num<0)) q.num.natAbs) q.den=q:=by rw[YK,Rat.mkRat_self]
end Go.PM
namespace Go.PM
theorem ZZ (neg:Bool) (t d:Nat):pR neg (t*d)=pR neg t*(d:Int):=by cases neg<;>simp[pR,Int.neg_mul]
theorem C2 (q:Rat) {d:Nat} (hd:d≠0):mkRat (pR (decide (q.num<0)) (q.num.natAbs*d)) (q.den*d)=q:=by
 rw[ZZ,Rat.mkRat_mul_right hd,IW]
theorem Ck (X Y:Int) {B:Nat} (hB:B≠0):mkRat X B+mkRat Y B=mkRat (X+Y) B:=by
 rw[Rat.mkRat_add_mkRat _ _ hB hB,←Int.add_mul,Rat.mkRat_mul_right hB]
theorem NC (n:Bool) (x y:Nat):pR n x+pR n y=pR n (x+y):=by cases n<;>simp[pR]<;>omega
theorem Rk {m n:Bool} (h:m≠n) {x y:Nat} (hx:y≤x):pR m x+pR n y=pR m (x-y):=by
 cases m<;>cases n<;>simp_all [pR]<;>omega
theorem QY {m n:Bool} (h:m≠n) {x y:Nat} (hx:x≤y):pR m x+pR n y=pR n (y-x):=by
 cases m<;>cases n<;>simp_all [pR]<;>omega
def jO (q:Rat):Int:=if q.num=0 then 0 else if q.num<0 then -1 else 1
def KQ (a b:Rat):Int:=if jO a=jO b then (if a.num<0 then -fD (a.num.natAbs*b.den) (b.num.natAbs*a.den) else fD (a.num.natAbs*b.den) (b.num.natAbs*a.den)) else jO a-jO b
theorem vV {m n:Nat}:fD m n<0↔m<n:=by
 unfold fD
 split
 ·omega
 ·split<;>omega
theorem ZL {m n:Nat}:0<fD m n↔n<m:=by
 unfold fD
 split
 ·omega
 ·split<;>omega
theorem Dc {m n:Nat}:fD m n=0↔m=n:=by
 unfold fD
 split
 ·omega
 ·split<;>omega
theorem mR {q:Rat} (h:q.num<0):jO q = -1:=by unfold jO;rw[if_neg (by omega),if_pos h]
theorem kP {q:Rat} (h:q.num=0):jO q=0:=by unfold jO;rw[if_pos h]
theorem mJ {q:Rat} (h:0<q.num):jO q=1:=by unfold jO;rw[if_neg (by omega),if_neg (by omega)]
theorem SP {a b:Rat}:KQ a b<0↔a<b:=by
 rw[Rat.lt_iff]
 have hA:(0:Int)<a.den:=by have:=a.den_nz;omega
 have hB:(0:Int)<b.den:=by have:=b.den_nz;omega
 have eA:((a.num.natAbs*b.den:Nat):Int)=(a.num.natAbs:Int)*b.den:=by simp
 have eB:((b.num.natAbs*a.den:Nat):Int)=(b.num.natAbs:Int)*a.den:=by simp
 unfold KQ
 rcases Int.lt_trichotomy a.num 0 with h1 | h1 | h1<;>rcases Int.lt_trichotomy b.num 0 with h2 | h2 | h2
 ·rw[mR h1,mR h2,if_pos rfl,if_pos h1]
  have f1:(a.num.natAbs:Int) = -a.num:=by omega
  have f2:(b.num.natAbs:Int) = -b.num:=by omega
  rw[f1,Int.neg_mul] at eA
  rw[f2,Int.neg_mul] at eB
  have := @ZL (a.num.natAbs*b.den) (b.num.natAbs*a.den)
  omega
 ·rw[mR h1,kP h2,if_neg (by decide),h2,Int.zero_mul]
  have:=Int.mul_neg_of_neg_of_pos h1 hB
  omega
 ·rw[mR h1,mJ h2,if_neg (by decide)]
  have:=Int.mul_neg_of_neg_of_pos h1 hB
  have:=Int.mul_pos h2 hA
  omega
 ·rw[kP h1,mR h2,if_neg (by decide),h1,Int.zero_mul]
  have:=Int.mul_neg_of_neg_of_pos h2 hA
  omega
 ·rw[kP h1,kP h2,if_pos rfl,h1,h2];simp[fD]
 ·rw[kP h1,mJ h2,if_neg (by decide),h1,Int.zero_mul]
  have:=Int.mul_pos h2 hA
  omega
 ·rw[mJ h1,mR h2,if_neg (by decide)]
  have:=Int.mul_neg_of_neg_of_pos h2 hA
  have:=Int.mul_pos h1 hB
  omega
 ·rw[mJ h1,kP h2,if_neg (by decide),h2,Int.zero_mul]
  have:=Int.mul_pos h1 hB
  omega
 ·rw[mJ h1,mJ h2,if_pos rfl,if_neg (by omega)]
  have f1:(a.num.natAbs:Int)=a.num:=by omega
  have f2:(b.num.natAbs:Int)=b.num:=by omega
  rw[f1] at eA
  rw[f2] at eB
  have := @vV (a.num.natAbs*b.den) (b.num.natAbs*a.den)
  omega
theorem Yy (m n:Nat):fD n m = -fD m n:=by
 rcases Nat.lt_trichotomy m n with h | h | h
 ·rw[fD,fD,if_neg (by omega),if_neg (by omega),if_pos h];rfl
 ·subst h;rw[fD,if_neg (by omega),if_pos rfl];rfl
 ·rw[fD,fD,if_pos h,if_neg (by omega),if_neg (by omega)]
theorem N8 (a b:Rat):KQ b a = -KQ a b:=by
 unfold KQ
 by_cases h:jO a=jO b
 ·have h2:b.num<0↔a.num<0:=by
   rcases Int.lt_trichotomy a.num 0 with h1 | h1 | h1<;>rcases Int.lt_trichotomy b.num 0 with h2 | h2 | h2
   ·simp[h1,h2]
   ·rw[mR h1,kP h2] at h;omega
   ·rw[mR h1,mJ h2] at h;omega
   ·rw[kP h1,mR h2] at h;omega
   ·omega
   ·rw[kP h1,mJ h2] at h;omega
   ·rw[mJ h1,mR h2] at h;omega
   ·rw[mJ h1,kP h2] at h;omega
   ·omega
  rw[if_pos h,if_pos h.symm,Yy]
  by_cases h3:a.num<0
  ·rw[if_pos h3,if_pos (h2.2 h3)]
  ·rw[if_neg h3,if_neg (mt h2.1 h3)]
 ·rw[if_neg h,if_neg (fun h'=>h h'.symm)];omega
theorem Z4 {a b:Rat}:0<KQ a b↔b<a:=by
 rw[←SP,N8 a b];omega
theorem Lf {a b:Rat}:KQ a b=0↔a=b:=by
 constructor
 ·intro h
  refine Rat.le_antisymm ?_ ?_
  ·rw[←Rat.not_lt,←Z4];omega
  ·rw[←Rat.not_lt,←SP];omega
 ·rintro rfl
  have:=N8 a a
  omega
theorem aeK {q:Rat}:q.num<0↔q<0:=by
 have := @Rat.num_nonneg q
 rw[←Rat.not_le,←this]
 omega
theorem Zq {q:Rat}:0<q.num↔0<q:=by
 have h1 := @aeK (-q)
 rw[Rat.neg_num] at h1
 have h2 : -q<0↔0<q:=by
  rw[Rat.neg_lt_iff];simp
 rw[←h2,←h1]
 omega
theorem Ku {q:Rat}:jO q=0↔q=0:=by
 rw[←Rat.num_eq_zero]
 rcases Int.lt_trichotomy q.num 0 with h | h | h
 ·rw[mR h];omega
 ·rw[kP h];omega
 ·rw[mJ h];omega
theorem Dj {q:Rat}:0<jO q↔0<q:=by
 rw[←Zq]
 rcases Int.lt_trichotomy q.num 0 with h | h | h
 ·rw[mR h];omega
 ·rw[kP h];omega
 ·rw[mJ h];omega
end Go.PM