/- Texts of a claim, in one: part 8. -/
import Derived.Test.YtodamlihdkalfaaGreatDoorKTg
set_option linter.unusedSimpArgs false
set_option linter.unusedVariables false
namespace Go.PM
theorem TX (n:Nat) (hn:n≤35184372088832):yY [.int .i64 0] 8 (VI (n:Int)) (VI (n:Int)) []=some (.ref 0 0 0 n n,[.row 0 ((List.replicate n 0).map tV) 1 true]):=pG (f:=tV) (x:=0) rfl (by omega) (by omega)
theorem abS {outs:List Nat} {i d:Nat} (hi:i<outs.length):bX 0 1 (.ptr 0 0 i 0) (VI (d:Int)) [.row 0 (outs.map tV) 1 true]=some [.row 0 ((outs.set i d).map tV) 1 true]:=by
 rw[show VI (d:Int)=tV d from rfl,dF (f:=tV) (e:=1) TH hi (Nat.le_refl _) rfl rfl]
 rfl
theorem Rz {b g:Nat} {rows:List Nat} {w:Bool} {H:aA} {j d:Nat} (hr:aF H b g=some (rows.map tV,1,w)) (hj:rows[j]? = some d):cQ false 1 (.ptr b g j 0) H=some (VI (d:Int)):=pI hr hj
theorem adT {n i:Nat} {outs:List Nat} (h:i<n):bJ 1 (.ref 0 0 0 n n) (VI (i:Int)) [.row 0 (outs.map tV) 1 true]=some (.ptr 0 0 i 0):=by rw[aP TH h,Nat.zero_add]
theorem wr {x:Int} (n:Nat) (h:x=n) (hn:n≤9223372036854775807):IntKind.i64.wrap x=(n:Int):=wrapN n h hn
theorem A3 (a:Nat) (ha:(aC 1000000000 a).length≤17592186044416):TC 236 [cK a] (if (aC 1000000000 a).length≤2 then .dS [VI a,VB true] else .dS [VI 0,VB false]):=by
 refine TC.walk ⟨true,false⟩ HE rfl (Nat.le_of_ble_eq_true rfl) (by simp[aM,cT]) (by split<;>rfl) ?_
 by_cases h2:(aC 1000000000 a).length≤2
 ·rw[if_pos h2]
  have h3:¬(2:Int)<((aC 1000000000 a).length:Int):=by omega
  have c0:TC 225 [cK a,VI 0] (VI ((a % 1000000000:Nat):Int)):=by have:=Pt a 0;rwa [Nat.pow_zero,Nat.div_one] at this
  have c1:TC 225 [cK a,VI 1] (VI ((a / 1000000000 % 1000000000:Nat):Int)):=by have:=Pt a 1;rwa [Nat.pow_one] at this
  have aU:=iK (b:=1000000000) (by decide) a
  have hp:1000000000^(aC 1000000000 a).length≤1000000000^2:=Nat.pow_le_pow_right (by decide) h2
  have hm:a / 1000000000<1000000000:=Nat.div_lt_of_lt_mul (by omega)
  rw[Nat.mod_eq_of_lt hm] at c1
  have hmd:=Nat.mod_add_div a 1000000000
  have w1:IntKind.i64.wrap (1000000000*((a / 1000000000:Nat):Int))=((1000000000*(a / 1000000000):Nat):Int):=wrapN _ (by omega) (by omega)
  have w2:IntKind.i64.wrap (((a % 1000000000:Nat):Int)+((1000000000*(a / 1000000000):Nat):Int))=(a:Int):=wrapN _ (by omega) (by omega)
  simp only[xV,sO,eT,h3,c0,c1,w1,w2,VX,Nat.reduceEqDiff,Nat.reduceAdd]
  exact aI rfl
 ·rw[if_neg h2]
  have h3:(2:Int)<((aC 1000000000 a).length:Int):=by omega
  simp only[xV,sO,eT,h3,VX,Nat.reduceEqDiff,Nat.reduceAdd]
  exact aI rfl
theorem Zb {outs:List Nat} {n cap x:Nat} (hn:n=outs.length) (hc:n<cap):eK 0 1 8 (.ref 0 0 0 n cap) [VI (x:Int)] [.row 0 ((outs++List.replicate (cap-n) 0).map tV) 1 true]=some (.ref 0 0 0 (n+1) cap,[.row 0 (((outs++[x])++List.replicate (cap-(n+1)) 0).map tV) 1 true]):=by
 subst hn
 simp only[eK,aV,List.length_map,List.length_append,List.length_replicate,List.length_cons,List.length_nil,Nat.zero_add]
 rw[if_pos ⟨by decide,by decide⟩,if_pos ⟨trivial,Nat.le_refl _,by omega⟩,if_pos (by omega),if_neg (by omega),if_pos (by omega)]
 congr 3
 have e:List.replicate (cap-outs.length) 0=(0:Nat)::List.replicate (cap-(outs.length+1)) 0:=by
  rw[show cap-outs.length=(cap-(outs.length+1))+1 by omega,List.replicate_succ]
 simp only[cP,List.set_cons_zero,e,List.map_append,List.map_cons,List.length_cons,List.length_nil,List.map_nil]
 congr 1
 rw[List.take_left' (by simp),←List.drop_drop,List.drop_left' (by simp)]
 simp
theorem vW (a d:Nat) (BQ:0<d) (hd:d<1000000000) (ha:(aC 1000000000 a).length<17592186044416):TC 238 [cK a,VI (d:Int)] (cK (a*d)):=by
 refine TC.walk ⟨true,false⟩ DZ rfl (Nat.le_of_ble_eq_true rfl) (by simp[aM,cT];rfl) (qM _) ?_
 have w0:IntKind.i64.wrap (((aC 1000000000 a).length:Int)+1)=(((aC 1000000000 a).length+1:Nat):Int):=wrapN _ (by omega) (by omega)
 have mk:yY [.int .i64 0] 8 (VI 0) (VI (((aC 1000000000 a).length+1:Nat):Int)) []=some (.ref 0 0 0 0 ((aC 1000000000 a).length+1),[.row 0 ((([]:List Nat)++List.replicate ((aC 1000000000 a).length+1-0) 0).map tV) 1 true]):=by
  simp only[yY]
  rw[if_pos ⟨by omega,by omega,by omega,by omega⟩]
  simp
  rfl
 simp only[zS,wI,eT,w0,mk,VX,Nat.reduceEqDiff,Nat.reduceAdd]
 refine aR (fun(s:Nat×List Nat×Nat) ρ H=>s.1=s.2.1.length∧s.1≤(aC 1000000000 a).length∧H=[.row 0 ((s.2.1++List.replicate ((aC 1000000000 a).length+1-s.1) 0).map tV) 1 true]∧s.2.2<d∧aC 1000000000 (a*d)=s.2.1++aC 1000000000 (a / 1000000000^s.1*d+s.2.2) ∧
  ρ 1=VI d∧ρ 5 = .ref 0 0 0 s.1 ((aC 1000000000 a).length+1)∧ρ 6=VI s.2.2∧ρ 14=cK a∧ρ 15=VI (aC 1000000000 a).length∧ρ 16=VI s.1) (fun s=>(aC 1000000000 a).length-s.1) (0,[],0) ⟨rfl,Nat.zero_le _,rfl,BQ,by simp,rfl,rfl,rfl,rfl,rfl,rfl⟩ ?_
 rintro⟨i,outs,c⟩ ρ H ⟨hi,Kh,rfl,hc,hv,g1,g5,g6,g14,g15,g16⟩
 simp only at hi Kh hc hv g5 g6 g16
 by_cases dD:(i:Int)<((aC 1000000000 a).length:Int)
 ·have hx:=PT (b:=1000000000) (by decide) (n:=a) (i:=i) (by omega)
  have hA:=(Ig (b:=1000000000) (by decide) (n:=a) (i:=i)).1 (by omega)
  have e1:∀H,bJ 1 (cK a) (VI i) H=some (.dA (tV (a / 1000000000^i % 1000000000)) 0):=fun H=>aJ (f:=tV) (t := .op) (size:=1) (k := .i64) hx rfl
  have lx:=Nat.mod_lt (a / 1000000000^i) (show 0<1000000000 by decide)
  have eV:a / 1000000000^i*d+c≠0:=by
   have:=Nat.mul_ne_zero hA (show d≠0 by omega)
   omega
  rw[UQ (by decide) eV,←Al] at hv
  generalize a / 1000000000^i % 1000000000=x at *
  have hxd:x*d≤999999999*999999999:=Nat.mul_le_mul (by omega) (by omega)
  have w1:IntKind.i64.wrap ((x:Int)*(d:Int))=((x*d:Nat):Int):=wrapN _ (by simp) (by omega)
  have w2:IntKind.i64.wrap (((x*d:Nat):Int)+(c:Int))=((x*d+c:Nat):Int):=wrapN _ (by omega) (by omega)
  have wi:IntKind.i64.wrap ((i:Int)+1)=((i+1:Nat):Int):=wrapN (i+1) (by omega) (by omega)
  have r1:=TS (x*d+c)
  have q1:=S0 (x*d+c) (by omega)
  have a1:=Zb (outs:=outs) (n:=i) (cap:=(aC 1000000000 a).length+1) (x:=(x*d+c) % 1000000000) hi (by omega)
  have hq:(x*d+c) / 1000000000<d:=by
   rw[Nat.div_lt_iff_lt_mul (by decide)]
   have h1:x*d≤999999999*d:=Nat.mul_le_mul_right _ (by omega)
   omega
  simp only[kA,g1,g5,g6,g14,g15,g16,dD,e1,w1,w2,wi,r1,q1,Fb,Jq,a1,VX,Nat.reduceEqDiff,Nat.reduceAdd]
  refine⟨(i+1,outs++[(x*d+c) % 1000000000],(x*d+c) / 1000000000),by simp only;omega,by simp;omega,by simp only;omega,rfl,hq,by rw[hv,List.append_assoc];rfl,?_⟩
  try (repeat' apply And.intro)<;>first | rfl | trivial
 ·have oJ:i=(aC 1000000000 a).length:=by omega
  have hz:a / 1000000000^i=0:=by
   have:=mt (Ig (b:=1000000000) (by decide) (n:=a) (i:=i)).2
   omega
  rw[hz,Nat.zero_mul,Nat.zero_add] at hv
  by_cases hcp:(0:Int)<(c:Int)
  ·rw[BF (b:=1000000000) (by decide) (show c≠0 by omega) (show c<1000000000 by omega)] at hv
   have a1:=Zb (outs:=outs) (n:=i) (cap:=(aC 1000000000 a).length+1) (x:=c) hi (by omega)
   simp only[kA,g1,g5,g6,g14,g15,g16,dD,hcp,Fb,Jq,a1,VX,Nat.reduceEqDiff,Nat.reduceAdd]
   rw[cK,hv]
   rw[Ni aV (by simp;omega) (by omega) (eH fun _=>rfl)]
   rw[List.map_append,List.take_left' (by simp;omega)]
  ·have hc0:c=0:=by omega
   rw[hc0,bS,List.append_nil] at hv
   simp only[kA,g1,g5,g6,g14,g15,g16,dD,hcp,VX,Nat.reduceEqDiff,Nat.reduceAdd]
   rw[cK,hv]
   rw[Ni aV (by simp;omega) (by omega) (eH fun _=>rfl)]
   rw[List.map_append,List.take_left' (by simp;omega)]
theorem Ik (a b:Nat) (ha:a≤9223372036854775807) (hb:0<b):cV .quo (.int .i64 (a:Int)) (.int .i64 (b:Int))=some (.int .i64 ((a / b:Nat):Int)):=by
 have h1:¬((b:Int)=0):=by omega
 have h2:(a:Int).tdiv (b:Int)=((a / b:Nat):Int):=by rw[Int.tdiv_eq_ediv_of_nonneg (by omega)];simp
 have h3:a / b≤a:=Nat.div_le_self _ _
 simp only[cV,if_true,h1,if_false,h2]
 generalize a / b=q at *
 rw[wrap64 (by omega) (by omega)]
theorem It (a b:Nat) (hb:0<b):cV .rem (.int .i64 (a:Int)) (.int .i64 (b:Int))=some (.int .i64 ((a % b:Nat):Int)):=by
 have h1:¬((b:Int)=0):=by omega
 have h2:(a:Int).tmod (b:Int)=((a % b:Nat):Int):=by rw[Int.tmod_eq_emod_of_nonneg (by omega)];simp
 simp only[cV,if_true,h1,if_false,h2]
theorem Y8 {r d x:Nat} (hr:r<d) (hd:d<1000000000) (hx:x<1000000000):r*1000000000+x≤9223372036854775807:=by omega
theorem afH {r d x:Nat} (BQ:0<d) (hr:r<d) (hx:x<1000000000):(r*1000000000+x) / d<1000000000:=by
 rw[Nat.div_lt_iff_lt_mul BQ]
 omega
theorem wP (a d:Nat) (BQ:0<d) (hdT:d<1000000000) (ha:(aC 1000000000 a).length≤17592186044416):TC 237 [cK a,VI (d:Int)] (.dS [cK (a / d),VI ((a % d:Nat):Int)]):=by
 refine TC.walk ⟨true,false⟩ D0 rfl (Nat.le_of_ble_eq_true rfl) (by simp[aM,cT];rfl) (by simp[gA,oS,qM,jW]) ?_
 have va:=cO (b:=1000000000) (by decide) a
 have la:=gL (b:=1000000000) (by decide) a
 unfold cK
 generalize aC 1000000000 a=xs at *
 have w0:IntKind.i64.wrap ((xs.length:Int)-1)=(xs.length:Int)-1:=wrap64 (by omega) (by omega)
 simp only[zM,wJ,fI,w0,TX xs.length (by omega),VX,Nat.reduceEqDiff,Nat.reduceAdd]
 refine aR (fun(s:Nat×List Nat×Nat) ρ H=>s.1≤xs.length∧H=[.row 0 (s.2.1.map tV) 1 true]∧s.2.1.length=xs.length∧(∀d∈s.2.1,d<1000000000)∧s.2.2<d∧val 1000000000 (s.2.1.drop s.1)*d+s.2.2=val 1000000000 (xs.drop s.1) ∧
  ρ 0=jD xs∧ρ 1=VI d∧ρ 6 = .ref 0 0 0 xs.length xs.length∧ρ 7=VI s.2.2∧ρ 8=VI ((s.1:Int)-1)) (fun s=>s.1) (xs.length,List.replicate xs.length 0,0) ⟨Nat.le_refl _,rfl,by simp,Bh (by decide) _,BQ,by simp[val,List.drop_replicate],rfl,rfl,rfl,rfl,rfl⟩ ?_
 rintro⟨j,outs,r⟩ ρ H ⟨hj,rfl,jE,mQ,hr,hv,g0,g1,g6,g7,g8⟩
 simp only at hj jE mQ hr hv g7 g8
 by_cases hz:(0:Int)≤(j:Int)-1
 ·obtain⟨i,rfl⟩:∃i,j=i+1:=⟨j-1,by omega⟩
  obtain⟨x,hx⟩:∃x,xs[i]? = some x:=⟨_,List.getElem?_eq_getElem (by omega)⟩
  have lx:=la x (List.mem_of_getElem? hx)
  have NI:((i+1:Nat):Int)-1=(i:Int):=by omega
  rw[NI] at g8 hz
  have e1:=aJ (f:=tV) (t := .op) (H:=[.row 0 (outs.map tV) 1 true]) (size:=1) (k := .i64) hx rfl
  have e3:bJ 1 (.ref 0 0 0 xs.length xs.length) (VI i) [.row 0 (outs.map tV) 1 true]=some (.ptr 0 0 i 0):=adT (by omega)
  have e4:∀s:Nat,bX 0 1 (.ptr 0 0 i 0) (VI (s:Int)) [.row 0 (outs.map tV) 1 true]=some [.row 0 ((outs.set i s).map tV) 1 true]:=fun s=>abS (by omega)
  have w2:IntKind.i64.wrap ((i:Int)-1)=(i:Int)-1:=wrap64 (by omega) (by omega)
  have w4:IntKind.i64.wrap ((r:Int)*1000000000)=((r*1000000000:Nat):Int):=wrapN _ (by omega) (by omega)
  have w5:IntKind.i64.wrap (((r*1000000000:Nat):Int)+(x:Int))=((r*1000000000+x:Nat):Int):=wrapN _ (by omega) (by omega)
  have Bv:r*1000000000+x≤9223372036854775807:=Y8 hr hdT lx
  have q1:=Ik (r*1000000000+x) d Bv BQ
  have q2:=It (r*1000000000+x) d BQ
  have hq:(r*1000000000+x) / d<1000000000:=afH BQ hr lx
  simp only[nT,g0,g1,g6,g7,g8,hz,e1,e3,e4,w2,w4,w5,q1,q2,VX,Nat.reduceEqDiff,Nat.reduceAdd]
  refine⟨(i,outs.set i ((r*1000000000+x) / d),(r*1000000000+x) % d),by simp only;omega,by omega,rfl,by rw[List.length_set];exact jE,mJ mQ hq,Nat.mod_lt _ BQ,?_,by (repeat' apply And.intro)<;>first | rfl | trivial⟩
  have h1:=Nat.mod_add_div (r*1000000000+x) d
  rw[set_drop (by omega),pV,qE hx,←hv]
  exact PB h1
 ·have R9:j=0:=by omega
  subst R9
  rw[List.drop_zero,List.drop_zero,va] at hv
  have h1:a / d=val 1000000000 outs:=by
   rw[←hv,Nat.mul_comm,Nat.mul_add_div BQ,Nat.div_eq_of_lt hr,Nat.add_zero]
  have h2:a % d=r:=by
   rw[←hv,Nat.mul_comm,Nat.mul_add_mod,Nat.mod_eq_of_lt hr]
  simp only[nT,g0,g1,g6,g7,g8,hz,VX,Nat.reduceEqDiff,Nat.reduceAdd]
  refine T7 (m:=a / d) mQ jE.symm (by omega) h1.symm ?_
  simp only[g7,VX,Nat.reduceEqDiff,Nat.reduceAdd]
  rw[h2]
  exact aI (by simp[aN,aM,vE,cK,jW])
end Go.PM
namespace Go.PM
theorem Nj {H:aA} {b b' g:Nat} {x:bM} (h:b≠b'):aF (H.set b x) b' g=aF H b' g:=by
 unfold aF
 rw[List.getElem?_set_ne h]
theorem lI {H:aA} {b g e:Nat} {es lA:List VV} {w w':Bool} (h:aF H b g=some (es,e,w)):aF (H.set b (.row g lA e w')) b g=some (lA,e,w'):=by
 have aU:b<H.length:=by
  unfold aF at h
  split at h
  ·rename_i hb
   exact(List.getElem?_eq_some_iff.1 hb).1
  ·cases h
 unfold aF
 rw[List.getElem?_set_self aU]
 simp
theorem kQ {H:aA} {b:Nat} {x y:bM}:(H.set b x).set b y=H.set b y:=by rw[List.set_set]
theorem tX {H:aA} {b g e:Nat} {es:List VV} {w:Bool} (h:aF H b g=some (es,e,w)):H.set b (.row g es e w)=H:=by
 apply List.ext_getElem?
 intro i
 by_cases hi:b=i
 ·subst hi
  unfold aF at h
  split at h
  ·rename_i hb
   split at h
   ·rename_i hg
    cases h
    rw[List.getElem?_set_self (List.getElem?_eq_some_iff.1 hb).1,hb,hg]
   ·cases h
  ·cases h
 ·rw[List.getElem?_set_ne hi]
theorem XN {H:aA} {b g o i lo d:Nat} {pre gJ post:List Nat} (hr:aF H b g=some ((pre++gJ++post).map uV,1,true)) (ho:pre.length=o) (hi:i<gJ.length) (eI:lo≤b) :
  bX lo 1 (.ptr b g (o+i) 0) (uV d) H=some (H.set b (.row g ((pre++gJ.set i d++post).map uV) 1 true)):=by
 rw[dF (f:=uV) (e:=1) hr (by simp only[List.length_append];omega) eI rfl rfl,S9 ho hi]
theorem RM {H:aA} {lo b g o L c b2 g2 n2 c2 t:Nat} {pre gJ post vs Lm:List Nat} {w2:Bool} (hr:aF H b g=some ((pre++gJ++post).map uV,1,true)) (hr2:aF H b2 g2=some (Lm.map uV,1,w2)) (hb:b≠b2) (eI:lo≤b)
  (ho:pre.length=o) (hL:gJ.length=L) (axC:L≤70368744177664) (NL:Lm.take n2=vs) (hn2:n2≤Lm.length) (hle:n2≤L) (U7:∀d∈gJ,d<4294967296) (Ev:∀d∈vs,d<4294967296) (ht:t<4294967296) (oW:t*val 4294967296 vs≤val 4294967296 gJ+val 4294967296 vs) :
  iY 221 [.ref b g o L c,.ref b2 g2 0 n2 c2,VK .u64 t] lo H fun r H'=>∃oV:List Nat,H'=H.set b (.row g ((pre++oV++post).map uV) 1 true)∧oV.length=L∧(∀d∈oV,d<4294967296) ∧
   ((r=VB false∧val 4294967296 oV+t*val 4294967296 vs=val 4294967296 gJ)∨(r=VB true∧val 4294967296 gJ<t*val 4294967296 vs∧val 4294967296 oV+t*val 4294967296 vs=val 4294967296 gJ+val 4294967296 vs)):=by
 refine iY.walk ⟨true,false⟩ HM (Nat.le_of_ble_eq_true rfl) ?_
 have Dg:vs.length=n2:=by rw[←NL,List.length_take];omega
 have sK:∀i,i<n2→Lm[i]? = vs[i]? := fun i hi=>by rw[←NL,List.getElem?_take_of_lt hi]
 have Rm:=oQ U7
 have Q0:=oQ Ev
 rw[hL] at Rm
 rw[Dg] at Q0
 have hVL:val 4294967296 vs≤4294967296^L:=Nat.le_trans (Nat.le_of_lt Q0) (Nat.pow_le_pow_right (by decide) hle)
 have e0:∀ {K:aA} {es:List VV},aF K b g=some (es,1,true)→nR (.ref b g o L c) K=some (VI L):=fun h=>dR h
 have e00:∀ {K:aA},aF K b2 g2=some (Lm.map uV,1,w2)→nR (.ref b2 g2 0 n2 c2) K=some (VI n2):=fun h=>dR h
 have rd:∀(s:List Nat),s.length=L→aF (H.set b (.row g ((pre++s++post).map uV) 1 true)) b g=some ((pre++s++post).map uV,1,true):=fun s _=>lI hr
 have rd2:∀(s:List Nat),aF (H.set b (.row g ((pre++s++post).map uV) 1 true)) b2 g2=some (Lm.map uV,1,w2):=fun s=>by rw[Nj hb];exact hr2
 have wi:∀i:Nat,i<L→IntKind.i64.wrap ((i:Int)+1)=((i+1:Nat):Int):=fun i hi=>wrapN (i+1) (by omega) (by omega)
 have back:∀(ρ:dI) (s:List Nat),s.length=L→(∀d∈s,d<4294967296)→(∀s2:List Nat,s2.length=L→(∀d∈s2,d<4294967296)→∀c,val 4294967296 s+val 4294967296 vs=val 4294967296 s2+4294967296^L*c→val 4294967296 s2+t*val 4294967296 vs=val 4294967296 gJ+val 4294967296 vs)→val 4294967296 gJ<t*val 4294967296 vs→ρ 0 = .ref b g o L c→ρ 1 = .ref b2 g2 0 n2 c2→ρ 7=VK .u64 0→ρ 58=VI L→ρ 59=VI 0 →
   VW ⟨true,false⟩ lo (.loop kJ) (xY 2 (lC (VW ⟨true,false⟩ lo (.seq (.eG [⟨(some 6),(.mv (.const (.bool true))),none,false,[]⟩]) .ret) (zW [.tmp 6] fun r H'=>∃oV:List Nat,H'=H.set b (.row g ((pre++oV++post).map uV) 1 true)∧oV.length=L∧(∀d∈oV,d<4294967296)∧((r=VB false∧val 4294967296 oV+t*val 4294967296 vs=val 4294967296 gJ)∨(r=VB true∧val 4294967296 gJ<t*val 4294967296 vs∧val 4294967296 oV+t*val 4294967296 vs=val 4294967296 gJ+val 4294967296 vs)))) (zW [.tmp 6] fun r H'=>∃oV:List Nat,H'=H.set b (.row g ((pre++oV++post).map uV) 1 true)∧oV.length=L∧(∀d∈oV,d<4294967296)∧((r=VB false∧val 4294967296 oV+t*val 4294967296 vs=val 4294967296 gJ)∨(r=VB true∧val 4294967296 gJ<t*val 4294967296 vs∧val 4294967296 oV+t*val 4294967296 vs=val 4294967296 gJ+val 4294967296 vs))))) ρ (H.set b (.row g ((pre++s++post).map uV) 1 true)):=by
  intro ρ s hs TR Pl aaM g0 g1 g7 g58 g59
  refine aR (fun(u:Nat×List Nat×Nat) ρ K=>u.1≤L∧K=H.set b (.row g ((pre++u.2.1++post).map uV) 1 true)∧u.2.1.length=L∧(∀d∈u.2.1,d<4294967296)∧u.2.2≤1∧val 4294967296 (s.take u.1)+val 4294967296 (vs.take u.1)=val 4294967296 (u.2.1.take u.1)+4294967296^u.1*u.2.2∧(∀j,u.1≤j→u.2.1[j]? = s[j]?) ∧
   ρ 0 = .ref b g o L c∧ρ 1 = .ref b2 g2 0 n2 c2∧ρ 7=VK .u64 u.2.2∧ρ 58=VI L∧ρ 59=VI u.1) (fun u=>L-u.1) (0,s,0) ⟨Nat.zero_le _,rfl,hs,TR,by simp,by simp[val],fun _ _=>rfl,g0,g1,g7,g58,g59⟩ ?_
  rintro⟨i,outs,cy⟩ Nd K ⟨hi,rfl,jE,mQ,hc,hv,Fu,k0,k1,k7,k58,k59⟩
  simp only at hi jE mQ hc hv Fu k7 k59
  by_cases dD:(i:Int)<(L:Int)
  ·obtain⟨x,hx⟩:∃x,outs[i]? = some x:=⟨_,List.getElem?_eq_getElem (by omega)⟩
   have lx:=mQ x (List.mem_of_getElem? hx)
   have Oa:s[i]? = some x:=by rw[←Fu i (Nat.le_refl _)];exact hx
   have e1:bJ 1 (.ref b g o L c) (VI i) (H.set b (.row g ((pre++outs++post).map uV) 1 true))=some (.ptr b g (o+i) 0):=aP (rd outs jE) (by omega)
   have e2:cQ false 1 (.ptr b g (o+i) 0) (H.set b (.row g ((pre++outs++post).map uV) 1 true))=some (uV x):=gT (rd outs jE) (by rw[MZ ho (by omega)];exact hx)
   have e3:∀d:Nat,bX lo 1 (.ptr b g (o+i) 0) (uV d) (H.set b (.row g ((pre++outs++post).map uV) 1 true))=some (H.set b (.row g ((pre++outs.set i d++post).map uV) 1 true)):=fun d=>by
    rw[XN (rd outs jE) ho (by omega) eI,kQ]
   have e4:=e00 (rd2 outs)
   have w1:IntKind.u64.wrap (x:Int)=(x:Int):=dQ _ (by omega)
   have w2:IntKind.u64.wrap ((cy:Int)+(x:Int))=((cy+x:Nat):Int):=by rw[←Int.natCast_add];exact dQ _ (by omega)
   have wii:=wi i (by omega)
   have step:∀y,y<4294967296→(∀d,vs[i]? = some d→d=y)→(vs.length≤i→y=0) →
     (i+1≤L∧(outs.set i ((cy+x+y) % 4294967296)).length=L∧(∀d∈outs.set i ((cy+x+y) % 4294967296),d<4294967296)∧(cy+x+y) / 4294967296≤1∧val 4294967296 (s.take (i+1))+val 4294967296 (vs.take (i+1))=val 4294967296 ((outs.set i ((cy+x+y) % 4294967296)).take (i+1))+4294967296^(i+1)*((cy+x+y) / 4294967296))∧∀j,i+1≤j→(outs.set i ((cy+x+y) % 4294967296))[j]? = s[j]? := by
    intro y hy h1 h2
    refine⟨⟨by omega,by rw[List.length_set];exact jE,mJ mQ (Nat.mod_lt _ (by decide)),by omega,?_⟩,fun j hj=>by rw[List.getElem?_set_ne (by omega)];exact Fu j (by omega)⟩
    have hy':val 4294967296 (vs.take (i+1))=val 4294967296 (vs.take i)+4294967296^i*y:=by
     cases YN:vs[i]? with
     | some d=>rw[bI YN,h1 d YN]
     |
      none =>
      have hle:=List.getElem?_eq_none_iff.1 YN
      rw[h2 hle,pH hle,pH (by omega),Nat.mul_zero,Nat.add_zero]
    rw[bI Oa,hy',gK (by omega),Nat.pow_succ]
    exact DQ hv rfl (Nat.mod_add_div _ _)
   by_cases aU:(i:Int)<(n2:Int)
   ·obtain⟨y,hy⟩:∃y,vs[i]? = some y:=⟨_,List.getElem?_eq_getElem (by omega)⟩
    have ly:=Ev y (List.mem_of_getElem? hy)
    have f1:bJ 1 (.ref b2 g2 0 n2 c2) (VI i) (H.set b (.row g ((pre++outs++post).map uV) 1 true))=some (.ptr b2 g2 i 0):=by rw[aP (rd2 outs) (by omega),Nat.zero_add]
    have f2:cQ false 1 (.ptr b2 g2 i 0) (H.set b (.row g ((pre++outs++post).map uV) 1 true))=some (uV y):=gT (rd2 outs) (by rw[sK i (by omega)];exact hy)
    have w3:IntKind.u64.wrap (y:Int)=(y:Int):=dQ _ (by omega)
    have w4:IntKind.u64.wrap (((cy+x:Nat):Int)+(y:Int))=((cy+x+y:Nat):Int):=by rw[←Int.natCast_add];exact dQ _ (by omega)
    obtain⟨⟨s1,s2,s3,s4,s5⟩,s6⟩:=step y ly (fun d hd=>by rw[hy] at hd;injection hd with hd;exact hd.symm) (fun h=>by omega)
    simp only[kJ,k0,k1,k7,k58,k59,dD,aU,e1,e2,e3,e4,f1,f2,w1,w2,w3,w4,wii,wrap32,lS,VX,Nat.reduceEqDiff,Nat.reduceAdd]
    exact⟨(i+1,outs.set i ((cy+x+y) % 4294967296),(cy+x+y) / 4294967296),by simp only;omega,s1,rfl,s2,s3,s4,s5,s6,by (repeat' apply And.intro)<;>first | rfl | trivial⟩
   ·obtain⟨⟨s1,s2,s3,s4,s5⟩,s6⟩:=step 0 (by decide) (fun d hd=>by have:=(List.getElem?_eq_some_iff.1 hd).1;omega) (fun _=>rfl)
    simp only[Nat.add_zero] at s2 s3 s4 s5 s6
    simp only[kJ,k0,k1,k7,k58,k59,dD,aU,e1,e2,e3,e4,w1,w2,wii,wrap32,lS,VX,Nat.reduceEqDiff,Nat.reduceAdd]
    exact⟨(i+1,outs.set i ((cy+x) % 4294967296),(cy+x) / 4294967296),by simp only;omega,s1,rfl,s2,s3,s4,s5,s6,by (repeat' apply And.intro)<;>first | rfl | trivial⟩
  ·have oJ:i=L:=by omega
   subst oJ
   rw[List.take_of_length_le (by omega),List.take_of_length_le (by omega),List.take_of_length_le (by omega)] at hv
   simp only[kJ,k0,k1,k7,k58,k59,dD,VX,Nat.reduceEqDiff,Nat.reduceAdd]
   exact⟨outs,rfl,jE,mQ,.inr ⟨aaM,Pl outs jE mQ cy hv⟩⟩
 simp only[C9,AX,e0 hr,VX,Nat.reduceEqDiff,Nat.reduceAdd]
 refine aR (fun(u:Nat×List Nat×Nat×Nat) ρ K=>u.1≤L∧K=H.set b (.row g ((pre++u.2.1++post).map uV) 1 true)∧u.2.1.length=L∧(∀d∈u.2.1,d<4294967296)∧u.2.2.1<4294967296∧u.2.2.2≤1∧val 4294967296 (gJ.take u.1)+4294967296^u.1*(u.2.2.1+u.2.2.2)=val 4294967296 (u.2.1.take u.1)+t*val 4294967296 (vs.take u.1)∧(∀j,u.1≤j→u.2.1[j]? = gJ[j]?) ∧
  ρ 0 = .ref b g o L c∧ρ 1 = .ref b2 g2 0 n2 c2∧ρ 2=VK .u64 t∧ρ 7=VK .u64 u.2.2.1∧ρ 8=VI u.2.2.2∧ρ 13=VI L∧ρ 14=VI u.1) (fun u=>L-u.1) (0,gJ,0,0) ⟨Nat.zero_le _,(tX hr).symm,hL,U7,by simp,by simp,by simp[val],fun _ _=>rfl,by (repeat' apply And.intro)<;>first | rfl | trivial⟩ ?_
 rintro⟨i,outs,cy,l⟩ ρ K ⟨hi,rfl,jE,mQ,hc,Cp,hv,Fu,k0,k1,k2,k7,k8,zZ,A6⟩
 simp only at hi jE mQ hc Cp hv Fu k7 k8 A6
 by_cases dD:(i:Int)<(L:Int)
 ·obtain⟨x,hx⟩:∃x,outs[i]? = some x:=⟨_,List.getElem?_eq_getElem (by omega)⟩
  have lx:=mQ x (List.mem_of_getElem? hx)
  have Oa:gJ[i]? = some x:=by rw[←Fu i (Nat.le_refl _)];exact hx
  have e1:bJ 1 (.ref b g o L c) (VI i) (H.set b (.row g ((pre++outs++post).map uV) 1 true))=some (.ptr b g (o+i) 0):=aP (rd outs jE) (by omega)
  have e2:cQ false 1 (.ptr b g (o+i) 0) (H.set b (.row g ((pre++outs++post).map uV) 1 true))=some (uV x):=gT (rd outs jE) (by rw[MZ ho (by omega)];exact hx)
  have e3:∀d:Nat,bX lo 1 (.ptr b g (o+i) 0) (uV d) (H.set b (.row g ((pre++outs++post).map uV) 1 true))=some (H.set b (.row g ((pre++outs.set i d++post).map uV) 1 true)):=fun d=>by
   rw[XN (rd outs jE) ho (by omega) eI,kQ]
  have e4:=e00 (rd2 outs)
  have wii:=wi i (by omega)
  have w1:IntKind.i64.wrap (x:Int)=(x:Int):=wrapN x rfl (by omega)
  have step:∀y c1,y<4294967296→c1=cy+t*y→(∀d,vs[i]? = some d→d=y)→(vs.length≤i→y=0) →
    c1 / 4294967296<4294967296∧IntKind.i64.wrap ((x:Int)-((c1 % 4294967296:Nat):Int)-(l:Int))=(x:Int)-((c1 % 4294967296:Nat):Int)-(l:Int)∧IntKind.i64.wrap ((x:Int)-((c1 % 4294967296:Nat):Int))=(x:Int)-((c1 % 4294967296:Nat):Int) ∧
    ∃r l',l'≤1∧((x:Int)-((c1 % 4294967296:Nat):Int)-(l:Int)<0↔l'=1)∧IntKind.u32.wrap ((x:Int)-((c1 % 4294967296:Nat):Int)-(l:Int))=((r:Nat):Int) ∧
    (i+1≤L∧(outs.set i r).length=L∧(∀d∈outs.set i r,d<4294967296)∧c1 / 4294967296<4294967296∧l'≤1∧val 4294967296 (gJ.take (i+1))+4294967296^(i+1)*(c1 / 4294967296+l')=val 4294967296 ((outs.set i r).take (i+1))+t*val 4294967296 (vs.take (i+1))∧∀j,i+1≤j→(outs.set i r)[j]? = gJ[j]?):=by
   intro y c1 hy Uu h1 h2
   have hty:t*y≤4294967295*4294967295:=Nat.mul_le_mul (by omega) (by omega)
   have hm:=Nat.mod_lt c1 (show 0<4294967296 by decide)
   have hdv:=Nat.mod_add_div c1 4294967296
   have hq:c1 / 4294967296<4294967296:=Nat.div_lt_of_lt_mul (by omega)
   refine⟨hq,wrap64 (by omega) (by omega),wrap64 (by omega) (by omega),?_⟩
   obtain⟨r,l',A7,D7,hd,hlw,pY⟩:∃r l':Nat,l'≤1∧r<4294967296∧r+c1 % 4294967296+l=x+4294967296*l'∧IntKind.u32.wrap ((x:Int)-((c1 % 4294967296:Nat):Int)-(l:Int))=((r:Nat):Int)∧((x:Int)-((c1 % 4294967296:Nat):Int)-(l:Int)<0↔l'=1):=by
    by_cases hn:(x:Int)-((c1 % 4294967296:Nat):Int)-(l:Int)<0
    ·exact⟨x+4294967296-c1 % 4294967296-l,1,by omega,by omega,by omega,X6 (by omega) hn (by omega),fun _=>rfl,fun _=>hn⟩
    ·exact⟨x-c1 % 4294967296-l,0,by omega,by omega,by omega,by rw[IntKind.wrap_u32];omega,fun h=>absurd h hn,fun h=>by omega⟩
   refine⟨r,l',A7,pY,hlw,by omega,by rw[List.length_set];exact jE,mJ mQ D7,hq,A7,?_,fun j hj=>by rw[List.getElem?_set_ne (by omega)];exact Fu j (by omega)⟩
   have hy':val 4294967296 (vs.take (i+1))=val 4294967296 (vs.take i)+4294967296^i*y:=by
    cases YN:vs[i]? with
    | some d=>rw[bI YN,h1 d YN]
    |
     none =>
     have hle:=List.getElem?_eq_none_iff.1 YN
     rw[h2 hle,pH hle,pH (by omega),Nat.mul_zero,Nat.add_zero]
   rw[bI Oa,hy',gK (by omega),Nat.pow_succ]
   have:=Vk hv Uu hdv.symm hd
   rw[this,Nat.mul_add,Nat.mul_left_comm t]
  by_cases aU:(i:Int)<(n2:Int)
  ·obtain⟨y,hy⟩:∃y,vs[i]? = some y:=⟨_,List.getElem?_eq_getElem (by omega)⟩
   have ly:=Ev y (List.mem_of_getElem? hy)
   have f1:bJ 1 (.ref b2 g2 0 n2 c2) (VI i) (H.set b (.row g ((pre++outs++post).map uV) 1 true))=some (.ptr b2 g2 i 0):=by rw[aP (rd2 outs) (by omega),Nat.zero_add]
   have f2:cQ false 1 (.ptr b2 g2 i 0) (H.set b (.row g ((pre++outs++post).map uV) 1 true))=some (uV y):=gT (rd2 outs) (by rw[sK i (by omega)];exact hy)
   have w3:IntKind.u64.wrap (y:Int)=(y:Int):=dQ _ (by omega)
   have hty:t*y≤4294967295*4294967295:=Nat.mul_le_mul (by omega) (by omega)
   have w4:IntKind.u64.wrap ((t:Int)*(y:Int))=((t*y:Nat):Int):=by rw[←Int.natCast_mul];exact dQ _ (by omega)
   have w5:IntKind.u64.wrap ((cy:Int)+((t*y:Nat):Int))=((cy+t*y:Nat):Int):=by rw[←Int.natCast_add];exact dQ _ (by omega)
   have w6:IntKind.i64.wrap (((cy+t*y) % 4294967296:Nat):Int)=(((cy+t*y) % 4294967296:Nat):Int):=wrapN _ rfl (by omega)
   obtain⟨_,a1,a2,r,l',A7,pY,hw,s1,s2,s3,s4,s5,s6,s7⟩:=step y (cy+t*y) ly rfl (fun d hd=>by rw[hy] at hd;injection hd with hd;exact hd.symm) (fun h=>by omega)
   by_cases hn:(x:Int)-(((cy+t*y) % 4294967296:Nat):Int)-(l:Int)<0
   ·have:=pY.1 hn
    subst this
    simp only[fB,k0,k1,k2,k7,k8,zZ,A6,dD,aU,e1,e2,e3,e4,f1,f2,w1,w3,w4,w5,w6,a1,a2,hn,hw,wii,wrap32,lS,VX,Nat.reduceEqDiff,Nat.reduceAdd]
    exact⟨(i+1,outs.set i r,(cy+t*y) / 4294967296,1),by simp only;omega,s1,rfl,s2,s3,s4,s5,s6,s7,by (repeat' apply And.intro)<;>first | rfl | trivial⟩
   ·have:l'=0:=by
     have:l'≠1:=fun h=>hn (pY.2 h)
     omega
    subst this
    simp only[fB,k0,k1,k2,k7,k8,zZ,A6,dD,aU,e1,e2,e3,e4,f1,f2,w1,w3,w4,w5,w6,a1,a2,hn,hw,wii,wrap32,lS,VX,Nat.reduceEqDiff,Nat.reduceAdd]
    exact⟨(i+1,outs.set i r,(cy+t*y) / 4294967296,0),by simp only;omega,s1,rfl,s2,s3,s4,s5,s6,s7,by (repeat' apply And.intro)<;>first | rfl | trivial⟩
  ·have w6:IntKind.i64.wrap ((cy % 4294967296:Nat):Int)=((cy % 4294967296:Nat):Int):=wrapN _ rfl (by omega)
   obtain⟨_,a1,a2,r,l',A7,pY,hw,s1,s2,s3,s4,s5,s6,s7⟩:=step 0 cy (by decide) (by simp) (fun d hd=>by have:=(List.getElem?_eq_some_iff.1 hd).1;omega) (fun _=>rfl)
   by_cases hn:(x:Int)-((cy % 4294967296:Nat):Int)-(l:Int)<0
   ·have:=pY.1 hn
    subst this
    simp only[fB,k0,k1,k2,k7,k8,zZ,A6,dD,aU,e1,e2,e3,e4,w1,w6,a1,a2,hn,hw,wii,wrap32,lS,VX,Nat.reduceEqDiff,Nat.reduceAdd]
    exact⟨(i+1,outs.set i r,cy / 4294967296,1),by simp only;omega,s1,rfl,s2,s3,s4,s5,s6,s7,by (repeat' apply And.intro)<;>first | rfl | trivial⟩
   ·have:l'=0:=by
     have:l'≠1:=fun h=>hn (pY.2 h)
     omega
    subst this
    simp only[fB,k0,k1,k2,k7,k8,zZ,A6,dD,aU,e1,e2,e3,e4,w1,w6,a1,a2,hn,hw,wii,wrap32,lS,VX,Nat.reduceEqDiff,Nat.reduceAdd]
    exact⟨(i+1,outs.set i r,cy / 4294967296,0),by simp only;omega,s1,rfl,s2,s3,s4,s5,s6,s7,by (repeat' apply And.intro)<;>first | rfl | trivial⟩
 ·have oJ:i=L:=by omega
  subst oJ
  rw[List.take_of_length_le (by omega),List.take_of_length_le (by omega),List.take_of_length_le (by omega)] at hv
  have ahJ:=oQ mQ
  rw[jE] at ahJ
  by_cases hz:l=0∧cy=0
  ·obtain⟨rfl,rfl⟩:=hz
   simp only[fB,k0,k1,k2,k7,k8,zZ,A6,dD,Int.natCast_zero,VX,Nat.reduceEqDiff,Nat.reduceAdd]
   exact⟨outs,rfl,jE,mQ,.inl (by simpa using hv.symm)⟩
  ·have apM:cy+l=1:=by
    rcases XF hv ahJ hVL oW with h | h<;>omega
   rw[apM,Nat.mul_one] at hv
   have aaM:val 4294967296 gJ<t*val 4294967296 vs:=by omega
   have fin:∀s2:List Nat,s2.length=i→(∀d∈s2,d<4294967296)→∀c,val 4294967296 outs+val 4294967296 vs=val 4294967296 s2+4294967296^i*c→val 4294967296 s2+t*val 4294967296 vs=val 4294967296 gJ+val 4294967296 vs:=by
    intro s2 h2 h3 c h4
    have h5:=oQ h3
    rw[h2] at h5
    exact WQ hv h4 h5 hVL oW Rm (by omega)
   have hlen:=e0 (rd outs jE)
   by_cases wR:(l:Int)=0
   ·have hcy:¬(cy:Int)=0:=by omega
    simp only[fB,k0,k1,k2,k7,k8,zZ,A6,dD,wR,hcy,hlen,VX,Nat.reduceEqDiff,Nat.reduceAdd]
    exact back _ outs jE mQ fin aaM k0 k1 (by rfl) (by rfl) (by rfl)
   ·simp only[fB,k0,k1,k2,k7,k8,zZ,A6,dD,wR,hlen,VX,Nat.reduceEqDiff,Nat.reduceAdd]
    exact back _ outs jE mQ fin aaM k0 k1 (by rfl) (by rfl) (by rfl)
end Go.PM
namespace Go.PM
section
variable {H:aA} {b g o i lo d:Nat} {L R:List VV} {low:List Nat}
theorem XA (hr:aF H b g=some (L++low.map tV++R,1,true)) (ho:L.length=o) (hi:low[i]? = some d):cQ false 1 (.ptr b g (o+i) 0) H=some (VI (d:Int)):=by
 have aU:=(List.getElem?_eq_some_iff.1 hi).1
 rw[Mz hr (x:=tV d) (by rw[MZ ho (by simpa using aU)];simp[hi])]
 rfl
theorem W0 (hr:aF H b g=some (L++low.map tV++R,1,true)) (ho:L.length=o) (hi:i<low.length) (eI:lo≤b):bX lo 1 (.ptr b g (o+i) 0) (VI (d:Int)) H=some (H.set b (.row g (L++(low.set i d).map tV++R) 1 true)):=by
 rw[dG hr (by simp only[List.length_append,List.length_map];omega) eI rfl rfl,S9 ho (by simpa using hi),List.map_set]
theorem Re {n:Nat} {z:Int} (hr:aF H b g=some (L++low.map tV++VI z::R,1,true)) (ho:L.length=o) (hn:low.length=n):cQ false 1 (.ptr b g (o+n) 0) H=some (VI z):=by
 rw[Mz hr (x:=VI z) (by rw[List.getElem?_append_right (by simp;omega)];simp[ho,hn])]
 rfl
theorem Wz {n:Nat} {z z':Int} (hr:aF H b g=some (L++low.map tV++VI z::R,1,true)) (ho:L.length=o) (hn:low.length=n) (eI:lo≤b):bX lo 1 (.ptr b g (o+n) 0) (VI z') H=some (H.set b (.row g (L++low.map tV++VI z'::R) 1 true)):=by
 rw[dG hr (by simp only[List.length_append,List.length_map,List.length_cons];omega) eI rfl rfl,List.set_append_right _ _ (by simp;omega)]
 congr 5
 simp[ho,hn]
end
theorem Nx {P A N B c u x t r k m q T:Nat} (h:A+P*c=N+t*B) (h1:r+m+c=u+T*k) (h2:m+T*q=x*t):(A+P*u)+P*T*(q+k)=(N+P*r)+t*(B+P*x):=by
 have e1:P*(r+m+c)=P*(u+T*k):=by rw[h1]
 have e2:P*(m+T*q)=P*(x*t):=by rw[h2]
 grind
theorem WE {x t:Nat} (hx:x<1000000000) (ht:t<1000000000):x*t≤999999998000000001∧x*t / 1000000000≤999999998:=by
 have h:x*t≤999999999*999999999:=Nat.mul_le_mul (by omega) (by omega)
 omega
theorem UG {H:aA} {lo b g o n N t top:Nat} {L R:List VV} {low vs:List Nat} (hr:aF H b g=some (L++low.map tV++VI (top:Int)::R,1,true)) (eI:lo≤b) (ho:L.length=o) (hl:low.length=n) (Dg:vs.length=n) (hN:o+n<N) (Ce:N≤70368744177664)
  (WY:∀d∈low,d<1000000000) (Ev:∀d∈vs,d<1000000000) (ht:t<1000000000) (W2:top<1000000000) :
  iY 239 [.ref b g 0 N N,jD vs,VI (o:Int),VI (t:Int)] lo H fun r H'=>∃(yW:List Nat) (c:Nat),H'=H.set b (.row g (L++yW.map tV++VI ((top:Int)-(c:Int))::R) 1 true)∧yW.length=n∧(∀d∈yW,d<1000000000)∧c≤1000000000 ∧
   r=VB (decide ((top:Int)-(c:Int)<0))∧val 1000000000 low+1000000000^n*c=val 1000000000 yW+t*val 1000000000 vs:=by
 refine iY.walk ⟨true,false⟩ EI (Nat.le_of_ble_eq_true rfl) ?_
 have rd:∀(s:List Nat) (z:Int),aF (H.set b (.row g (L++s.map tV++VI z::R) 1 true)) b g=some (L++s.map tV++VI z::R,1,true):=fun s z=>lI hr
 have ad:∀(K:aA) (es:List VV) (i:Nat),aF K b g=some (es,1,true)→i≤n→bJ 1 (.ref b g 0 N N) (VI ((o+i:Nat):Int)) K=some (.ptr b g (o+i) 0):=fun K es i h hi=>by rw[aP h (by omega),Nat.zero_add]
 simp only[A4,xG,fI,VX,Nat.reduceEqDiff,Nat.reduceAdd]
 refine aR (fun(u:Nat×List Nat×Nat) ρ K=>u.1≤n∧K=H.set b (.row g (L++u.2.1.map tV++VI (top:Int)::R) 1 true)∧u.2.1.length=n∧(∀d∈u.2.1,d<1000000000)∧u.2.2≤1000000000∧val 1000000000 (low.take u.1)+1000000000^u.1*u.2.2=val 1000000000 (u.2.1.take u.1)+t*val 1000000000 (vs.take u.1)∧(∀j,u.1≤j→u.2.1[j]? = low[j]?) ∧
  ρ 0 = .ref b g 0 N N∧ρ 1=jD vs∧ρ 2=VI o∧ρ 3=VI t∧ρ 9=VI u.2.2∧ρ 13=jD vs∧ρ 14=VI vs.length∧ρ 15=VI u.1) (fun u=>n-u.1) (0,low,0) ⟨Nat.zero_le _,(tX hr).symm,hl,WY,by simp,by simp[val],fun _ _=>rfl,by (repeat' apply And.intro)<;>first | rfl | trivial⟩ ?_
 rintro⟨i,outs,c⟩ ρ K ⟨hi,rfl,jE,mQ,hc,hv,Fu,k0,k1,k2,k3,k9,zZ,A6,Ij⟩
 simp only at hi jE mQ hc hv Fu k9 Ij
 by_cases dD:(i:Int)<(vs.length:Int)
 ·obtain⟨u,hu⟩:∃u,outs[i]? = some u:=⟨_,List.getElem?_eq_getElem (by omega)⟩
  have lu:=mQ u (List.mem_of_getElem? hu)
  have hu':low[i]? = some u:=by rw[←Fu i (Nat.le_refl _)];exact hu
  obtain⟨x,hx⟩:∃x,vs[i]? = some x:=⟨_,List.getElem?_eq_getElem (by omega)⟩
  have lx:=Ev x (List.mem_of_getElem? hx)
  obtain⟨xt1,xt2⟩:=WE lx ht
  have e1:bJ 1 (jD vs) (VI i) (H.set b (.row g (L++outs.map tV++VI (top:Int)::R) 1 true))=some (.dA (tV x) 0):=aJ (f:=tV) (t := .op) (size:=1) (k := .i64) hx rfl
  have w1:IntKind.i64.wrap ((o:Int)+(i:Int))=((o+i:Nat):Int):=wrapN _ (by omega) (by omega)
  have e2:=ad _ _ i (rd outs top) (by omega)
  have e3:=XA (rd outs top) ho hu
  have e4:∀d:Nat,bX lo 1 (.ptr b g (o+i) 0) (VI (d:Int)) (H.set b (.row g (L++outs.map tV++VI (top:Int)::R) 1 true))=some (H.set b (.row g (L++(outs.set i d).map tV++VI (top:Int)::R) 1 true)):=fun d=>by rw[W0 (rd outs top) ho (by omega) eI,kQ]
  have w2:IntKind.i64.wrap ((x:Int)*(t:Int))=((x*t:Nat):Int):=wrapN _ (by simp) (by omega)
  have r1:=TS (x*t)
  have q1:=S0 (x*t) (by omega)
  have hm:=Nat.mod_lt (x*t) (show 0<1000000000 by decide)
  have hdv:=Nat.mod_add_div (x*t) 1000000000
  have wi:IntKind.i64.wrap ((i:Int)+1)=((i+1:Nat):Int):=wrapN (i+1) (by omega) (by omega)
  generalize hmq:x*t % 1000000000=m at *
  generalize hqq:x*t / 1000000000=q at *
  have w3:IntKind.i64.wrap ((u:Int)-(m:Int))=(u:Int)-(m:Int):=wrap64 (by omega) (by omega)
  have w4:IntKind.i64.wrap ((u:Int)-(m:Int)-(c:Int))=(u:Int)-(m:Int)-(c:Int):=wrap64 (by omega) (by omega)
  have step:∀r k:Nat,r<1000000000→r+m+c=u+1000000000*k→val 1000000000 (low.take (i+1))+1000000000^(i+1)*(q+k)=val 1000000000 ((outs.set i r).take (i+1))+t*val 1000000000 (vs.take (i+1))∧(∀d∈outs.set i r,d<1000000000)∧(∀j,i+1≤j→(outs.set i r)[j]? = low[j]?)∧(outs.set i r).length=n:=by
   intro r k hr hk
   refine⟨?_,mJ mQ hr,fun j hj=>by rw[List.getElem?_set_ne (by omega)];exact Fu j (by omega),by rw[List.length_set];exact jE⟩
   rw[bI hu',bI hx,gK (by omega),Nat.pow_succ]
   exact Nx hv hk hdv
  by_cases h1:(u:Int)-(m:Int)-(c:Int)<0
  ·have w5:IntKind.i64.wrap ((u:Int)-(m:Int)-(c:Int)+1000000000)=(u:Int)-(m:Int)-(c:Int)+1000000000:=wrap64 (by omega) (by omega)
   have w6:IntKind.i64.wrap ((q:Int)+1)=((q+1:Nat):Int):=wrapN _ (by omega) (by omega)
   by_cases h2:(u:Int)-(m:Int)-(c:Int)+1000000000<0
   ·obtain⟨r,hr⟩:∃r:Nat,r+m+c=u+1000000000*2:=⟨u+1000000000*2-m-c,by omega⟩
    have w7:IntKind.i64.wrap ((u:Int)-(m:Int)-(c:Int)+1000000000+1000000000)=(r:Int):=wrapN r (by omega) (by omega)
    have w8:IntKind.i64.wrap (((q+1:Nat):Int)+1)=((q+2:Nat):Int):=wrapN _ (by omega) (by omega)
    obtain⟨s1,s2,s3,s4⟩:=step r 2 (by omega) hr
    simp only[iQ,k0,k1,k2,k3,k9,zZ,A6,Ij,dD,e1,e2,e3,e4,w1,w2,w3,w4,w5,w6,w7,w8,wi,r1,q1,h1,h2,VX,Nat.reduceEqDiff,Nat.reduceAdd]
    refine⟨(i+1,outs.set i r,q+2),by simp only;omega,by omega,rfl,s4,s2,by simp only;omega,s1,s3,?_⟩
    try (repeat' apply And.intro)<;>first | rfl | trivial
   ·obtain⟨r,hr⟩:∃r:Nat,r+m+c=u+1000000000*1:=⟨u+1000000000*1-m-c,by omega⟩
    have w7:IntKind.i64.wrap ((u:Int)-(m:Int)-(c:Int)+1000000000)=(r:Int):=wrapN r (by omega) (by omega)
    have h3:¬(r:Int)<0:=by omega
    obtain⟨s1,s2,s3,s4⟩:=step r 1 (by omega) hr
    simp only[iQ,k0,k1,k2,k3,k9,zZ,A6,Ij,dD,e1,e2,e3,e4,w1,w2,w3,w4,w6,w7,wi,r1,q1,h1,h3,VX,Nat.reduceEqDiff,Nat.reduceAdd]
    refine⟨(i+1,outs.set i r,q+1),by simp only;omega,by omega,rfl,s4,s2,by simp only;omega,s1,s3,?_⟩
    try (repeat' apply And.intro)<;>first | rfl | trivial
  ·obtain⟨r,hr⟩:∃r:Nat,r+m+c=u+1000000000*0:=⟨u-m-c,by omega⟩
   have w7:IntKind.i64.wrap ((u:Int)-(m:Int)-(c:Int))=(r:Int):=wrapN r (by omega) (by omega)
   have h3:¬(r:Int)<0:=by omega
   obtain⟨s1,s2,s3,s4⟩:=step r 0 (by omega) hr
   simp only[iQ,k0,k1,k2,k3,k9,zZ,A6,Ij,dD,e1,e2,e3,e4,w1,w2,w3,w7,wi,r1,q1,h3,VX,Nat.reduceEqDiff,Nat.reduceAdd]
   refine⟨(i+1,outs.set i r,q),by simp only;omega,by omega,rfl,s4,s2,by simp only;omega,s1,s3,?_⟩
   try (repeat' apply And.intro)<;>first | rfl | trivial
 ·have oJ:i=n:=by omega
  subst oJ
  rw[List.take_of_length_le (by omega),List.take_of_length_le (by omega),List.take_of_length_le (by omega)] at hv
  have w1:IntKind.i64.wrap ((o:Int)+(vs.length:Int))=((o+i:Nat):Int):=wrapN _ (by omega) (by omega)
  have e2:=ad _ _ i (rd outs top) (by omega)
  have e2':=ad _ _ i (rd outs ((top:Int)-(c:Int))) (by omega)
  have e3:=Re (rd outs top) ho jE
  have e3':=Re (rd outs ((top:Int)-(c:Int))) ho jE
  have e4:bX lo 1 (.ptr b g (o+i) 0) (VI ((top:Int)-(c:Int))) (H.set b (.row g (L++outs.map tV++VI (top:Int)::R) 1 true))=some (H.set b (.row g (L++outs.map tV++VI ((top:Int)-(c:Int))::R) 1 true)):=by rw[Wz (rd outs top) ho jE eI,kQ]
  have w2:IntKind.i64.wrap ((top:Int)-(c:Int))=(top:Int)-(c:Int):=wrap64 (by omega) (by omega)
  simp only[iQ,k0,k1,k2,k3,k9,zZ,A6,Ij,dD,fI,w1,w2,e2,e2',e3,e3',e4,VX,Nat.reduceEqDiff,Nat.reduceAdd]
  refine⟨outs,c,rfl,jE,mQ,hc,?_,hv⟩
  try rfl
theorem T5 {H:aA} {lo b g o n N:Nat} {z:Int} {L R:List VV} {low vs:List Nat} (hr:aF H b g=some (L++low.map tV++VI z::R,1,true)) (eI:lo≤b) (ho:L.length=o) (hl:low.length=n) (Dg:vs.length=n) (hN:o+n<N) (Ce:N≤70368744177664)
  (WY:∀d∈low,d<1000000000) (Ev:∀d∈vs,d<1000000000) (hz : -1000000000≤z) (Qx:z≤1000000000) :
  iY 240 [.ref b g 0 N N,jD vs,VI (o:Int)] lo H fun r H'=>∃(yW:List Nat) (c:Nat),H'=H.set b (.row g (L++yW.map tV++VI (z+(c:Int))::R) 1 true)∧yW.length=n∧(∀d∈yW,d<1000000000)∧c≤1 ∧
   val 1000000000 low+val 1000000000 vs=val 1000000000 yW+1000000000^n*c:=by
 refine iY.walk ⟨true,false⟩ EX (Nat.le_of_ble_eq_true rfl) ?_
 have rd:∀(s:List Nat) (z:Int),aF (H.set b (.row g (L++s.map tV++VI z::R) 1 true)) b g=some (L++s.map tV++VI z::R,1,true):=fun s z=>lI hr
 have ad:∀(K:aA) (es:List VV) (i:Nat),aF K b g=some (es,1,true)→i≤n→bJ 1 (.ref b g 0 N N) (VI ((o+i:Nat):Int)) K=some (.ptr b g (o+i) 0):=fun K es i h hi=>by rw[aP h (by omega),Nat.zero_add]
 simp only[AV,xI,fI,VX,Nat.reduceEqDiff,Nat.reduceAdd]
 refine aR (fun(u:Nat×List Nat×Nat) ρ K=>u.1≤n∧K=H.set b (.row g (L++u.2.1.map tV++VI z::R) 1 true)∧u.2.1.length=n∧(∀d∈u.2.1,d<1000000000)∧u.2.2≤1∧val 1000000000 (low.take u.1)+val 1000000000 (vs.take u.1)=val 1000000000 (u.2.1.take u.1)+1000000000^u.1*u.2.2∧(∀j,u.1≤j→u.2.1[j]? = low[j]?) ∧
  ρ 0 = .ref b g 0 N N∧ρ 1=jD vs∧ρ 2=VI o∧ρ 6=VI u.2.2∧ρ 10=jD vs∧ρ 11=VI vs.length∧ρ 12=VI u.1) (fun u=>n-u.1) (0,low,0) ⟨Nat.zero_le _,(tX hr).symm,hl,WY,by simp,by simp[val],fun _ _=>rfl,by (repeat' apply And.intro)<;>first | rfl | trivial⟩ ?_
 rintro⟨i,outs,c⟩ ρ K ⟨hi,rfl,jE,mQ,hc,hv,Fu,k0,k1,k2,k6,VZ,Th,G2⟩
 simp only at hi jE mQ hc hv Fu k6 G2
 by_cases dD:(i:Int)<(vs.length:Int)
 ·obtain⟨u,hu⟩:∃u,outs[i]? = some u:=⟨_,List.getElem?_eq_getElem (by omega)⟩
  have lu:=mQ u (List.mem_of_getElem? hu)
  have hu':low[i]? = some u:=by rw[←Fu i (Nat.le_refl _)];exact hu
  obtain⟨x,hx⟩:∃x,vs[i]? = some x:=⟨_,List.getElem?_eq_getElem (by omega)⟩
  have lx:=Ev x (List.mem_of_getElem? hx)
  have e1:bJ 1 (jD vs) (VI i) (H.set b (.row g (L++outs.map tV++VI z::R) 1 true))=some (.dA (tV x) 0):=aJ (f:=tV) (t := .op) (size:=1) (k := .i64) hx rfl
  have w1:IntKind.i64.wrap ((o:Int)+(i:Int))=((o+i:Nat):Int):=wrapN _ (by omega) (by omega)
  have e2:=ad _ _ i (rd outs z) (by omega)
  have e3:=XA (rd outs z) ho hu
  have e4:∀d:Nat,bX lo 1 (.ptr b g (o+i) 0) (VI (d:Int)) (H.set b (.row g (L++outs.map tV++VI z::R) 1 true))=some (H.set b (.row g (L++(outs.set i d).map tV++VI z::R) 1 true)):=fun d=>by rw[W0 (rd outs z) ho (by omega) eI,kQ]
  have w2:IntKind.i64.wrap ((u:Int)+(x:Int))=((u+x:Nat):Int):=wrapN _ (by omega) (by omega)
  have w3:IntKind.i64.wrap (((u+x:Nat):Int)+(c:Int))=((u+x+c:Nat):Int):=wrapN _ (by omega) (by omega)
  have r1:=TS (u+x+c)
  have q1:=S0 (u+x+c) (by omega)
  have wi:IntKind.i64.wrap ((i:Int)+1)=((i+1:Nat):Int):=wrapN (i+1) (by omega) (by omega)
  simp only[pF,k0,k1,k2,k6,VZ,Th,G2,dD,e1,e2,e3,e4,w1,w2,w3,wi,r1,q1,VX,Nat.reduceEqDiff,Nat.reduceAdd]
  refine⟨(i+1,outs.set i ((u+x+c) % 1000000000),(u+x+c) / 1000000000),by simp only;omega,by omega,rfl,by rw[List.length_set];exact jE,mJ mQ (Nat.mod_lt _ (by decide)),by simp only;omega,?_,fun j hj=>by rw[List.getElem?_set_ne (by omega)];exact Fu j (by omega),?_⟩
  ·simp only
   rw[bI hu',bI hx,gK (by omega),Nat.pow_succ]
   exact DQ hv (show c+u+x=u+x+c by omega) (Nat.mod_add_div _ _)
  ·try (repeat' apply And.intro)<;>first | rfl | trivial
 ·have oJ:i=n:=by omega
  subst oJ
  rw[List.take_of_length_le (by omega),List.take_of_length_le (by omega),List.take_of_length_le (by omega)] at hv
  have w1:IntKind.i64.wrap ((o:Int)+(vs.length:Int))=((o+i:Nat):Int):=wrapN _ (by omega) (by omega)
  have e2:=ad _ _ i (rd outs z) (by omega)
  have e3:=Re (rd outs z) ho jE
  have e4:bX lo 1 (.ptr b g (o+i) 0) (VI (z+(c:Int))) (H.set b (.row g (L++outs.map tV++VI z::R) 1 true))=some (H.set b (.row g (L++outs.map tV++VI (z+(c:Int))::R) 1 true)):=by rw[Wz (rd outs z) ho jE eI,kQ]
  have w2:IntKind.i64.wrap (z+(c:Int))=z+(c:Int):=wrap64 (by omega) (by omega)
  simp only[pF,k0,k1,k2,k6,VZ,Th,G2,dD,fI,w1,w2,e2,e3,e4,VX,Nat.reduceEqDiff,Nat.reduceAdd]
  exact⟨outs,c,rfl,jE,mQ,hc,hv⟩
end Go.PM
namespace Go.PM
theorem xP {d:Nat} {H:aA}:fz (d+1) H (.tree [] .nil)=some (bY 0):=by
 rw[L8]
 unfold fz
 have:aN (.tree [] .nil)=false:=by simp[aN]
 simp only[this,Bool.false_eq_true,if_false]
 rfl
theorem Xv {d:Nat} {H:aA} {m:Nat} {t:TK} (ht:t = .cl 1∨t = .op):fz (d+2) H (.tree ((aC 4294967296 m).map uV) t)=some (bY m):=by
 rcases ht with rfl | rfl
 ·unfold fz
  have:aN (.tree ((aC 4294967296 m).map uV) (.cl 1))=false:=by simp[aN]
  simp only[this,Bool.false_eq_true,if_false]
  rw[mapM_pure (eH fun _=>rfl)]
  rfl
 ·exact aH (bQ m)
abbrev H3 (us ws os:List Nat):aA:=[.row 0 (us.map uV) 1 true,.row 0 (ws.map uV) 1 true,.row 0 (os.map uV) 1 true]
theorem A8 {us ws os:List Nat}:aF (H3 us ws os) 0 0=some (us.map uV,1,true):=rfl
theorem akF {us ws os:List Nat}:aF (H3 us ws os) 1 0=some (ws.map uV,1,true):=rfl
theorem Z4 {us ws os:List Nat}:aF (H3 us ws os) 2 0=some (os.map uV,1,true):=rfl
theorem UH {us:List Nat} {i n N V:Nat} (hN:us.length=N) (dD:i+n<N) (hd:∀d∈us,d<4294967296) (hV:V<4294967296^n) (AS:val 4294967296 (us.drop (i+1))<V) :
  us=us.take i++(us.drop i).take (n+1)++us.drop (i+(n+1))∧(us.take i).length=i∧((us.drop i).take (n+1)).length=n+1∧val 4294967296 ((us.drop i).take (n+1))<4294967296*V∧val 4294967296 (us.drop i)=val 4294967296 ((us.drop i).take (n+1))∧val 4294967296 (us.drop (i+(n+1)))=0∧∀j,j<n+1→((us.drop i).take (n+1))[j]? = us[i+j]? := by
 obtain⟨x,hx⟩:∃x,us[i]? = some x:=⟨_,List.getElem?_eq_getElem (by omega)⟩
 have lx:=hd x (List.mem_of_getElem? hx)
 have h1:=qE (b:=4294967296) hx
 have h2:val 4294967296 (us.drop i)<4294967296*V:=by
  have:4294967296*(val 4294967296 (us.drop (i+1))+1)≤4294967296*V:=Nat.mul_le_mul_left _ AS
  omega
 have h3:=nL (b:=4294967296) (us.drop i) (n+1)
 have h4:((us.drop i).take (n+1)).length=n+1:=by rw[List.length_take,List.length_drop];omega
 rw[h4,List.drop_drop] at h3
 have h5:val 4294967296 (us.drop (i+(n+1)))=0:=by
  rcases Nat.eq_zero_or_pos (val 4294967296 (us.drop (i+(n+1)))) with h | h
  ·exact h
  ·have h6:4294967296^(n+1)*1≤4294967296^(n+1)*val 4294967296 (us.drop (i+(n+1))):=Nat.mul_le_mul_left _ h
   have h7:4294967296*V≤4294967296^(n+1):=by rw[Nat.pow_succ,Nat.mul_comm];exact Nat.mul_le_mul_right _ (by omega)
   omega
 rw[h5,Nat.mul_zero,Nat.add_zero] at h3
 refine⟨?_,by rw[List.length_take];omega,h4,by omega,h3,h5,fun j hj => ?_⟩
 ·rw[List.append_assoc,←List.drop_drop,List.take_append_drop,List.take_append_drop]
 ·rw[List.getElem?_take_of_lt hj,List.getElem?_drop]
theorem OP {x D p w:Nat} (hp:0<p) (hw:p*w=4294967296):(x+4294967296*D) / p=((D % 4294967296*4294967296+x) / p) % 4294967296+4294967296*(D / p)∨¬x<4294967296:=by
 rcases Nat.lt_or_ge x 4294967296 with hx | hx
 ·left
  have h1:(x+4294967296*D) / p / 4294967296=D / p:=by
   rw[Nat.div_div_eq_div_mul,Nat.mul_comm p,←Nat.div_div_eq_div_mul,Nat.add_mul_div_left _ _ (by decide),Nat.div_eq_of_lt hx,Nat.zero_add]
  have h2:(x+4294967296*D) / p % 4294967296=(D % 4294967296*4294967296+x) / p % 4294967296:=by
   have e:x+4294967296*D=(D % 4294967296*4294967296+x)+p*(4294967296*(w*(D / 4294967296))):=by
    have h3:=Nat.mod_add_div D 4294967296
    have h4:p*(4294967296*(w*(D / 4294967296)))=(p*w)*(4294967296*(D / 4294967296)):=by grind
    rw[h4,hw]
    omega
   rw[e,Nat.add_mul_div_left _ _ hp,Nat.add_mul_mod_self_left]
  have:=Nat.mod_add_div ((x+4294967296*D) / p) 4294967296
  rw[h1,h2] at this
  exact this.symm
 ·right
  omega
theorem Rw {x:Nat} (h0:x≠0) (hx:x<4294967296):∃s,s≤31∧TC 219 [uV x] (VI (s:Nat))∧x*2^s<4294967296:=by
 obtain⟨h1,h2,h3⟩:=Lib.bitLenAux_bounds 64 x (by omega) h0
 have h4:Lib.bitLenAux 64 x-1<32:=by
  have:2^(Lib.bitLenAux 64 x-1)<2^32:=by omega
  exact(Nat.pow_lt_pow_iff_right (by decide)).1 this
 refine⟨32-Lib.bitLenAux 64 x,by omega,?_,?_⟩
 ·have:=Uv x hx
  have e:(((32-Lib.bitLenAux 64 x:Nat)):Int)=32-(Lib.bitLen x:Int):=by unfold Lib.bitLen;omega
  rw[e]
  exact this
 ·have:2^Lib.bitLenAux 64 x*2^(32-Lib.bitLenAux 64 x)=4294967296:=by rw[←Nat.pow_add,show Lib.bitLenAux 64 x+(32-Lib.bitLenAux 64 x)=32 by omega]
  rw[←this]
  exact Nat.mul_lt_mul_of_pos_right h3 (Nat.pow_pos (by decide))
theorem UY {us ws os:List Nat} {k N s w0:Nat} {ρ:dI} {Q:VQ} (hs:s≤31) (hw:2^s*w0=4294967296) (hN:us.length=N) (hk:k≤N) (Ce:N≤70368744177664) (hd:∀d∈us,d<4294967296) (g8:ρ 8=VI s) (g9:ρ 9 = .ref 0 0 0 k N) (aqS:ρ 147=VI k) (atJ:ρ 148=VI 0)
  (hQ:∀(aS:dI) (DM:List Nat),aS 9 = .ref 0 0 0 k N→aS 13=ρ 13→DM.length=N→(∀d∈DM,d<4294967296)→val 4294967296 (DM.take k)=val 4294967296 (us.take k) / 2^s→Q (.exit 4) aS (H3 DM ws os)) :
  VW ⟨true,false⟩ 0 (.loop jK) Q ρ (H3 us ws os):=by
 have hp:0<2^s:=Nat.pow_pos (by decide)
 refine aR (fun(t:Nat×List Nat) aS H=>t.1≤k∧H=H3 t.2 ws os∧t.2.length=N∧(∀d∈t.2,d<4294967296)∧(∀j,t.1≤j→t.2[j]? = us[j]?)∧val 4294967296 (t.2.take t.1)+4294967296^t.1*(val 4294967296 ((us.take k).drop t.1) / 2^s)=val 4294967296 (us.take k) / 2^s ∧
  aS 8=VI s∧aS 9 = .ref 0 0 0 k N∧aS 13=ρ 13∧aS 147=VI k∧aS 148=VI t.1) (fun t=>k-t.1) (0,us) ⟨Nat.zero_le _,rfl,hN,hd,fun _ _=>rfl,by simp[val],g8,g9,rfl,aqS,atJ⟩ ?_
 rintro⟨i,vs⟩ Nd H ⟨hi,rfl,Dg,Ev,Fu,hv,k8,k9,zZ,ahG,aaS⟩
 simp only at hi Dg Ev Fu hv aaS
 by_cases dD:(i:Int)<(k:Int)
 ·obtain⟨x,hx⟩:∃x,us[i]? = some x:=⟨_,List.getElem?_eq_getElem (by omega)⟩
  have hx2:vs[i]? = some x:=by rw[Fu i (Nat.le_refl _)];exact hx
  have lx:=hd x (List.mem_of_getElem? hx)
  have hx3:(us.take k)[i]? = some x:=by rw[List.getElem?_take_of_lt (by omega)];exact hx
  have h1:=qE (b:=4294967296) hx3
  generalize hD:val 4294967296 ((us.take k).drop (i+1))=D at *
  have hlen:nR (.ref 0 0 0 k N) (H3 vs ws os)=some (VI k):=dR A8
  have e1:bJ 1 (.ref 0 0 0 k N) (VI i) (H3 vs ws os)=some (.ptr 0 0 i 0):=by rw[aP A8 (by omega),Nat.zero_add]
  have e2:cQ false 1 (.ptr 0 0 i 0) (H3 vs ws os)=some (uV x):=gT A8 hx2
  have e3:∀d:Nat,bX 0 1 (.ptr 0 0 i 0) (uV d) (H3 vs ws os)=some (H3 (vs.set i d) ws os):=fun d=>by
   rw[dF (f:=uV) (e:=1) A8 (by omega) (Nat.le_refl _) rfl rfl]
   rfl
  have wi:IntKind.i64.wrap ((i:Int)+1)=((i+1:Nat):Int):=wrapN (i+1) (by omega) (by omega)
  have wx:IntKind.u64.wrap (x:Int)=(x:Int):=dQ _ (by omega)
  have hm:=Nat.mod_lt D (show 0<4294967296 by decide)
  have w5:=Cz (D % 4294967296) .u64 hm
  have w6:IntKind.u64.wrap (((D % 4294967296*4294967296:Nat):Int)+(x:Int))=((D % 4294967296*4294967296+x:Nat):Int):=by rw[←Int.natCast_add];exact dQ _ (by omega)
  have w7:=Wq (D % 4294967296*4294967296+x) s hs
  have sd:(x+4294967296*D) / 2^s=((D % 4294967296*4294967296+x) / 2^s) % 4294967296+4294967296*(D / 2^s):=by
   rcases OP (x:=x) (D:=D) hp hw with h | h
   ·exact h
   ·exact absurd lx h
  have next:∃s':Nat×List Nat,k-s'.1<k-i∧s'.1≤k∧H3 (vs.set i (((D % 4294967296*4294967296+x) / 2^s) % 4294967296)) ws os=H3 s'.2 ws os∧s'.2.length=N∧(∀d∈s'.2,d<4294967296)∧(∀j,s'.1≤j→s'.2[j]? = us[j]?)∧val 4294967296 (s'.2.take s'.1)+4294967296^s'.1*(val 4294967296 ((us.take k).drop s'.1) / 2^s)=val 4294967296 (us.take k) / 2^s∧s'.1=i+1:=by
   refine⟨(i+1,vs.set i (((D % 4294967296*4294967296+x) / 2^s) % 4294967296)),by simp only;omega,by simp only;omega,rfl,by simp only[List.length_set];exact Dg,mJ Ev (Nat.mod_lt _ (by decide)),fun j hj => ?_,?_,rfl⟩
   ·simp only at hj ⊢
    rw[List.getElem?_set_ne (by omega)]
    exact Fu j (by omega)
   ·simp only
    rw[gK (by omega),hD,←hv,h1,sd,Nat.pow_succ]
    generalize (D % 4294967296*4294967296+x) / 2^s % 4294967296=q
    generalize D / 2^s=E
    rw[Nat.mul_add,Nat.mul_assoc,Nat.add_assoc]
  obtain⟨s',n1,n2,n3,n4,n5,n6,n7,n8⟩:=next
  by_cases amQ:((i+1:Nat):Int)<(k:Int)
  ·obtain⟨h,hh⟩:∃h,us[i+1]? = some h:=⟨_,List.getElem?_eq_getElem (by omega)⟩
   have hh2:vs[i+1]? = some h:=by rw[Fu (i+1) (by omega)];exact hh
   have hhD:D % 4294967296=h:=by
    have hh3:(us.take k)[i+1]? = some h:=by rw[List.getElem?_take_of_lt (by omega)];exact hh
    have:=qE (b:=4294967296) hh3
    rw[hD] at this
    have lh:=hd h (List.mem_of_getElem? hh)
    omega
   have f1:bJ 1 (.ref 0 0 0 k N) (VI ((i+1:Nat):Int)) (H3 vs ws os)=some (.ptr 0 0 (i+1) 0):=by rw[aP A8 (by omega),Nat.zero_add]
   have f2:cQ false 1 (.ptr 0 0 (i+1) 0) (H3 vs ws os)=some (uV h):=gT A8 hh2
   have wh:IntKind.u64.wrap (h:Int)=(h:Int):=dQ _ (by omega)
   rw[hhD] at w5 w6 w7 n3
   simp only[jK,k8,k9,ahG,aaS,dD,amQ,hlen,e1,e2,e3,f1,f2,wi,wx,wh,w5,w6,w7,wrap32,VX,Nat.reduceEqDiff,Nat.reduceAdd]
   exact⟨s',n1,n2,n3,n4,n5,n6,n7,zZ,by rw[n8]⟩
  ·have hD0:D=0:=by
    rw[←hD,List.drop_of_length_le (by rw[List.length_take];omega)]
    rfl
   subst hD0
   have w5':cV .shl (.int .u64 0) (.int .u64 32)=some (.int .u64 0):=Cz 0 .u64 (by decide)
   have w6':IntKind.u64.wrap ((0:Int)+(x:Int))=(x:Int):=by rw[Int.zero_add];exact wx
   have w7':=Wq x s hs
   simp only[Nat.zero_mod,Nat.zero_mul,Nat.zero_add] at n3
   simp only[jK,k8,k9,ahG,aaS,dD,amQ,hlen,e1,e2,e3,wi,wx,w5',w6',w7',wrap32,VX,Nat.reduceEqDiff,Nat.reduceAdd]
   exact⟨s',n1,n2,n3,n4,n5,n6,n7,zZ,by rw[n8]⟩
 ·have oJ:i=k:=by omega
  subst oJ
  rw[List.drop_of_length_le (by rw[List.length_take];omega)] at hv
  simp only[val,Nat.zero_div,Nat.mul_zero,Nat.add_zero] at hv
  simp only[jK,k8,k9,ahG,aaS,dD,VX,Nat.reduceEqDiff,Nat.reduceAdd]
  exact hQ _ vs k9 zZ Dg Ev hv
end Go.PM
namespace Go.PM
theorem Sj {gJ vs us ws os:List Nat} {n u2 u1 u0 v1 v0 N k g left:Nat} (G:tI 4294967296 gJ vs n u2 u1 u0 v1 v0) {ρ:dI} {Q:VQ} (hN:us.length=N) (ZE:2≤k) (hkN:k<N) (Ce:N≤70368744177664) (hu0:us[k-2]? = some u0)
  (g9:ρ 9 = .ref 0 0 0 N N) (g11:ρ 11=VK .u64 v1) (g12:ρ 12=VK .u64 v0) (g15:ρ 15=VI k) (g17:ρ 17=VK .u64 g) (g18:ρ 18=VK .u64 left) (hh:u2*4294967296+u1=g*v1+left) (hq:val 4294967296 gJ / val 4294967296 vs≤g) (hl:left<4294967296) (hgb:g<18446744073709551616)
  (hQ:∀(aS:dI) (g':Nat),val 4294967296 gJ / val 4294967296 vs≤g'→g'≤val 4294967296 gJ / val 4294967296 vs+1→g'<4294967296→aS 17=VK .u64 g'→aS 8=ρ 8→aS 9=ρ 9→aS 10=ρ 10→aS 11=ρ 11→aS 12=ρ 12→aS 13=ρ 13→aS 14=ρ 14→aS 15=ρ 15→Q (.exit 2) aS (H3 us ws os)) :
  VW ⟨true,false⟩ 0 (.loop fJ) Q ρ (H3 us ws os):=by
 have lv1:=G.S5
 have lv0:=G.YB
 have lu0:=G.acY
 have qlt:=G.abA
 have jB:=G.pos
 refine aR (fun(t:Nat×Nat) aS H=>H=H3 us ws os∧u2*4294967296+u1=t.1*v1+t.2∧val 4294967296 gJ / val 4294967296 vs≤t.1∧t.2<4294967296∧t.1<18446744073709551616 ∧
  aS 9 = .ref 0 0 0 N N∧aS 11=VK .u64 v1∧aS 12=VK .u64 v0∧aS 15=VI k∧aS 17=VK .u64 t.1∧aS 18=VK .u64 t.2∧aS 8=ρ 8∧aS 10=ρ 10∧aS 13=ρ 13∧aS 14=ρ 14) (fun t=>4294967296-t.2) (g,left) ⟨rfl,hh,hq,hl,hgb,g9,g11,g12,g15,g17,g18,rfl,rfl,rfl,rfl⟩ ?_
 rintro⟨g,left⟩ Nd H ⟨rfl,hh,hq,hl,hgb,k9,Th,G2,Ij,Ic,Zz,k8,VZ,zZ,A6⟩
 simp only at hh hq hl hgb Ic Zz
 have e1:bJ 1 (.ref 0 0 0 N N) (VI ((k-2:Nat):Int)) (H3 us ws os)=some (.ptr 0 0 (k-2) 0):=by rw[aP A8 (by omega),Nat.zero_add]
 have e2:cQ false 1 (.ptr 0 0 (k-2) 0) (H3 us ws os)=some (uV u0):=gT A8 hu0
 have wk:IntKind.i64.wrap ((k:Int)-2)=((k-2:Nat):Int):=wrapN _ (by omega) (by omega)
 have wu:IntKind.u64.wrap (u0:Int)=(u0:Int):=dQ _ (by omega)
 have ws:=Cz left .u64 hl
 have wa:IntKind.u64.wrap (((left*4294967296:Nat):Int)+(u0:Int))=((left*4294967296+u0:Nat):Int):=by rw[←Int.natCast_add];exact dQ _ (by omega)
 have wl:IntKind.u64.wrap ((left:Int)+(v1:Int))=((left+v1:Nat):Int):=by rw[←Int.natCast_add];exact dQ _ (by omega)
 have same:Nd 9=ρ 9∧Nd 11=ρ 11∧Nd 12=ρ 12∧Nd 15=ρ 15:=⟨by rw[k9,g9],by rw[Th,g11],by rw[G2,g12],by rw[Ij,g15]⟩
 obtain⟨s9,s11,s12,s15⟩:=same
 have down:val 4294967296 gJ / val 4294967296 vs<g→∃g',g=g'+1∧IntKind.u64.wrap ((g:Int)-1)=(g':Int)∧u2*4294967296+u1=g'*v1+(left+v1)∧val 4294967296 gJ / val 4294967296 vs≤g':=by
  intro h
  have hg1:1≤g:=Nat.lt_of_le_of_lt (Nat.zero_le _) h
  obtain⟨g',rfl⟩:∃g',g=g'+1:=⟨g-1,by omega⟩
  refine⟨g',rfl,?_,?_,by omega⟩
  ·rw[show ((g'+1:Nat):Int)-1=(g':Int) by omega]
   exact dQ _ (by omega)
  ·rw[hh,Nat.add_mul]
   omega
 by_cases hA:(4294967296:Int)≤(g:Int)
 ·obtain⟨g',P4,wg,QT,KF⟩:=down (by omega)
  by_cases hB:(4294967296:Int)≤((left+v1:Nat):Int)
  ·obtain⟨c1,c2⟩:=G.broken QT (by omega)
   simp only[fJ,k9,Th,G2,Ij,Ic,Zz,hA,hB,wg,wl,VX,Nat.reduceEqDiff,Nat.reduceAdd]
   exact hQ _ g' KF (G.UE QT (by omega) c2) c1 rfl k8 s9 VZ s11 s12 zZ A6 s15
  ·simp only[fJ,k9,Th,G2,Ij,Ic,Zz,hA,hB,wg,wl,VX,Nat.reduceEqDiff,Nat.reduceAdd]
   exact⟨(g',left+v1),by simp only;omega,QT,KF,by simp only;omega,by simp only;omega,by rfl,by rfl,k8,VZ,zZ,A6⟩
 ·have hgv:g*v0≤4294967295*4294967295:=Nat.mul_le_mul (by omega) (by omega)
  have wm:IntKind.u64.wrap ((g:Int)*(v0:Int))=((g*v0:Nat):Int):=by rw[←Int.natCast_mul];exact dQ _ (by omega)
  by_cases hT:((left*4294967296+u0:Nat):Int)<((g*v0:Nat):Int)
  ·obtain⟨g',P4,wg,QT,KF⟩:=down (G.too hh (by omega))
   by_cases hB:(4294967296:Int)≤((left+v1:Nat):Int)
   ·obtain⟨c1,c2⟩:=G.broken QT (by omega)
    simp only[fJ,k9,Th,G2,Ij,Ic,Zz,hA,hB,hT,e1,e2,wk,wu,ws,wa,wm,wg,wl,VX,Nat.reduceEqDiff,Nat.reduceAdd]
    exact hQ _ g' KF (G.UE QT (by omega) c2) c1 rfl k8 s9 VZ s11 s12 zZ A6 s15
   ·simp only[fJ,k9,Th,G2,Ij,Ic,Zz,hA,hB,hT,e1,e2,wk,wu,ws,wa,wm,wg,wl,VX,Nat.reduceEqDiff,Nat.reduceAdd]
    exact⟨(g',left+v1),by simp only;omega,QT,KF,by simp only;omega,by simp only;omega,by rfl,by rfl,k8,VZ,zZ,A6⟩
  ·simp only[fJ,k9,Th,G2,Ij,Ic,Zz,hA,hT,e1,e2,wk,wu,ws,wa,wm,VX,Nat.reduceEqDiff,Nat.reduceAdd]
   exact hQ _ g hq (G.UE hh (by omega) (by omega)) (by omega) Ic k8 s9 VZ s11 s12 zZ A6 s15
theorem IY {X S S' R V q Q P w:Nat} (hs:S=q*V+S') (h:X+P*S+P*w*V*Q=R):X+P*S'+P*V*(q+w*Q)=R:=by
 subst hs
 grind
theorem Wi {CT ws We vs:List Nat} {N m n v1 v0 A s:Nat} {ρ:dI} {Q:VQ} (hN:CT.length=N) (hm:m+(n+2)=N) (Ce:N≤70368744177664) (GM:∀d∈CT,d<4294967296) (hws:ws.take (n+2)=vs) (hwl:ws.length=n+3) (Dg:vs.length=n+2) (Ev:∀d∈vs,d<4294967296) (f1:vs[n+1]? = some v1) (f0:vs[n]? = some v0) (jB:1≤v1)
  (hA:val 4294967296 CT=A) (AS:val 4294967296 (CT.drop m)<val 4294967296 vs) (jE:We.length=m) (mQ:∀d∈We,d<4294967296)
  (g8:ρ 8=VI s) (g9:ρ 9 = .ref 0 0 0 N N) (g10:ρ 10 = .ref 1 0 0 (n+2) (n+3)) (g11:ρ 11=VK .u64 v1) (g12:ρ 12=VK .u64 v0) (g13:ρ 13 = .ref 2 0 0 m m) (g14:ρ 14=VI ((m:Int)-1))
  (hQ:∀(aS:dI) (us os:List Nat),aS 8=VI s→aS 9 = .ref 0 0 0 N N→aS 13 = .ref 2 0 0 m m→us.length=N→(∀d∈us,d<4294967296)→os.length=m→(∀d∈os,d<4294967296)→val 4294967296 us+val 4294967296 vs*val 4294967296 os=A→val 4294967296 us<val 4294967296 vs→Q (.exit 0) aS (H3 us ws os)) :
  VW ⟨true,false⟩ 0 (.loop lT) Q ρ (H3 CT ws We):=by
 have hVb:=oQ Ev
 rw[Dg] at hVb
 refine aR (fun(t:Nat×List Nat×List Nat) aS H=>t.1≤m∧H=H3 t.2.1 ws t.2.2∧t.2.1.length=N∧(∀d∈t.2.1,d<4294967296)∧t.2.2.length=m∧(∀d∈t.2.2,d<4294967296)∧val 4294967296 (t.2.1.drop t.1)<val 4294967296 vs∧val 4294967296 t.2.1+4294967296^t.1*val 4294967296 vs*val 4294967296 (t.2.2.drop t.1)=A ∧
  aS 8=VI s∧aS 9 = .ref 0 0 0 N N∧aS 10 = .ref 1 0 0 (n+2) (n+3)∧aS 11=VK .u64 v1∧aS 12=VK .u64 v0∧aS 13 = .ref 2 0 0 m m∧aS 14=VI ((t.1:Int)-1)) (fun t=>t.1) (m,CT,We) ⟨Nat.le_refl _,rfl,hN,GM,jE,mQ,AS,by rw[List.drop_of_length_le (by simp only;omega)];simpa[val] using hA,g8,g9,g10,g11,g12,g13,g14⟩ ?_
 rintro⟨j,us,os⟩ Nd H ⟨hj,rfl,NK,GM,jE,mQ,aU,hv,k8,k9,VZ,Th,G2,zZ,A6⟩
 simp only at hj NK GM jE mQ aU hv A6
 by_cases hz:(0:Int)≤(j:Int)-1
 ·obtain⟨i,rfl⟩:∃i,j=i+1:=⟨j-1,by omega⟩
  have NI:((i+1:Nat):Int)-1=(i:Int):=by omega
  rw[NI] at A6 hz
  obtain⟨RY,wS,Rm,hsW,Xt,XT,sK⟩:=UH (n:=n+2) NK (by omega) GM hVb aU
  generalize U7:(us.drop i).take (n+2+1)=gJ at *
  have TR:∀d∈gJ,d<4294967296:=fun d hd=>by rw[←U7] at hd;exact GM d (List.mem_of_mem_drop (List.mem_of_mem_take hd))
  obtain⟨u2,hu2⟩:∃u2,us[i+(n+2)]? = some u2:=⟨_,List.getElem?_eq_getElem (by omega)⟩
  obtain⟨u1,Zr⟩:∃u1,us[i+(n+1)]? = some u1:=⟨_,List.getElem?_eq_getElem (by omega)⟩
  obtain⟨u0,hu0⟩:∃u0,us[i+n]? = some u0:=⟨_,List.getElem?_eq_getElem (by omega)⟩
  have G:tI 4294967296 gJ vs n u2 u1 u0 v1 v0:=⟨by decide,TR,Ev,Rm,Dg,by rw[sK _ (by omega)];exact hu2,by rw[sK _ (by omega)];exact Zr,by rw[sK _ (by omega)];exact hu0,f1,f0,jB,hsW⟩
  have lu2:=G.acU
  have lu1:=G.Ws
  have lv1:=G.S5
  have qlt:=G.abA
  have FA:=G.FA
  have agB:nR (.ref 1 0 0 (n+2) (n+3)) (H3 us ws os)=some (VI ((n+2:Nat):Int)):=dR akF
  have w1:IntKind.i64.wrap ((i:Int)+((n+2:Nat):Int))=((i+(n+2):Nat):Int):=by rw[←Int.natCast_add];exact wrapN _ rfl (by omega)
  have w2:IntKind.i64.wrap (((i+(n+2):Nat):Int)-1)=((i+(n+1):Nat):Int):=wrapN _ (by omega) (by omega)
  have e2:bJ 1 (.ref 0 0 0 N N) (VI ((i+(n+2):Nat):Int)) (H3 us ws os)=some (.ptr 0 0 (i+(n+2)) 0):=by rw[aP A8 (by omega),Nat.zero_add]
  have e1:bJ 1 (.ref 0 0 0 N N) (VI ((i+(n+1):Nat):Int)) (H3 us ws os)=some (.ptr 0 0 (i+(n+1)) 0):=by rw[aP A8 (by omega),Nat.zero_add]
  have l2:cQ false 1 (.ptr 0 0 (i+(n+2)) 0) (H3 us ws os)=some (uV u2):=gT A8 hu2
  have l1:cQ false 1 (.ptr 0 0 (i+(n+1)) 0) (H3 us ws os)=some (uV u1):=gT A8 Zr
  have wu2:IntKind.u64.wrap (u2:Int)=(u2:Int):=dQ _ (by omega)
  have wu1:IntKind.u64.wrap (u1:Int)=(u1:Int):=dQ _ (by omega)
  have ws2:=Cz u2 .u64 lu2
  have wa:IntKind.u64.wrap (((u2*4294967296:Nat):Int)+(u1:Int))=((u2*4294967296+u1:Nat):Int):=by rw[←Int.natCast_add];exact dQ _ (by omega)
  have q1:=Tb (u2*4294967296+u1) v1 (by omega) jB
  have q2:=MD (u2*4294967296+u1) v1 jB
  simp only[lT,k8,k9,VZ,Th,G2,zZ,A6,hz,agB,w1,w2,e1,e2,l1,l2,wu1,wu2,ws2,wa,q1,q2,VX,Nat.reduceEqDiff,Nat.reduceAdd]
  have hh:=Nat.mod_add_div (u2*4294967296+u1) v1
  have hml:=Nat.mod_lt (u2*4294967296+u1) jB
  have hdl:(u2*4294967296+u1) / v1≤u2*4294967296+u1:=Nat.div_le_self _ _
  have NP:val 4294967296 gJ / val 4294967296 vs≤(u2*4294967296+u1) / v1:=by
   have t1:=(B8 (n:=n+1) (xs:=gJ) TR (by omega) (by rw[sK _ (by omega)];exact hu2) (by rw[sK _ (by omega)];exact Zr)).2
   have t2:=(xD (n:=n+1) Ev Dg f1).1
   rw[Nat.le_div_iff_mul_le jB]
   have t3:val 4294967296 gJ / val 4294967296 vs*(v1*4294967296^(n+1))≤val 4294967296 gJ / val 4294967296 vs*val 4294967296 vs:=Nat.mul_le_mul_left _ t2
   have t4:=Nat.div_mul_le_self (val 4294967296 gJ) (val 4294967296 vs)
   have t5:val 4294967296 gJ / val 4294967296 vs*v1*4294967296^(n+1)<(u2*4294967296+u1+1)*4294967296^(n+1):=by rw[Nat.mul_assoc];omega
   have:=Nat.lt_of_mul_lt_mul_right t5
   omega
  refine Sj (k:=i+(n+2)) G NK (by omega) (by omega) Ce (by rw[show i+(n+2)-2=i+n by omega];exact hu0) k9 Th G2 (by rfl) (by rfl) (by rfl) (by rw[Nat.mul_comm ((u2*4294967296+u1) / v1)];omega) NP (by omega) (by omega) ?_
  intro QR g' hq KF hgW r17 r8 r9 r10 r11 r12 r13 r14 r15
  have Pm:QR 15=VI ((i+(n+2):Nat):Int):=r15
  have r8':QR 8=VI s:=r8.trans k8
  have r9':QR 9 = .ref 0 0 0 N N:=r9.trans k9
  have agL:QR 10 = .ref 1 0 0 (n+2) (n+3):=r10.trans VZ
  have ahB:QR 11=VK .u64 v1:=r11.trans Th
  have Pc:QR 12=VK .u64 v0:=r12.trans G2
  have OX:QR 13 = .ref 2 0 0 m m:=r13.trans zZ
  have OU:QR 14=VI i:=r14.trans A6
  have w3:IntKind.i64.wrap (((i+(n+2):Nat):Int)+1)=((i+(n+3):Nat):Int):=wrapN _ (by omega) (by omega)
  have Yg:CW 1 (.ref 0 0 0 N N) (some (VI i)) (some (VI ((i+(n+3):Nat):Int))) none (H3 us ws os)=some (.ref 0 0 i (n+3) (N-i)):=by
   rw[Xx A8 (by omega) (by omega),Nat.zero_add,Nat.add_sub_cancel_left]
  simp only[r8',r9',agL,ahB,Pc,OX,OU,Pm,r17,w3,Yg,VX,Nat.reduceEqDiff,Nat.reduceAdd]
  have oW:g'*val 4294967296 vs≤val 4294967296 gJ+val 4294967296 vs:=by
   have:=Nat.mul_le_mul_right (val 4294967296 vs) KF
   rw[Nat.add_mul,Nat.one_mul] at this
   have:=Nat.div_mul_le_self (val 4294967296 gJ) (val 4294967296 vs)
   omega
  refine dL rfl ((RM (pre:=us.take i) (gJ:=gJ) (post:=us.drop (i+(n+2+1))) (L:=n+3) (o:=i) (by rw[←RY];exact A8) (akF (us:=us) (ws:=ws) (os:=os)) (by decide) (Nat.zero_le _) wS Rm (by omega) hws (by omega) (by omega) TR Ev hgW oW).mono ?_)
  rintro r H' ⟨oV,rfl,A7,Zg,hr⟩
  generalize abL:us.take i++oV++us.drop (i+(n+2+1))=DM at *
  have FT:(H3 us ws os).set 0 (.row 0 (DM.map uV) 1 true)=H3 DM ws os:=rfl
  rw[FT]
  have adW:DM.length=N:=by rw[←abL,List.length_append,List.length_append,wS,A7,List.length_drop];omega
  have abK:∀d∈DM,d<4294967296:=fun d hd=>by
   rw[←abL,List.mem_append,List.mem_append] at hd
   rcases hd with(hd | hd) | hd
   ·exact GM d (List.mem_of_mem_take hd)
   ·exact Zg d hd
   ·exact GM d (List.mem_of_mem_drop hd)
  have R5:DM.drop i=oV++us.drop (i+(n+2+1)):=by rw[←abL,List.append_assoc,List.drop_append,List.drop_of_length_le (by omega),wS];simp
  have QV:DM.take i=us.take i:=by rw[←abL,List.append_assoc,List.take_append_of_le_length (by omega),List.take_of_length_le (by omega)]
  have PY:val 4294967296 (DM.drop i)=val 4294967296 oV:=by rw[R5,vV,XT,Nat.mul_zero,Nat.add_zero]
  have digit:∀q:Nat,q=val 4294967296 gJ / val 4294967296 vs→val 4294967296 oV=val 4294967296 gJ % val 4294967296 vs →
    val 4294967296 (DM.drop i)<val 4294967296 vs∧val 4294967296 DM+4294967296^i*val 4294967296 vs*val 4294967296 ((os.set i q).drop i)=A:=by
   rintro q Qt Zk
   have Z6:=Nat.mod_lt (val 4294967296 gJ) FA
   refine⟨by rw[PY,Zk];exact Z6,?_⟩
   have h1:=Nat.div_add_mod (val 4294967296 gJ) (val 4294967296 vs)
   rw[←Qt,←Zk,Nat.mul_comm] at h1
   have h2:=nL (b:=4294967296) us i
   have h3:=nL (b:=4294967296) DM i
   rw[QV,wS,PY] at h3
   rw[wS,Xt] at h2
   rw[set_drop (by omega),pV,h3]
   rw[h2,Nat.pow_succ] at hv
   exact IY h1.symm hv
  have e3:∀d:Nat,bJ 1 (.ref 2 0 0 m m) (VI i) (H3 DM ws os)=some (.ptr 2 0 i 0)∧bX 0 1 (.ptr 2 0 i 0) (uV d) (H3 DM ws os)=some (H3 DM ws (os.set i d)):=fun d=>by
   refine⟨by rw[aP Z4 (by omega),Nat.zero_add],?_⟩
   rw[dF (f:=uV) (e:=1) Z4 (by omega) (Nat.zero_le _) rfl rfl]
   rfl
  have wi:IntKind.i64.wrap ((i:Int)-1)=(i:Int)-1:=wrap64 (by omega) (by omega)
  rcases hr with⟨rfl,hr⟩ | ⟨rfl,Wc,hr2⟩
  ·have Cb:g'*val 4294967296 vs≤val 4294967296 gJ:=by omega
   have Qt:g'=val 4294967296 gJ / val 4294967296 vs:=by
    have:=(Nat.le_div_iff_mul_le FA).2 Cb
    omega
   have Zk:val 4294967296 oV=val 4294967296 gJ % val 4294967296 vs:=by
    have h1:=Nat.div_add_mod (val 4294967296 gJ) (val 4294967296 vs)
    rw[←Qt,Nat.mul_comm] at h1
    omega
   obtain⟨d1,d2⟩:=digit g' Qt Zk
   simp only[r8',r9',agL,ahB,Pc,OX,OU,Pm,r17,(e3 g').1,(e3 g').2,wi,wrap32,Nat.mod_eq_of_lt hgW,VX,Nat.reduceEqDiff,Nat.reduceAdd]
   exact⟨(i,DM,os.set i g'),by simp only;omega,by omega,rfl,adW,abK,by rw[List.length_set];exact jE,mJ mQ hgW,d1,d2,by (repeat' apply And.intro)<;>first | rfl | trivial⟩
  ·have Zc:val 4294967296 gJ / val 4294967296 vs<g':=(Nat.div_lt_iff_lt_mul FA).2 Wc
   have hg1:1≤g':=Nat.lt_of_le_of_lt (Nat.zero_le _) Zc
   obtain⟨q,rfl⟩:∃q,g'=q+1:=⟨g'-1,by omega⟩
   have Qt:q=val 4294967296 gJ / val 4294967296 vs:=by omega
   have Zk:val 4294967296 oV=val 4294967296 gJ % val 4294967296 vs:=by
    have h1:=Nat.div_add_mod (val 4294967296 gJ) (val 4294967296 vs)
    rw[←Qt,Nat.mul_comm] at h1
    rw[Nat.add_mul,Nat.one_mul] at hr2
    omega
   have wq:IntKind.u64.wrap (((q+1:Nat):Int)-1)=(q:Int):=by rw[show ((q+1:Nat):Int)-1=(q:Int) by omega];exact dQ _ (by omega)
   obtain⟨d1,d2⟩:=digit q Qt Zk
   simp only[r8',r9',agL,ahB,Pc,OX,OU,Pm,r17,wq,(e3 q).1,(e3 q).2,wi,wrap32,Nat.mod_eq_of_lt (show q<4294967296 by omega),VX,Nat.reduceEqDiff,Nat.reduceAdd]
   exact⟨(i,DM,os.set i q),by simp only;omega,by omega,rfl,adW,abK,by rw[List.length_set];exact jE,mJ mQ (by omega),d1,d2,by (repeat' apply And.intro)<;>first | rfl | trivial⟩
 ·have R9:j=0:=by omega
  subst R9
  rw[List.drop_zero] at aU
  rw[Nat.pow_zero,Nat.one_mul,List.drop_zero] at hv
  simp only[lT,k8,k9,VZ,Th,G2,zZ,A6,hz,VX,Nat.reduceEqDiff,Nat.reduceAdd]
  exact hQ _ us os k8 k9 zZ NK GM jE mQ hv aU
end Go.PM
namespace Go.PM
theorem Iy {a n:Nat} (hn:(aC 4294967296 a).length=n+1):∃d,(aC 4294967296 a)[n]? = some d∧d≠0∧d<4294967296:=by
 obtain⟨d,hd⟩:∃d,(aC 4294967296 a)[n]? = some d:=⟨_,List.getElem?_eq_getElem (by omega)⟩
 refine⟨d,hd,fun h0 => ?_,gL (by decide) a d (List.mem_of_getElem? hd)⟩
 have:=L4 (b:=4294967296) (by decide) a
 rw[List.getLast?_eq_getElem?,hn,Nat.add_sub_cancel,hd,h0] at this
 exact this rfl
theorem Yj {a d:Nat} (h:aC 4294967296 a=[d]):a=d∧0<d∧d<4294967296:=by
 have h1:=cO (b:=4294967296) (by decide) a
 rw[h,val_one] at h1
 obtain⟨e,h2,h3,h4⟩:=Iy (a:=a) (n:=0) (by rw[h];rfl)
 rw[h] at h2
 cases h2
 exact⟨h1.symm,by omega,h4⟩
theorem J2 (a b:Nat) (hb:b≠0) (ha:(aC 4294967296 a).length≤17592186044416) (wQ:(aC 4294967296 b).length≤17592186044416):TC 173 [bY a,bY b] (.dS [bY (a / b),bY (a % b)]):=by
 refine TC.walk ⟨true,false⟩ F8 rfl (Nat.le_of_ble_eq_true rfl) (by simp[aM,bQ]) (by simp[gA,oS,qF]) ?_
 have c1:=wO a b ha wQ
 by_cases Io:lF a b<0
 ·have aU:a<b:=by
   unfold lF at Io
   split at Io
   ·assumption
   ·split at Io<;>omega
  simp only[qS,nI,c1,Io,VX,Nat.reduceEqDiff,Nat.reduceAdd]
  rw[Nat.div_eq_of_lt aU,Nat.mod_eq_of_lt aU]
  exact bK (d:=6) xP (aH (bQ a))
 have Cb:b≤a:=by
  unfold lF at Io
  split at Io
  ·omega
  ·omega
 have hbn:(aC 4294967296 b).length≠0:=fun h=>hb ((kD (b:=4294967296) (by decide)).1 (List.length_eq_zero_iff.1 h))
 by_cases h1:(((aC 4294967296 b).length:Nat):Int)=1
 ·obtain⟨d,hd⟩:∃d,aC 4294967296 b=[d]:=by
   match hx:aC 4294967296 b with
   | []=>rw[hx] at hbn;exact absurd rfl hbn
   | [d]=>exact⟨d,rfl⟩
   | _::_::_=>rw[hx] at h1;simp at h1;omega
  obtain⟨rfl,BQ,hdW⟩:=Yj hd
  have c2:=tK a b BQ hdW ha
  have e0:nR (bY b) []=some (VI 1):=by rw[bY,Bd,fI,hd];rfl
  have e1:bJ 1 (bY b) (VI 0) []=some (.dA (uV b) 0):=by
   rw[bY,hd]
   exact aJ (f:=uV) (t := .op) (H:=[]) (size:=1) (k := .i64) (xs:=[b]) (i:=0) rfl rfl
  have e2:=fY (H:=[]) (z:=[.int .u32 0]) (v:=uV (a % b)) rfl rfl rfl
  have e3:=Yw (size:=1) (v:=Value.int .u32 ((b:Nat):Int))
  simp only[qS,nI,c1,Io,e0,e1,c2,e2,VX,Nat.reduceEqDiff,Nat.reduceAdd]
  refine Ka (ds:=[a % b]) (t := .cl 1) (fun d hd => ?_) (by show 1≤70368744177664;decide) (val_one _) fun t' ht => ?_
  ·rw[List.mem_singleton] at hd
   subst hd
   exact Nat.lt_of_lt_of_le (Nat.mod_lt _ BQ) (Nat.le_of_lt hdW)
  ·simp only[VX,Nat.reduceEqDiff,Nat.reduceAdd]
   exact bK (d:=6) (aH (bQ _)) (Xv (d:=5) ht)
 obtain⟨n,hn⟩:∃n,(aC 4294967296 b).length=n+2:=⟨(aC 4294967296 b).length-2,by omega⟩
 obtain⟨t,ht,ht0,htW⟩:=Iy (a:=b) (n:=n+1) hn
 obtain⟨s,hs,cl,W2⟩:=Rw ht0 htW
 have hS:0<2^s:=Nat.pow_pos (by decide)
 have hSW:2^s*2^(32-s)=4294967296:=by rw[←Nat.pow_add,show s+(32-s)=32 by omega]
 have hla:=fG (b:=4294967296) (by decide) Cb
 have e0:nR (bY b) []=some (VI ((n+2:Nat):Int)):=by rw[bY,Bd,fI,hn]
 have w0:IntKind.i64.wrap (((n+2:Nat):Int)-1)=((n+1:Nat):Int):=wrapN _ (by omega) (by omega)
 have UO:¬(((n+2:Nat):Int)=1):=by omega
 have e1:bJ 1 (bY b) (VI ((n+1:Nat):Int)) []=some (.dA (uV t) 0):=aJ (f:=uV) (t := .op) (H:=[]) (size:=1) (k := .i64) ht rfl
 simp only[qS,nI,c1,Io,e0,UO,w0,e1,cl,VX,Nat.reduceEqDiff,Nat.reduceAdd]
 have fa:[bY a,VI (s:Int)].mapM (fz depth ([]:aA))=some [bY a,VI (s:Int)]:=fz2 (aI (bQ a)) (aI rfl)
 refine FC.call (uZ a s hs ha) rfl fa ?_
 rintro r L ⟨FG,rfl,rfl,hAl,hAd,hAv,hAt⟩
 simp only[VX,Nat.reduceEqDiff,Nat.reduceAdd]
 have fb:∀H:aA,[bY b,VI (s:Int)].mapM (fz depth H)=some [bY b,VI (s:Int)]:=fun H=>fz2 (aI (bQ b)) (aI rfl)
 refine FC.call (uZ b s hs wQ) rfl (fb _) ?_
 rintro r L ⟨CS,rfl,rfl,hBl,hBd,hBv,hBt⟩
 rw[hn] at hBl
 simp only[hn,List.length_singleton,VX,Nat.reduceEqDiff,Nat.reduceAdd]
 have aeB:b*2^s<4294967296^(n+2):=by
  have h2:=(xD (n:=n+1) (gL (b:=4294967296) (by decide) b) hn ht).2
  rw[cO (by decide)] at h2
  have h3:b*2^s<(t+1)*4294967296^(n+1)*2^s:=Nat.mul_lt_mul_of_pos_right h2 hS
  have h4:(t+1)*4294967296^(n+1)*2^s=(t+1)*2^s*4294967296^(n+1):=by grind
  have h5:(t+1)*2^s≤4294967296:=by
   have h6:t*2^s<2^(32-s)*2^s:=by rw[Nat.mul_comm (2^(32-s)),hSW];exact W2
   have h7:=Nat.lt_of_mul_lt_mul_right h6
   have h8:(t+1)*2^s≤2^(32-s)*2^s:=Nat.mul_le_mul_right _ h7
   rwa [Nat.mul_comm (2^(32-s)),hSW] at h8
  have h9:(t+1)*2^s*4294967296^(n+1)≤4294967296*4294967296^(n+1):=Nat.mul_le_mul_right _ h5
  have h10:4294967296*4294967296^(n+1)=4294967296^(n+2):=by rw[Nat.pow_succ 4294967296 (n+1)];exact Nat.mul_comm _ _
  omega
 have hVl:(aC 4294967296 (b*2^s)).length=n+2:=by
  have h2:=mT (b:=4294967296) (by decide) aeB
  have h3:b≤b*2^s:=Nat.le_mul_of_pos_right b hS
  have h4:=fG (b:=4294967296) (by decide) h3
  omega
 refine rQ (rows:=CS) (m:=b*2^s) (by rfl) (by omega) (by omega) (by omega) (fun d hd=>hBd d (List.mem_of_mem_take hd)) (by rw[List.take_of_length_le (by omega)];exact hBv) fun k hk he => ?_
 have ZE:k=n+2:=by
  have:=congrArg List.length he
  rw[hVl,List.length_take] at this
  omega
 subst ZE
 generalize NL:aC 4294967296 (b*2^s)=vs at *
 have Ev:∀d∈vs,d<4294967296:=by rw[←NL];exact gL (by decide) _
 have Q0:val 4294967296 vs=b*2^s:=by rw[←NL];exact cO (by decide) _
 obtain⟨v1,f1⟩:∃v1,vs[n+1]? = some v1:=⟨_,List.getElem?_eq_getElem (by omega)⟩
 obtain⟨v0,f0⟩:∃v0,vs[n]? = some v0:=⟨_,List.getElem?_eq_getElem (by omega)⟩
 have hv1:1≤v1:=by
  obtain⟨d,hd,BQ,_⟩:=Iy (a:=b*2^s) (n:=n+1) (by rw[NL];exact hVl)
  rw[NL,f1] at hd
  cases hd
  omega
 have b1:CS[n+1]? = some v1:=by rw[←f1,←he,List.getElem?_take_of_lt (by omega)]
 have b0:CS[n]? = some v0:=by rw[←f0,←he,List.getElem?_take_of_lt (by omega)]
 have lv1:=Ev v1 (List.mem_of_getElem? f1)
 have lv0:=Ev v0 (List.mem_of_getElem? f0)
 have x1:bJ 1 (.ref 1 0 0 (n+2) (n+2+1)) (VI ((n+1:Nat):Int)) [.row 0 (FG.map uV) 1 true,.row 0 (CS.map uV) 1 true]=some (.ptr 1 0 (n+1) 0):=by rw[aP (by rfl) (by omega),Nat.zero_add]
 have x0:bJ 1 (.ref 1 0 0 (n+2) (n+2+1)) (VI ((n:Nat):Int)) [.row 0 (FG.map uV) 1 true,.row 0 (CS.map uV) 1 true]=some (.ptr 1 0 n 0):=by rw[aP (by rfl) (by omega),Nat.zero_add]
 have y1:cQ false 1 (.ptr 1 0 (n+1) 0) [.row 0 (FG.map uV) 1 true,.row 0 (CS.map uV) 1 true]=some (uV v1):=gT (rows:=CS) (g:=0) (w:=true) (by rfl) b1
 have y0:cQ false 1 (.ptr 1 0 n 0) [.row 0 (FG.map uV) 1 true,.row 0 (CS.map uV) 1 true]=some (uV v0):=gT (rows:=CS) (g:=0) (w:=true) (by rfl) b0
 have z0:nR (.ref 1 0 0 (n+2) (n+2+1)) [.row 0 (FG.map uV) 1 true,.row 0 (CS.map uV) 1 true]=some (VI ((n+2:Nat):Int)):=dR (r:=(CS.map uV,1,true)) (by rfl)
 have z1:nR (.ref 0 0 0 ((aC 4294967296 a).length+1) ((aC 4294967296 a).length+1)) [.row 0 (FG.map uV) 1 true,.row 0 (CS.map uV) 1 true]=some (VI (((aC 4294967296 a).length+1:Nat):Int)):=dR (r:=(FG.map uV,1,true)) (by rfl)
 have w2:IntKind.i64.wrap (((n+2:Nat):Int)-2)=((n:Nat):Int):=wrapN _ (by omega) (by omega)
 have wv1:IntKind.u64.wrap (v1:Int)=(v1:Int):=dQ _ (by omega)
 have wv0:IntKind.u64.wrap (v0:Int)=(v0:Int):=dQ _ (by omega)
 obtain⟨m,hm⟩:∃m,m+(n+2)=(aC 4294967296 a).length+1:=⟨(aC 4294967296 a).length+1-(n+2),by omega⟩
 have wm:IntKind.i64.wrap ((((aC 4294967296 a).length+1:Nat):Int)-((n+2:Nat):Int))=(m:Int):=wrapN _ (by omega) (by omega)
 have wm1:IntKind.i64.wrap ((m:Int)-1)=(m:Int)-1:=wrap64 (by omega) (by omega)
 have mk:=SX m 0 (by omega) (H:=[.row 0 (FG.map uV) 1 true,.row 0 (CS.map uV) 1 true])
 have z2:nR (.ref 2 0 0 m m) (H3 FG CS (List.replicate m 0))=some (VI m):=dR (r:=((List.replicate m 0).map uV,1,true)) (by rfl)
 simp only[w0,x1,x0,y1,y0,z0,z1,w2,wv1,wv0,wm,mk,z2,wm1,List.length_cons,List.length_nil,VX,Nat.reduceEqDiff,Nat.reduceAdd]
 have AS:val 4294967296 (FG.drop m)<val 4294967296 vs:=by
  obtain⟨d,hd⟩:∃d,FG[(aC 4294967296 a).length]? = some d:=⟨_,List.getElem?_eq_getElem (by omega)⟩
  have h2:=(xD (b:=4294967296) (xs:=FG.drop m) (n:=n+1) (t:=d) (fun x hx=>hAd x (List.mem_of_mem_drop hx)) (by rw[List.length_drop];omega) (by rw[List.getElem?_drop,show m+(n+1)=(aC 4294967296 a).length by omega];exact hd)).2
  have h3:=hAt d hd
  have h4:=(xD (n:=n+1) (gL (b:=4294967296) (by decide) b) hn ht).1
  rw[cO (by decide)] at h4
  have h5:(d+1)*4294967296^(n+1)≤2^s*4294967296^(n+1):=Nat.mul_le_mul_right _ h3
  have h6:1*4294967296^(n+1)≤t*4294967296^(n+1):=Nat.mul_le_mul_right _ (by omega)
  have h7:1*4294967296^(n+1)*2^s≤b*2^s:=Nat.mul_le_mul_right _ (by omega)
  rw[Q0]
  rw[Nat.one_mul,Nat.mul_comm] at h7
  omega
 refine Wi (CT:=FG) (ws:=CS) (We:=List.replicate m 0) (vs:=vs) (N:=(aC 4294967296 a).length+1) (m:=m) (n:=n) (A:=a*2^s) (s:=s) hAl hm (by omega) hAd he hBl hVl Ev f1 f0 hv1 hAv AS (by simp) (Bh (by decide) _) (by rfl) (by rfl) (by rfl) (by rfl) (by rfl) (by rfl) (by rfl) ?_
 intro uA us os r8 r9 r13 NK GM jE mQ hv aU
 rw[Q0] at hv aU
 have hq:val 4294967296 os=a / b:=by
  rw[←Nat.mul_div_mul_right a b hS,←hv,Nat.add_mul_div_left _ _ (by omega),Nat.div_eq_of_lt aU,Nat.zero_add]
 have hr:val 4294967296 us=a % b*2^s:=by
  rw[←Nat.mul_mod_mul_right,←hv,Nat.add_mul_mod_self_left,Nat.mod_eq_of_lt aU]
 simp only[r9,VX,Nat.reduceEqDiff,Nat.reduceAdd]
 refine rQ (rows:=us) (m:=a % b*2^s) A8 (by omega) (Nat.le_refl _) (by omega) (fun d hd=>GM d (List.mem_of_mem_take hd)) (by rw[List.take_of_length_le (by omega)];exact hr) fun k hk he2 => ?_
 have z3:nR (.ref 0 0 0 k ((aC 4294967296 a).length+1)) (H3 us CS os)=some (VI k):=dR A8
 simp only[z3,VX,Nat.reduceEqDiff,Nat.reduceAdd]
 refine UY (us:=us) (k:=k) (N:=(aC 4294967296 a).length+1) (s:=s) (w0:=2^(32-s)) hs hSW NK hk (by omega) GM r8 (by rfl) (by rfl) (by rfl) ?_
 intro Nd DM q9 q13 adW abK VP
 have aqG:Nd 13 = .ref 2 0 0 m m:=q13.trans r13
 have B0:val 4294967296 (DM.take k)=a % b:=by
  rw[VP,he2,cO (by decide),Nat.mul_div_cancel _ hS]
 simp only[q9,aqG,VX,Nat.reduceEqDiff,Nat.reduceAdd]
 refine rQ (rows:=os) (m:=a / b) Z4 (by omega) (Nat.le_refl _) (by omega) (fun d hd=>mQ d (List.mem_of_mem_take hd)) (by rw[List.take_of_length_le (by omega)];exact hq) fun k2 ZE he3 => ?_
 simp only[q9,VX,Nat.reduceEqDiff,Nat.reduceAdd]
 refine rQ (rows:=DM) (m:=a % b) A8 (by omega) hk (by omega) (fun d hd=>abK d (List.mem_of_mem_take hd)) B0 fun k3 hk3 he4 => ?_
 simp only[VX,Nat.reduceEqDiff,Nat.reduceAdd]
 exact bK (d:=6) (Ib (d:=5) Z4 (by omega) ZE he3) (Ib (d:=5) A8 (by omega) (by omega) he4)
end Go.PM