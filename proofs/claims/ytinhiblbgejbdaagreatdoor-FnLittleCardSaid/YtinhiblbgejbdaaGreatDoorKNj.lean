/- Texts of a claim, in one: part 10. -/
import Derived.Test.YtinhiblbgejbdaaGreatDoorKNi
set_option linter.unusedSimpArgs false
set_option linter.unusedVariables false
namespace Go.PM
theorem HV {a n:Nat} (hn:(aG 4294967296 a).length=n+1):∃d,(aG 4294967296 a)[n]? = some d∧d≠0∧d<4294967296:=by
 obtain⟨d,hd⟩:∃d,(aG 4294967296 a)[n]? = some d:=⟨_,List.getElem?_eq_getElem (by omega)⟩
 refine⟨d,hd,fun h0 => ?_,gV (by decide) a d (List.mem_of_getElem? hd)⟩
 have:=Jq (b:=4294967296) (by decide) a
 rw[List.getLast?_eq_getElem?,hn,Nat.add_sub_cancel,hd,h0] at this
 exact this rfl
theorem Nj {a d:Nat} (h:aG 4294967296 a=[d]):a=d∧0<d∧d<4294967296:=by
 have h1:=cF (b:=4294967296) (by decide) a
 rw[h,val_one] at h1
 obtain⟨e,h2,h3,h4⟩:=HV (a:=a) (n:=0) (by rw[h];rfl)
 rw[h] at h2
 cases h2
 exact⟨h1.symm,by omega,h4⟩
theorem tS (a b:Nat) (hb:b≠0) (ha:(aG 4294967296 a).length≤17592186044416) (oY:(aG 4294967296 b).length≤17592186044416):TC 107 [cT a,cT b] (.eX [cT (a / b),cT (a % b)]):=by
 refine TC.walk ⟨true,false⟩ E8 rfl (Nat.le_of_ble_eq_true rfl) (by simp[aO,dB]) (by simp[iZ,pV,xD]) ?_
 have c1:=HJ a b ha oY
 by_cases Hy:lJ a b<0
 ·have aR:a<b:=by
   unfold lJ at Hy
   split at Hy
   ·assumption
   ·split at Hy<;>omega
  simp only[pF,lW,c1,Hy,VX,Nat.reduceEqDiff,Nat.reduceAdd]
  rw[Nat.div_eq_of_lt aR,Nat.mod_eq_of_lt aR]
  exact dC (d:=6) GF (aQ (dB a))
 have vZ:b≤a:=by
  unfold lJ at Hy
  split at Hy
  ·omega
  ·omega
 have hbn:(aG 4294967296 b).length≠0:=fun h=>hb ((lD (b:=4294967296) (by decide)).1 (List.length_eq_zero_iff.1 h))
 by_cases h1:(((aG 4294967296 b).length:Nat):Int)=1
 ·obtain⟨d,hd⟩:∃d,aG 4294967296 b=[d]:=by
   match hx:aG 4294967296 b with
   | []=>rw[hx] at hbn;exact absurd rfl hbn
   | [d]=>exact⟨d,rfl⟩
   | _::_::_=>rw[hx] at h1;simp at h1;omega
  obtain⟨rfl,Ar,hdW⟩:=Nj hd
  have c2:=rO a b Ar hdW ha
  have e0:lY (cT b) []=some (VI 1):=by rw[cT,Lt,dS,hd];rfl
  have e1:aZ 1 (cT b) (VI 0) []=some (.cD (uV b) 0):=by
   rw[cT,hd]
   exact aL (f:=uV) (t := .op) (H:=[]) (size:=1) (k := .i64) (xs:=[b]) (i:=0) rfl rfl
  have e2:=lH (H:=[]) (z:=[.int .u32 0]) (v:=uV (a % b)) rfl rfl rfl
  have e3:=V7 (size:=1) (v:=Value.int .u32 ((b:Nat):Int))
  simp only[pF,lW,c1,Hy,e0,e1,c2,e2,VX,Nat.reduceEqDiff,Nat.reduceAdd]
  refine Hg (ds:=[a % b]) (t := .cl 1) (fun d hd => ?_) (by show 1≤70368744177664;decide) (val_one _) fun t' ht => ?_
  ·rw[List.mem_singleton] at hd
   subst hd
   exact Nat.lt_of_lt_of_le (Nat.mod_lt _ Ar) (Nat.le_of_lt hdW)
  ·simp only[VX,Nat.reduceEqDiff,Nat.reduceAdd]
   exact dC (d:=6) (aQ (dB _)) (WT (d:=5) ht)
 obtain⟨n,hn⟩:∃n,(aG 4294967296 b).length=n+2:=⟨(aG 4294967296 b).length-2,by omega⟩
 obtain⟨t,ht,ht0,htW⟩:=HV (a:=b) (n:=n+1) hn
 obtain⟨s,hs,cl,aeT⟩:=P7 ht0 htW
 have hS:0<2^s:=Nat.pow_pos (by decide)
 have hSW:2^s*2^(32-s)=4294967296:=by rw[←Nat.pow_add,show s+(32-s)=32 by omega]
 have hla:=eW (b:=4294967296) (by decide) vZ
 have e0:lY (cT b) []=some (VI ((n+2:Nat):Int)):=by rw[cT,Lt,dS,hn]
 have w0:IntKind.i64.wrap (((n+2:Nat):Int)-1)=((n+1:Nat):Int):=wrapN _ (by omega) (by omega)
 have Pp:¬(((n+2:Nat):Int)=1):=by omega
 have e1:aZ 1 (cT b) (VI ((n+1:Nat):Int)) []=some (.cD (uV t) 0):=aL (f:=uV) (t := .op) (H:=[]) (size:=1) (k := .i64) ht rfl
 simp only[pF,lW,c1,Hy,e0,Pp,w0,e1,cl,VX,Nat.reduceEqDiff,Nat.reduceAdd]
 have fa:[cT a,VI (s:Int)].mapM (fz depth ([]:aC))=some [cT a,VI (s:Int)]:=XL (aI (dB a)) (aI rfl)
 refine FC.call (tC a s hs ha) rfl fa ?_
 rintro r L ⟨Ez,rfl,rfl,hAl,hAd,hAv,hAt⟩
 simp only[VX,Nat.reduceEqDiff,Nat.reduceAdd]
 have fb:∀H:aC,[cT b,VI (s:Int)].mapM (fz depth H)=some [cT b,VI (s:Int)]:=fun H=>XL (aI (dB b)) (aI rfl)
 refine FC.call (tC b s hs oY) rfl (fb _) ?_
 rintro r L ⟨BV,rfl,rfl,hBl,hBd,hBv,hBt⟩
 rw[hn] at hBl
 simp only[hn,List.length_singleton,VX,Nat.reduceEqDiff,Nat.reduceAdd]
 have abW:b*2^s<4294967296^(n+2):=by
  have h2:=(uQ (n:=n+1) (gV (b:=4294967296) (by decide) b) hn ht).2
  rw[cF (by decide)] at h2
  have h3:b*2^s<(t+1)*4294967296^(n+1)*2^s:=Nat.mul_lt_mul_of_pos_right h2 hS
  have h4:(t+1)*4294967296^(n+1)*2^s=(t+1)*2^s*4294967296^(n+1):=by grind
  have h5:(t+1)*2^s≤4294967296:=by
   have h6:t*2^s<2^(32-s)*2^s:=by rw[Nat.mul_comm (2^(32-s)),hSW];exact aeT
   have h7:=Nat.lt_of_mul_lt_mul_right h6
   have h8:(t+1)*2^s≤2^(32-s)*2^s:=Nat.mul_le_mul_right _ h7
   rwa [Nat.mul_comm (2^(32-s)),hSW] at h8
  have h9:(t+1)*2^s*4294967296^(n+1)≤4294967296*4294967296^(n+1):=Nat.mul_le_mul_right _ h5
  have tZ:4294967296*4294967296^(n+1)=4294967296^(n+2):=by rw[Nat.pow_succ 4294967296 (n+1)];exact Nat.mul_comm _ _
  omega
 have Zr:(aG 4294967296 (b*2^s)).length=n+2:=by
  have h2:=kZ (b:=4294967296) (by decide) abW
  have h3:b≤b*2^s:=Nat.le_mul_of_pos_right b hS
  have h4:=eW (b:=4294967296) (by decide) h3
  omega
 refine xM (rows:=BV) (m:=b*2^s) (by rfl) (by omega) (by omega) (by omega) (fun d hd=>hBd d (List.mem_of_mem_take hd)) (by rw[List.take_of_length_le (by omega)];exact hBv) fun k hk he => ?_
 have U2:k=n+2:=by
  have:=congrArg List.length he
  rw[Zr,List.length_take] at this
  omega
 subst U2
 generalize Mb:aG 4294967296 (b*2^s)=vs at *
 have DP:∀d∈vs,d<4294967296:=by rw[←Mb];exact gV (by decide) _
 have Nx:val 4294967296 vs=b*2^s:=by rw[←Mb];exact cF (by decide) _
 obtain⟨v1,f1⟩:∃v1,vs[n+1]? = some v1:=⟨_,List.getElem?_eq_getElem (by omega)⟩
 obtain⟨v0,f0⟩:∃v0,vs[n]? = some v0:=⟨_,List.getElem?_eq_getElem (by omega)⟩
 have Zo:1≤v1:=by
  obtain⟨d,hd,Ar,_⟩:=HV (a:=b*2^s) (n:=n+1) (by rw[Mb];exact Zr)
  rw[Mb,f1] at hd
  cases hd
  omega
 have b1:BV[n+1]? = some v1:=by rw[←f1,←he,List.getElem?_take_of_lt (by omega)]
 have b0:BV[n]? = some v0:=by rw[←f0,←he,List.getElem?_take_of_lt (by omega)]
 have lv1:=DP v1 (List.mem_of_getElem? f1)
 have lv0:=DP v0 (List.mem_of_getElem? f0)
 have x1:aZ 1 (.ref 1 0 0 (n+2) (n+2+1)) (VI ((n+1:Nat):Int)) [.row 0 (Ez.map uV) 1 true,.row 0 (BV.map uV) 1 true]=some (.ptr 1 0 (n+1) 0):=by rw[bD (by rfl) (by omega),Nat.zero_add]
 have x0:aZ 1 (.ref 1 0 0 (n+2) (n+2+1)) (VI ((n:Nat):Int)) [.row 0 (Ez.map uV) 1 true,.row 0 (BV.map uV) 1 true]=some (.ptr 1 0 n 0):=by rw[bD (by rfl) (by omega),Nat.zero_add]
 have y1:eZ false 1 (.ptr 1 0 (n+1) 0) [.row 0 (Ez.map uV) 1 true,.row 0 (BV.map uV) 1 true]=some (uV v1):=iA (rows:=BV) (g:=0) (w:=true) (by rfl) b1
 have y0:eZ false 1 (.ptr 1 0 n 0) [.row 0 (Ez.map uV) 1 true,.row 0 (BV.map uV) 1 true]=some (uV v0):=iA (rows:=BV) (g:=0) (w:=true) (by rfl) b0
 have z0:lY (.ref 1 0 0 (n+2) (n+2+1)) [.row 0 (Ez.map uV) 1 true,.row 0 (BV.map uV) 1 true]=some (VI ((n+2:Nat):Int)):=dI (r:=(BV.map uV,1,true)) (by rfl)
 have z1:lY (.ref 0 0 0 ((aG 4294967296 a).length+1) ((aG 4294967296 a).length+1)) [.row 0 (Ez.map uV) 1 true,.row 0 (BV.map uV) 1 true]=some (VI (((aG 4294967296 a).length+1:Nat):Int)):=dI (r:=(Ez.map uV,1,true)) (by rfl)
 have w2:IntKind.i64.wrap (((n+2:Nat):Int)-2)=((n:Nat):Int):=wrapN _ (by omega) (by omega)
 have wv1:IntKind.u64.wrap (v1:Int)=(v1:Int):=fF _ (by omega)
 have wv0:IntKind.u64.wrap (v0:Int)=(v0:Int):=fF _ (by omega)
 obtain⟨m,hm⟩:∃m,m+(n+2)=(aG 4294967296 a).length+1:=⟨(aG 4294967296 a).length+1-(n+2),by omega⟩
 have wm:IntKind.i64.wrap ((((aG 4294967296 a).length+1:Nat):Int)-((n+2:Nat):Int))=(m:Int):=wrapN _ (by omega) (by omega)
 have wm1:IntKind.i64.wrap ((m:Int)-1)=(m:Int)-1:=wrap64 (by omega) (by omega)
 have mk:=Qf m 0 (by omega) (H:=[.row 0 (Ez.map uV) 1 true,.row 0 (BV.map uV) 1 true])
 have z2:lY (.ref 2 0 0 m m) (H3 Ez BV (List.replicate m 0))=some (VI m):=dI (r:=((List.replicate m 0).map uV,1,true)) (by rfl)
 simp only[w0,x1,x0,y1,y0,z0,z1,w2,wv1,wv0,wm,mk,z2,wm1,List.length_cons,List.length_nil,VX,Nat.reduceEqDiff,Nat.reduceAdd]
 have zV:val 4294967296 (Ez.drop m)<val 4294967296 vs:=by
  obtain⟨d,hd⟩:∃d,Ez[(aG 4294967296 a).length]? = some d:=⟨_,List.getElem?_eq_getElem (by omega)⟩
  have h2:=(uQ (b:=4294967296) (xs:=Ez.drop m) (n:=n+1) (t:=d) (fun x hx=>hAd x (List.mem_of_mem_drop hx)) (by rw[List.length_drop];omega) (by rw[List.getElem?_drop,show m+(n+1)=(aG 4294967296 a).length by omega];exact hd)).2
  have h3:=hAt d hd
  have h4:=(uQ (n:=n+1) (gV (b:=4294967296) (by decide) b) hn ht).1
  rw[cF (by decide)] at h4
  have h5:(d+1)*4294967296^(n+1)≤2^s*4294967296^(n+1):=Nat.mul_le_mul_right _ h3
  have h6:1*4294967296^(n+1)≤t*4294967296^(n+1):=Nat.mul_le_mul_right _ (by omega)
  have h7:1*4294967296^(n+1)*2^s≤b*2^s:=Nat.mul_le_mul_right _ (by omega)
  rw[Nx]
  rw[Nat.one_mul,Nat.mul_comm] at h7
  omega
 refine WU (BN:=Ez) (ws:=BV) (TQ:=List.replicate m 0) (vs:=vs) (N:=(aG 4294967296 a).length+1) (m:=m) (n:=n) (A:=a*2^s) (s:=s) hAl hm (by omega) hAd he hBl Zr DP f1 f0 Zo hAv zV (by simp) (CJ (by decide) _) (by rfl) (by rfl) (by rfl) (by rfl) (by rfl) (by rfl) (by rfl) ?_
 intro yA us os r8 r9 XM Kp FP kB oA hv aR
 rw[Nx] at hv aR
 have hq:val 4294967296 os=a / b:=by
  rw[←Nat.mul_div_mul_right a b hS,←hv,Nat.add_mul_div_left _ _ (by omega),Nat.div_eq_of_lt aR,Nat.zero_add]
 have hr:val 4294967296 us=a % b*2^s:=by
  rw[←Nat.mul_mod_mul_right,←hv,Nat.add_mul_mod_self_left,Nat.mod_eq_of_lt aR]
 simp only[r9,VX,Nat.reduceEqDiff,Nat.reduceAdd]
 refine xM (rows:=us) (m:=a % b*2^s) Ag (by omega) (Nat.le_refl _) (by omega) (fun d hd=>FP d (List.mem_of_mem_take hd)) (by rw[List.take_of_length_le (by omega)];exact hr) fun k hk he2 => ?_
 have z3:lY (.ref 0 0 0 k ((aG 4294967296 a).length+1)) (H3 us BV os)=some (VI k):=dI Ag
 simp only[z3,VX,Nat.reduceEqDiff,Nat.reduceAdd]
 refine TE (us:=us) (k:=k) (N:=(aG 4294967296 a).length+1) (s:=s) (w0:=2^(32-s)) hs hSW Kp hk (by omega) FP r8 (by rfl) (by rfl) (by rfl) ?_
 intro Km Eo q9 q13 abJ XU hv'
 have amZ:Km 13 = .ref 2 0 0 m m:=q13.trans XM
 have Av:val 4294967296 (Eo.take k)=a % b:=by
  rw[hv',he2,cF (by decide),Nat.mul_div_cancel _ hS]
 simp only[q9,amZ,VX,Nat.reduceEqDiff,Nat.reduceAdd]
 refine xM (rows:=os) (m:=a / b) YX (by omega) (Nat.le_refl _) (by omega) (fun d hd=>oA d (List.mem_of_mem_take hd)) (by rw[List.take_of_length_le (by omega)];exact hq) fun k2 U2 he3 => ?_
 simp only[q9,VX,Nat.reduceEqDiff,Nat.reduceAdd]
 refine xM (rows:=Eo) (m:=a % b) Ag (by omega) hk (by omega) (fun d hd=>XU d (List.mem_of_mem_take hd)) Av fun k3 hk3 he4 => ?_
 simp only[VX,Nat.reduceEqDiff,Nat.reduceAdd]
 exact dC (d:=6) (KO (d:=5) YX (by omega) U2 he3) (KO (d:=5) Ag (by omega) (by omega) he4)
end Go.PM
namespace Go.PM
abbrev H2 (us os:List Nat):aC:=[.row 0 (us.map tV) 1 true,.row 0 (os.map tV) 1 true]
theorem OM {us os:List Nat}:aM (H2 us os) 0 0=some (us.map tV,1,true):=rfl
theorem ahX {us os:List Nat}:aM (H2 us os) 1 0=some (os.map tV,1,true):=rfl
theorem XS {P a Z:Nat} {y:Int} (h:(a:Int)+(P:Int)*y=(Z:Int)) (ha:a<P) (hZ:Z<P):y=0∧a=Z:=by
 have hy:y=0:=by
  rcases Int.lt_trichotomy y 0 with h1 | h1 | h1
  ·have:(P:Int)*y≤(P:Int)*(-1):=Int.mul_le_mul_of_nonneg_left (by omega) (by omega)
   omega
  ·exact h1
  ·have:(P:Int)*1≤(P:Int)*y:=Int.mul_le_mul_of_nonneg_left (by omega) (by omega)
   omega
 subst hy
 rw[Int.mul_zero] at h
 exact⟨rfl,by omega⟩
theorem OS {us:List Nat} {i n N V:Nat} (hN:us.length=N) (cX:i+n<N) (hd:∀d∈us,d<1000000000) (hV:V<1000000000^n) (zV:val 1000000000 (us.drop (i+1))<V) :
  us=us.take i++(us.drop i).take (n+1)++us.drop (i+(n+1))∧(us.take i).length=i∧((us.drop i).take (n+1)).length=n+1∧val 1000000000 ((us.drop i).take (n+1))<1000000000*V∧val 1000000000 (us.drop i)=val 1000000000 ((us.drop i).take (n+1))∧val 1000000000 (us.drop (i+(n+1)))=0∧∀j,j<n+1→((us.drop i).take (n+1))[j]? = us[i+j]? := by
 obtain⟨x,hx⟩:∃x,us[i]? = some x:=⟨_,List.getElem?_eq_getElem (by omega)⟩
 have lx:=hd x (List.mem_of_getElem? hx)
 have h1:=oS (b:=1000000000) hx
 have h2:val 1000000000 (us.drop i)<1000000000*V:=by
  have:1000000000*(val 1000000000 (us.drop (i+1))+1)≤1000000000*V:=Nat.mul_le_mul_left _ zV
  omega
 have h3:=mA (b:=1000000000) (us.drop i) (n+1)
 have h4:((us.drop i).take (n+1)).length=n+1:=by rw[List.length_take,List.length_drop];omega
 rw[h4,List.drop_drop] at h3
 have h5:val 1000000000 (us.drop (i+(n+1)))=0:=by
  rcases Nat.eq_zero_or_pos (val 1000000000 (us.drop (i+(n+1)))) with h | h
  ·exact h
  ·have h6:1000000000^(n+1)*1≤1000000000^(n+1)*val 1000000000 (us.drop (i+(n+1))):=Nat.mul_le_mul_left _ h
   have h7:1000000000*V≤1000000000^(n+1):=by rw[Nat.pow_succ,Nat.mul_comm];exact Nat.mul_le_mul_right _ (by omega)
   omega
 rw[h5,Nat.mul_zero,Nat.add_zero] at h3
 refine⟨?_,by rw[List.length_take];omega,h4,by omega,h3,h5,fun j hj => ?_⟩
 ·rw[List.append_assoc,←List.drop_drop,List.take_append_drop,List.take_append_drop]
 ·rw[List.getElem?_take_of_lt hj,List.getElem?_drop]
theorem leT {g:Nat} (h:(1000000000:Int)≤(g:Int)):1000000000≤g:=by omega
theorem Vw {g:Nat} (h:¬(1000000000:Int)≤(g:Int)):g<1000000000:=by omega
theorem ltC {a b:Nat} (h:(a:Int)<(b:Int)):a<b:=by omega
theorem amF {a b:Nat} (h:¬(a:Int)<(b:Int)):b≤a:=by omega
theorem JL {a:Nat} (h:a*1000000000≤9223372036854775807):IntKind.i64.wrap ((a:Int)*1000000000)=((a*1000000000:Nat):Int):=wrapN _ (by omega) h
theorem JB {a b:Nat} (h:a+b≤9223372036854775807):IntKind.i64.wrap ((a:Int)+(b:Int))=((a+b:Nat):Int):=wrapN _ (by omega) h
theorem SW {a b:Nat} (h:a*b≤9223372036854775807):IntKind.i64.wrap ((a:Int)*(b:Int))=((a*b:Nat):Int):=wrapN _ (by simp) h
theorem x17 {a:Nat} (h:a<1000000000):a*1000000000≤9223372036854775807:=by omega
theorem x18 {a b:Nat} (h:a<1000000000) (hb:b<1000000000):a*1000000000+b≤1000000000000000000:=by omega
theorem Oy {fV vs us os:List Nat} {n u2 u1 u0 v1 v0 N i g left:Nat} (G:rS 1000000000 fV vs n u2 u1 u0 v1 v0) {ρ:cN} {Q:VQ} (hN:us.length=N) (hiN:i+(n+2)<N) (Aq:N≤70368744177664) (Yk:us[i+n]? = some u0)
  (g13:ρ 13 = .ref 0 0 0 N N) (g14:ρ 14=fY vs) (g15:ρ 15=VI ((n+2:Nat):Int)) (g17:ρ 17=VI i) (g19:ρ 19=VI g) (g20:ρ 20=VI left) (hh:u2*1000000000+u1=g*v1+left) (hq:val 1000000000 fV / val 1000000000 vs≤g) (hl:left<1000000000) (Yh:g≤1000000000000000000)
  (hQ:∀(aP:cN) (g':Nat),val 1000000000 fV / val 1000000000 vs≤g'→g'≤val 1000000000 fV / val 1000000000 vs+1→g'<1000000000→aP 19=VI g'→aP 12=ρ 12→aP 13=ρ 13→aP 14=ρ 14→aP 15=ρ 15→aP 16=ρ 16→aP 17=ρ 17→Q (.exit 2) aP (H2 us os)) :
  VW ⟨true,false⟩ 0 (.loop fD) Q ρ (H2 us os):=by
 have lv1:=G.Qz
 have lv0:=G.V6
 have lu0:=G.ZC
 have qlt:=G.Yg
 have fL:=G.pos
 have D9:=G.Hr
 refine bJ (fun(t:Nat×Nat) aP H=>H=H2 us os∧u2*1000000000+u1=t.1*v1+t.2∧val 1000000000 fV / val 1000000000 vs≤t.1∧t.2<1000000000∧t.1≤1000000000000000000 ∧
  aP 13 = .ref 0 0 0 N N∧aP 14=fY vs∧aP 15=VI ((n+2:Nat):Int)∧aP 17=VI i∧aP 19=VI t.1∧aP 20=VI t.2∧aP 12=ρ 12∧aP 16=ρ 16) (fun t=>1000000000-t.2) (g,left) ⟨rfl,hh,hq,hl,Yh,g13,g14,g15,g17,g19,g20,rfl,rfl⟩ ?_
 rintro⟨g,left⟩ Km H ⟨rfl,hh,hq,hl,Yh,xU,Ac,GX,G1,k19,k20,FL,Xm⟩
 simp only at hh hq hl Yh k19 k20
 have f1:aZ 1 (fY vs) (VI ((n+1:Nat):Int)) (H2 us os)=some (.cD (tV v1) 0):=aL (f:=tV) (t := .op) (size:=1) (k := .i64) G.f1 rfl
 have f0:aZ 1 (fY vs) (VI (n:Int)) (H2 us os)=some (.cD (tV v0) 0):=aL (f:=tV) (t := .op) (size:=1) (k := .i64) G.f0 rfl
 have wn2:IntKind.i64.wrap (((n+2:Nat):Int)-2)=(n:Int):=wrapN _ (by omega) (by omega)
 have Z0:IntKind.i64.wrap (((n+2:Nat):Int)-1)=((n+1:Nat):Int):=wrapN _ (by omega) (by omega)
 have wi:IntKind.i64.wrap ((i:Int)+((n+2:Nat):Int))=((i+(n+2):Nat):Int):=wrapN _ (by omega) (by omega)
 have wi2:IntKind.i64.wrap (((i+(n+2):Nat):Int)-2)=((i+n:Nat):Int):=wrapN _ (by omega) (by omega)
 have e1:aZ 1 (.ref 0 0 0 N N) (VI ((i+n:Nat):Int)) (H2 us os)=some (.ptr 0 0 (i+n) 0):=by rw[bD OM (by omega),Nat.zero_add]
 have e2:eZ false 1 (.ptr 0 0 (i+n) 0) (H2 us os)=some (VI (u0:Int)):=HW OM Yk
 have wl:IntKind.i64.wrap ((left:Int)+(v1:Int))=((left+v1:Nat):Int):=wrapN _ (by omega) (by omega)
 have down:val 1000000000 fV / val 1000000000 vs<g→∃g',g=g'+1∧IntKind.i64.wrap ((g:Int)-1)=(g':Int)∧u2*1000000000+u1=g'*v1+(left+v1)∧val 1000000000 fV / val 1000000000 vs≤g':=by
  intro h
  have Z2:1≤g:=Nat.lt_of_le_of_lt (Nat.zero_le _) h
  obtain⟨g',rfl⟩:∃g',g=g'+1:=⟨g-1,by omega⟩
  refine⟨g',rfl,wrapN _ (by omega) (by omega),?_,by omega⟩
  rw[hh,Nat.add_mul]
  omega
 have hmu:∀g':Nat,left+v1<1000000000→1000000000-(g',left+v1).2<1000000000-(g,left).2:=fun g' h=>by
  show 1000000000-(left+v1)<1000000000-left
  omega
 have hle:∀g':Nat,g=g'+1→g'≤1000000000000000000:=fun g' h=>by
  omega
 have anD:left*1000000000+u0≤9223372036854775807:=Nat.le_trans (x18 hl lu0) (by decide)
 have ajQ:left*1000000000≤9223372036854775807:=x17 hl
 have ws:IntKind.i64.wrap ((left:Int)*1000000000)=((left*1000000000:Nat):Int):=JL ajQ
 have wa:IntKind.i64.wrap (((left*1000000000:Nat):Int)+(u0:Int))=((left*1000000000+u0:Nat):Int):=JB anD
 obtain⟨s13,s14,Z6,s17⟩:Km 13=ρ 13∧Km 14=ρ 14∧Km 15=ρ 15∧Km 17=ρ 17:=⟨by rw[xU,g13],by rw[Ac,g14],by rw[GX,g15],by rw[G1,g17]⟩
 by_cases hA:(1000000000:Int)≤(g:Int)
 ·have Xo:=leT hA
  obtain⟨g',hg',wg,PX,I9⟩:=down (Nat.lt_of_lt_of_le qlt Xo)
  by_cases hB:(1000000000:Int)≤((left+v1:Nat):Int)
  ·obtain⟨c1,c2⟩:=G.broken PX (leT hB)
   simp only[fD,xU,Ac,GX,G1,k19,k20,hA,hB,f1,Z0,wg,wl,VX,Nat.reduceEqDiff,Nat.reduceAdd]
   exact hQ _ g' I9 (G.Tk PX (Nat.le_of_lt c1) c2) c1 rfl FL s13 s14 Z6 Xm s17
  ·simp only[fD,xU,Ac,GX,G1,k19,k20,hA,hB,f1,Z0,wg,wl,VX,Nat.reduceEqDiff,Nat.reduceAdd]
   refine⟨(g',left+v1),hmu g' (Vw hB),PX,I9,Vw hB,hle g' hg',?_⟩
   exact⟨rfl,rfl,FL,Xm⟩
 ·have Xo:=Vw hA
  have hgv:g*v0≤999999999*999999999:=Nat.mul_le_mul (Nat.le_of_lt_succ Xo) (Nat.le_of_lt_succ lv0)
  have wm:IntKind.i64.wrap ((g:Int)*(v0:Int))=((g*v0:Nat):Int):=SW (Nat.le_trans hgv (by decide))
  by_cases hT:((left*1000000000+u0:Nat):Int)<((g*v0:Nat):Int)
  ·obtain⟨g',hg',wg,PX,I9⟩:=down (G.too hh (ltC hT))
   by_cases hB:(1000000000:Int)≤((left+v1:Nat):Int)
   ·obtain⟨c1,c2⟩:=G.broken PX (leT hB)
    simp only[fD,xU,Ac,GX,G1,k19,k20,hA,hB,hT,f1,f0,e1,e2,Z0,wn2,wi,wi2,ws,wa,wm,wg,wl,VX,Nat.reduceEqDiff,Nat.reduceAdd]
    exact hQ _ g' I9 (G.Tk PX (Nat.le_of_lt c1) c2) c1 rfl FL s13 s14 Z6 Xm s17
   ·simp only[fD,xU,Ac,GX,G1,k19,k20,hA,hB,hT,f1,f0,e1,e2,Z0,wn2,wi,wi2,ws,wa,wm,wg,wl,VX,Nat.reduceEqDiff,Nat.reduceAdd]
    refine⟨(g',left+v1),hmu g' (Vw hB),PX,I9,Vw hB,hle g' hg',?_⟩
    exact⟨rfl,rfl,FL,Xm⟩
  ·simp only[fD,xU,Ac,GX,G1,k19,k20,hA,hT,f0,e1,e2,wn2,wi,wi2,ws,wa,wm,VX,Nat.reduceEqDiff,Nat.reduceAdd]
   exact hQ _ g hq (G.Tk hh (Nat.le_of_lt Xo) (amF hT)) Xo k19 FL s13 s14 Z6 Xm s17
theorem Jx {BN TQ vs:List Nat} {N m n v1 v0 A s:Nat} {ρ:cN} {Q:VQ} (hN:BN.length=N) (hm:m+(n+2)=N) (Aq:N≤70368744177664) (FP:∀d∈BN,d<1000000000) (D9:vs.length=n+2) (DP:∀d∈vs,d<1000000000) (f1:vs[n+1]? = some v1) (f0:vs[n]? = some v0) (fL:1≤v1)
  (hA:val 1000000000 BN=A) (zV:val 1000000000 (BN.drop m)<val 1000000000 vs) (kB:TQ.length=m) (oA:∀d∈TQ,d<1000000000)
  (g12:ρ 12=VI s) (g13:ρ 13 = .ref 0 0 0 N N) (g14:ρ 14=fY vs) (g15:ρ 15=VI ((n+2:Nat):Int)) (g16:ρ 16 = .ref 1 0 0 m m) (g17:ρ 17=VI ((m:Int)-1))
  (hQ:∀(aP:cN) (us os:List Nat),aP 12=VI s→aP 13 = .ref 0 0 0 N N→aP 16 = .ref 1 0 0 m m→us.length=N→(∀d∈us,d<1000000000)→os.length=m→(∀d∈os,d<1000000000)→val 1000000000 us+val 1000000000 vs*val 1000000000 os=A→val 1000000000 us<val 1000000000 vs→Q (.exit 0) aP (H2 us os)) :
  VW ⟨true,false⟩ 0 (.loop gE) Q ρ (H2 BN TQ):=by
 have hVb:=nR DP
 rw[D9] at hVb
 refine bJ (fun(t:Nat×List Nat×List Nat) aP H=>t.1≤m∧H=H2 t.2.1 t.2.2∧t.2.1.length=N∧(∀d∈t.2.1,d<1000000000)∧t.2.2.length=m∧(∀d∈t.2.2,d<1000000000)∧val 1000000000 (t.2.1.drop t.1)<val 1000000000 vs∧val 1000000000 t.2.1+1000000000^t.1*val 1000000000 vs*val 1000000000 (t.2.2.drop t.1)=A ∧
  aP 12=VI s∧aP 13 = .ref 0 0 0 N N∧aP 14=fY vs∧aP 15=VI ((n+2:Nat):Int)∧aP 16 = .ref 1 0 0 m m∧aP 17=VI ((t.1:Int)-1)) (fun t=>t.1) (m,BN,TQ) ⟨Nat.le_refl _,rfl,hN,FP,kB,oA,zV,by rw[List.drop_of_length_le (by simp only;omega)];simpa[val] using hA,g12,g13,g14,g15,g16,g17⟩ ?_
 rintro⟨j,us,os⟩ Km H ⟨hj,rfl,Kp,FP,kB,oA,aR,hv,FL,xU,Ac,GX,Xm,G1⟩
 simp only at hj Kp FP kB oA aR hv G1
 by_cases hz:(0:Int)≤(j:Int)-1
 ·obtain⟨i,rfl⟩:∃i,j=i+1:=⟨j-1,by omega⟩
  have GH:((i+1:Nat):Int)-1=(i:Int):=by omega
  rw[GH] at G1 hz
  obtain⟨PY,Al,I0,hsW,Wj,Vu,uB⟩:=OS (n:=n+2) Kp (by omega) FP hVb aR
  generalize S6:(us.drop i).take (n+2+1)=fV at *
  have OJ:∀d∈fV,d<1000000000:=fun d hd=>by rw[←S6] at hd;exact FP d (List.mem_of_mem_drop (List.mem_of_mem_take hd))
  obtain⟨u2,ZL⟩:∃u2,us[i+(n+2)]? = some u2:=⟨_,List.getElem?_eq_getElem (by omega)⟩
  obtain⟨u1,Xv⟩:∃u1,us[i+(n+1)]? = some u1:=⟨_,List.getElem?_eq_getElem (by omega)⟩
  obtain⟨u0,Yk⟩:∃u0,us[i+n]? = some u0:=⟨_,List.getElem?_eq_getElem (by omega)⟩
  have G:rS 1000000000 fV vs n u2 u1 u0 v1 v0:=⟨by decide,OJ,DP,I0,D9,by rw[uB _ (by omega)];exact ZL,by rw[uB _ (by omega)];exact Xv,by rw[uB _ (by omega)];exact Yk,f1,f0,fL,hsW⟩
  have lu2:=G.Zg
  have lu1:=G.U4
  have lv1:=G.Qz
  have qlt:=G.Yg
  have EG:=G.EG
  have w1:IntKind.i64.wrap ((i:Int)+((n+2:Nat):Int))=((i+(n+2):Nat):Int):=wrapN _ (by omega) (by omega)
  have w2:IntKind.i64.wrap (((i+(n+2):Nat):Int)-1)=((i+(n+1):Nat):Int):=wrapN _ (by omega) (by omega)
  have Z0:IntKind.i64.wrap (((n+2:Nat):Int)-1)=((n+1:Nat):Int):=wrapN _ (by omega) (by omega)
  have ev1:aZ 1 (fY vs) (VI ((n+1:Nat):Int)) (H2 us os)=some (.cD (tV v1) 0):=aL (f:=tV) (t := .op) (size:=1) (k := .i64) f1 rfl
  have e2:aZ 1 (.ref 0 0 0 N N) (VI ((i+(n+2):Nat):Int)) (H2 us os)=some (.ptr 0 0 (i+(n+2)) 0):=by rw[bD OM (by omega),Nat.zero_add]
  have e1:aZ 1 (.ref 0 0 0 N N) (VI ((i+(n+1):Nat):Int)) (H2 us os)=some (.ptr 0 0 (i+(n+1)) 0):=by rw[bD OM (by omega),Nat.zero_add]
  have l2:eZ false 1 (.ptr 0 0 (i+(n+2)) 0) (H2 us os)=some (VI (u2:Int)):=HW OM ZL
  have l1:eZ false 1 (.ptr 0 0 (i+(n+1)) 0) (H2 us os)=some (VI (u1:Int)):=HW OM Xv
  have ajU:u2*1000000000+u1≤1000000000000000000:=x18 lu2 lu1
  have akP:u2*1000000000≤9223372036854775807:=x17 lu2
  have aiA:u2*1000000000+u1≤9223372036854775807:=Nat.le_trans ajU (by decide)
  have ws2:IntKind.i64.wrap ((u2:Int)*1000000000)=((u2*1000000000:Nat):Int):=JL akP
  have wa:IntKind.i64.wrap (((u2*1000000000:Nat):Int)+(u1:Int))=((u2*1000000000+u1:Nat):Int):=JB aiA
  have q1:=GU (u2*1000000000+u1) v1 aiA fL
  have q2:=Hn (u2*1000000000+u1) v1 fL
  simp only[gE,FL,xU,Ac,GX,Xm,G1,hz,w1,w2,Z0,ev1,e1,e2,l1,l2,ws2,wa,q1,q2,VX,Nat.reduceEqDiff,Nat.reduceAdd]
  clear ws2 wa q1 q2 e1 e2 l1 l2 ev1 w1 w2 Z0
  have hh:=Nat.mod_add_div (u2*1000000000+u1) v1
  have TO:=Nat.mod_lt (u2*1000000000+u1) fL
  have hdl:(u2*1000000000+u1) / v1≤u2*1000000000+u1:=Nat.div_le_self _ _
  have Na:val 1000000000 fV / val 1000000000 vs≤(u2*1000000000+u1) / v1:=by
   have t1:=(A3 (n:=n+1) (xs:=fV) OJ (by omega) (by rw[uB _ (by omega)];exact ZL) (by rw[uB _ (by omega)];exact Xv)).2
   have t2:=(uQ (n:=n+1) DP D9 f1).1
   rw[Nat.le_div_iff_mul_le fL]
   have t3:val 1000000000 fV / val 1000000000 vs*(v1*1000000000^(n+1))≤val 1000000000 fV / val 1000000000 vs*val 1000000000 vs:=Nat.mul_le_mul_left _ t2
   have t4:=Nat.div_mul_le_self (val 1000000000 fV) (val 1000000000 vs)
   have t5:val 1000000000 fV / val 1000000000 vs*v1*1000000000^(n+1)<(u2*1000000000+u1+1)*1000000000^(n+1):=by rw[Nat.mul_assoc];omega
   have:=Nat.lt_of_mul_lt_mul_right t5
   omega
  generalize hQ1:(u2*1000000000+u1) / v1=g0 at *
  generalize hQ2:(u2*1000000000+u1) % v1=l0 at *
  refine Oy (i:=i) G Kp (by omega) Aq Yk xU Ac GX G1 (by rfl) (by rfl) (by rw[Nat.mul_comm g0];omega) Na (by omega) (by omega) ?_
  intro OI g' hq I9 hgW r19 ZI XM r14 r15 r16 r17
  have MD:OI 12=VI s:=ZI.trans FL
  have Mk:OI 13 = .ref 0 0 0 N N:=XM.trans xU
  have M6:OI 14=fY vs:=r14.trans Ac
  have Mj:OI 15=VI ((n+2:Nat):Int):=r15.trans GX
  have YT:OI 16 = .ref 1 0 0 m m:=r16.trans Xm
  have XN:OI 17=VI i:=r17.trans G1
  simp only[MD,Mk,M6,Mj,YT,XN,r19,VX,Nat.reduceEqDiff,Nat.reduceAdd]
  have sE:g'*val 1000000000 vs≤val 1000000000 fV+val 1000000000 vs:=by
   have:=Nat.mul_le_mul_right (val 1000000000 vs) I9
   rw[Nat.add_mul,Nat.one_mul] at this
   have:=Nat.div_mul_le_self (val 1000000000 fV) (val 1000000000 vs)
   omega
  obtain⟨low,abX⟩:∃low,low=fV.take (n+2):=⟨_,rfl⟩
  have hll:low.length=n+2:=by rw[abX,List.length_take];omega
  have VY:∀d∈low,d<1000000000:=fun d hd=>OJ d (by rw[abX] at hd;exact List.mem_of_mem_take hd)
  have hsg:fV=low++[u2]:=by
   have h1:fV[n+2]? = some u2:=by rw[uB _ (by omega)];exact ZL
   have h2:=List.take_append_drop (n+2) fV
   have h3:=(List.getElem?_eq_some_iff.1 h1)
   rw[List.drop_eq_getElem_cons h3.1,h3.2,List.drop_of_length_le (by omega),←abX] at h2
   exact h2.symm
  have Mb:val 1000000000 fV=val 1000000000 low+1000000000^(n+2)*u2:=by rw[hsg,qN,hll]
  have EU:∀(lw:List Nat) (t:Nat),(us.take i).map tV++lw.map tV++VI (t:Int)::(us.drop (i+(n+2+1))).map tV=(us.take i++(lw++[t])++us.drop (i+(n+2+1))).map tV:=fun lw t=>by simp
  have hr0:aM (H2 us os) 0 0=some ((us.take i).map tV++low.map tV++VI (u2:Int)::(us.drop (i+(n+2+1))).map tV,1,true):=by
   rw[EU,←hsg,←PY]
   rfl
  refine cW rfl ((Tn (o:=i) (n:=n+2) hr0 (Nat.zero_le _) (by simpa using Al) hll D9 (by omega) Aq VY DP hgW lu2).mono ?_)
  rintro r H' ⟨xC,c,rfl,AR,YK,hc,hr,hE⟩
  have aqQ:val 1000000000 low<1000000000^(n+2):=by have:=nR VY;rwa [hll] at this
  have anY:val 1000000000 xC<1000000000^(n+2):=by have:=nR YK;rwa [AR] at this
  have rows:∀(lw:List Nat) (t q:Nat),lw.length=n+2→(∀d∈lw,d<1000000000)→t<1000000000→q=val 1000000000 fV / val 1000000000 vs→val 1000000000 lw+1000000000^(n+2)*t=val 1000000000 fV % val 1000000000 vs →
    ((us.take i++(lw++[t])++us.drop (i+(n+2+1))).length=N∧(∀d∈us.take i++(lw++[t])++us.drop (i+(n+2+1)),d<1000000000)∧val 1000000000 ((us.take i++(lw++[t])++us.drop (i+(n+2+1))).drop i)<val 1000000000 vs∧val 1000000000 (us.take i++(lw++[t])++us.drop (i+(n+2+1)))+1000000000^i*val 1000000000 vs*val 1000000000 ((os.set i q).drop i)=A):=by
   intro lw t q hlw amK ht OH Xr
   have Y8:val 1000000000 (lw++[t])=val 1000000000 fV % val 1000000000 vs:=by rw[qN,hlw];exact Xr
   have alU:(lw++[t]).length=n+3:=by rw[List.length_append,hlw];rfl
   have anS:∀d∈lw++[t],d<1000000000:=fun d hd=>by
    rcases List.mem_append.1 hd with h | h
    ·exact amK d h
    ·rw[List.mem_singleton.1 h];exact ht
   generalize lw++[t]=nQ at *
   have XZ:=Nat.mod_lt (val 1000000000 fV) EG
   have PB:(us.take i++nQ++us.drop (i+(n+2+1))).drop i=nQ++us.drop (i+(n+2+1)):=by rw[List.append_assoc,List.drop_append,List.drop_of_length_le (by omega),Al];simp
   have P8:(us.take i++nQ++us.drop (i+(n+2+1))).take i=us.take i:=by rw[List.append_assoc,List.take_append_of_le_length (by omega),List.take_of_length_le (by omega)]
   have NF:val 1000000000 ((us.take i++nQ++us.drop (i+(n+2+1))).drop i)=val 1000000000 nQ:=by rw[PB,tJ,Vu,Nat.mul_zero,Nat.add_zero]
   refine⟨by rw[List.length_append,List.length_append,Al,alU,List.length_drop];omega,fun d hd => ?_,by rw[NF,Y8];exact XZ,?_⟩
   ·rw[List.mem_append,List.mem_append] at hd
    rcases hd with(hd | hd) | hd
    ·exact FP d (List.mem_of_mem_take hd)
    ·exact anS d hd
    ·exact FP d (List.mem_of_mem_drop hd)
   ·have h1:=Nat.div_add_mod (val 1000000000 fV) (val 1000000000 vs)
    rw[←OH,←Y8,Nat.mul_comm] at h1
    have h2:=mA (b:=1000000000) us i
    have h3:=mA (b:=1000000000) (us.take i++nQ++us.drop (i+(n+2+1))) i
    rw[P8,Al,NF] at h3
    rw[Al,Wj] at h2
    rw[set_drop (by omega),oZ,h3]
    rw[h2,Nat.pow_succ] at hv
    exact G3 h1.symm hv
  have e3:∀(Eo:List Nat) (d:Nat),aZ 1 (.ref 1 0 0 m m) (VI i) (H2 Eo os)=some (.ptr 1 0 i 0)∧dE 0 1 (.ptr 1 0 i 0) (VI (d:Int)) (H2 Eo os)=some (H2 Eo (os.set i d)):=fun Eo d=>by
   refine⟨by rw[bD ahX (by omega),Nat.zero_add],?_⟩
   rw[show VI (d:Int)=tV d from rfl,iE (f:=tV) (e:=1) ahX (by omega) (Nat.zero_le _) rfl rfl]
   rfl
  have wi:IntKind.i64.wrap ((i:Int)-1)=(i:Int)-1:=wrap64 (by omega) (by omega)
  have hdm:=Nat.div_add_mod (val 1000000000 fV) (val 1000000000 vs)
  have XZ:=Nat.mod_lt (val 1000000000 fV) EG
  generalize hPP:1000000000^(n+2)=P at *
  by_cases BX:(u2:Int)-(c:Int)<0
  ·
   rw[decide_eq_true BX] at hr
   subst hr
   have hgt:val 1000000000 fV<g'*val 1000000000 vs:=by
    have h1:P*(u2+1)≤P*c:=Nat.mul_le_mul_left _ (by omega)
    rw[Nat.mul_add,Nat.mul_one] at h1
    omega
   have OH:g'=val 1000000000 fV / val 1000000000 vs+1:=by
    rcases Nat.lt_or_ge (val 1000000000 fV / val 1000000000 vs) g' with h | h
    ·omega
    ·have h1:g'*val 1000000000 vs≤val 1000000000 fV / val 1000000000 vs*val 1000000000 vs:=Nat.mul_le_mul_right _ h
     have:=Nat.div_mul_le_self (val 1000000000 fV) (val 1000000000 vs)
     omega
   have Z2:1≤g':=by rw[OH];exact Nat.le_add_left 1 _
   have wg:IntKind.i64.wrap ((g':Int)-1)=((g'-1:Nat):Int):=wrapN _ (by omega) (by omega)
   simp only[MD,Mk,M6,Mj,YT,XN,r19,wg,VX,Nat.reduceEqDiff,Nat.reduceAdd]
   have hr1:aM ((H2 us os).set 0 (.row 0 ((us.take i).map tV++xC.map tV++VI ((u2:Int)-(c:Int))::(us.drop (i+(n+2+1))).map tV) 1 true)) 0 0=some ((us.take i).map tV++xC.map tV++VI ((u2:Int)-(c:Int))::(us.drop (i+(n+2+1))).map tV,1,true):=rfl
   refine cW rfl ((SV (o:=i) (n:=n+2) hr1 (Nat.zero_le _) (by simpa using Al) AR D9 (by omega) Aq YK DP (by omega) (by omega)).mono ?_)
   rintro r H' ⟨P9,c2,rfl,Fs,hd2,Xu,hE2⟩
   rw[hPP] at hE2
   have aaD:val 1000000000 P9<P:=by have:=nR hd2;rwa [Fs,hPP] at this
   obtain⟨hy,hZ⟩:(u2:Int)-(c:Int)+(c2:Int)=0∧val 1000000000 P9=val 1000000000 fV % val 1000000000 vs:=by
    refine XS (P:=P) ?_ aaD (by omega)
    have i1:(P:Int)*((u2:Int)-(c:Int)+(c2:Int))=(P:Int)*u2-(P:Int)*c+(P:Int)*c2:=by rw[Int.mul_add,Int.mul_sub]
    have i2:((P*u2:Nat):Int)=(P:Int)*u2:=by simp
    have i3:((P*c:Nat):Int)=(P:Int)*c:=by simp
    have i4:((P*c2:Nat):Int)=(P:Int)*c2:=by simp
    rw[i1,←i2,←i3,←i4]
    have i5:g'*val 1000000000 vs=val 1000000000 vs*(val 1000000000 fV / val 1000000000 vs)+val 1000000000 vs:=by rw[OH,Nat.add_mul,Nat.one_mul,Nat.mul_comm (val 1000000000 vs)]
    omega
   have Iz:((H2 us os).set 0 (.row 0 ((us.take i).map tV++xC.map tV++VI ((u2:Int)-(c:Int))::(us.drop (i+(n+2+1))).map tV) 1 true)).set 0 (.row 0 ((us.take i).map tV++P9.map tV++VI ((u2:Int)-(c:Int)+(c2:Int))::(us.drop (i+(n+2+1))).map tV) 1 true)=H2 (us.take i++(P9++[0])++us.drop (i+(n+2+1))) os:=by
    rw[hy]
    rw[show (0:Int)=((0:Nat):Int) from rfl,EU]
    rfl
   rw[Iz]
   obtain⟨x1,x2⟩:=e3 (us.take i++(P9++[0])++us.drop (i+(n+2+1))) (g'-1)
   obtain⟨y1,y2,y3,y4⟩:=rows P9 0 (g'-1) Fs hd2 (by decide) (by rw[OH,Nat.add_sub_cancel]) (by rw[Nat.mul_zero,Nat.add_zero];exact hZ)
   simp only[MD,Mk,M6,Mj,YT,XN,x1,x2,wi,VX,Nat.reduceEqDiff,Nat.reduceAdd]
   refine⟨(i,us.take i++(P9++[0])++us.drop (i+(n+2+1)),os.set i (g'-1)),by simp only;omega,by omega,rfl,y1,y2,by rw[List.length_set];exact kB,nS oA (by omega),y3,y4,?_⟩
   try (repeat' apply And.intro)<;>first | rfl | trivial
  ·rw[decide_eq_false BX] at hr
   subst hr
   obtain⟨t',YN⟩:∃t':Nat,(u2:Int)-(c:Int)=(t':Int):=⟨u2-c,by omega⟩
   have hP1:P*u2=P*c+P*t':=by rw[←Nat.mul_add];congr 1;omega
   have vZ:g'*val 1000000000 vs≤val 1000000000 fV:=by omega
   have OH:g'=val 1000000000 fV / val 1000000000 vs:=by
    have:=(Nat.le_div_iff_mul_le EG).2 vZ
    omega
   have Iz:(H2 us os).set 0 (.row 0 ((us.take i).map tV++xC.map tV++VI ((u2:Int)-(c:Int))::(us.drop (i+(n+2+1))).map tV) 1 true)=H2 (us.take i++(xC++[t'])++us.drop (i+(n+2+1))) os:=by
    rw[YN,EU]
    rfl
   rw[Iz]
   obtain⟨x1,x2⟩:=e3 (us.take i++(xC++[t'])++us.drop (i+(n+2+1))) g'
   have Xr:val 1000000000 xC+P*t'=val 1000000000 fV % val 1000000000 vs:=by
    rw[←OH,Nat.mul_comm] at hdm
    omega
   obtain⟨y1,y2,y3,y4⟩:=rows xC t' g' AR YK (by omega) OH Xr
   simp only[MD,Mk,M6,Mj,YT,XN,r19,x1,x2,wi,VX,Nat.reduceEqDiff,Nat.reduceAdd]
   refine⟨(i,us.take i++(xC++[t'])++us.drop (i+(n+2+1)),os.set i g'),by simp only;omega,by omega,rfl,y1,y2,by rw[List.length_set];exact kB,nS oA (by omega),y3,y4,?_⟩
   try (repeat' apply And.intro)<;>first | rfl | trivial
 ·have Qh:j=0:=by omega
  subst Qh
  rw[Nat.pow_zero,Nat.one_mul,List.drop_zero] at hv
  rw[List.drop_zero] at aR
  simp only[gE,FL,xU,Ac,GX,Xm,G1,hz,VX,Nat.reduceEqDiff,Nat.reduceAdd]
  exact hQ _ us os FL xU Xm Kp FP kB oA hv aR
end Go.PM
namespace Go.PM
def bl (n:Nat):Nat:=(aG 2 n).length
theorem Mt (n:Nat):n<2^bl n:=gW (by decide) n
theorem Qg {n k:Nat} (h:n<2^k):bl n≤k:=kZ (by decide) h
theorem Dp {m n:Nat} (h:m≤n):bl m≤bl n:=eW (by decide) h
theorem T7 (m n:Nat):bl (m*n)≤bl m+bl n:=by
 refine Qg ?_
 rw[Nat.pow_add]
 exact Nat.mul_lt_mul'' (Mt m) (Mt n)
theorem YA:bl 0=0:=by simp[bl,bO]
theorem UU:bl 1=1:=by simp[bl,iI (b:=2) (by decide) (n:=1) (by decide),bO]
theorem aaH {n:Nat} (h:n≠0):1≤bl n:=by
 have:=Dp (m:=1) (n:=n) (by omega)
 rwa [UU] at this
theorem Zh (n:Nat):32*(aG 4294967296 n).length≤bl n+31:=by
 by_cases h:n=0
 ·subst h;rw[bO];simp
 ·have h1:=GO (b:=4294967296) (by decide) h
  have h2:=Mt n
  have e:(4294967296:Nat)=2^32:=by decide
  rw[e] at h1 ⊢
  rw[←Nat.pow_mul] at h1
  have h3:2^(32*((aG (2^32) n).length-1))<2^bl n:=by omega
  have h4:=(Nat.pow_lt_pow_iff_right (by decide)).1 h3
  omega
theorem ahK (n:Nat):29*(aG 1000000000 n).length≤bl n+28:=by
 by_cases h:n=0
 ·subst h;rw[bO];simp
 ·have h1:=GO (b:=1000000000) (by decide) h
  have h2:=Mt n
  have h5:(2^29)^((aG 1000000000 n).length-1)≤1000000000^((aG 1000000000 n).length-1):=Nat.pow_le_pow_left (by decide) _
  rw[←Nat.pow_mul] at h5
  have h3:2^(29*((aG 1000000000 n).length-1))<2^bl n:=by omega
  have h4:=(Nat.pow_lt_pow_iff_right (by decide)).1 h3
  omega
def rU (q:Rat):Nat:=max (bl q.num.natAbs) (bl q.den)
theorem E4 {q:Rat}:bl q.num.natAbs≤rU q:=Nat.le_max_left _ _
theorem E3 {q:Rat}:bl q.den≤rU q:=Nat.le_max_right _ _
theorem T8 {q:Rat} {k:Nat} (h1:bl q.num.natAbs≤k) (h2:bl q.den≤k):rU q≤k:=Nat.max_le.2 ⟨h1,h2⟩
theorem HC {n:Int} {d k:Nat} (h1:bl n.natAbs≤k) (h2:bl d≤k) (hk:1≤k):rU (mkRat n d)≤k:=by
 refine T8 ?_ ?_
 ·rw[Rat.num_mkRat]
  split
  ·rw[Int.natAbs_zero,YA];omega
  ·exact Nat.le_trans (Dp (Int.natAbs_ediv_le_natAbs _ _)) h1
 ·rw[Rat.den_mkRat]
  split
  ·rw[UU];exact hk
  ·exact Nat.le_trans (Dp (Nat.div_le_self _ _)) h2
def Cm (neg:Bool) (t:Nat):Int:=if neg then -(t:Int) else t
theorem yS (neg:Bool) (t:Nat):(Cm neg t).natAbs=t:=by cases neg<;>simp[Cm]
theorem Yt {neg:Bool} {t:Nat}:Cm neg t<0↔neg=true∧t≠0:=by cases neg<;>simp[Cm]<;>omega
theorem N8 (neg:Bool):Cm neg 0=0:=by cases neg<;>rfl
theorem YF {neg:Bool} {t g:Nat}:(Cm neg t) / (g:Int)=Cm neg (t / g)∨¬g ∣ t:=by
 by_cases h:g ∣ t
 ·left
  obtain⟨k,rfl⟩:=h
  by_cases hg:g=0
  ·subst hg;simp[N8]
  ·rw[Nat.mul_div_cancel_left _ (by omega)]
   cases neg
   ·simp only[Cm]
    simp only[Bool.false_eq_true,if_false]
    rw[Int.natCast_mul,Int.mul_ediv_cancel_left _ (by omega)]
   ·simp only[Cm,if_true]
    rw[Int.natCast_mul,←Int.mul_neg,Int.mul_ediv_cancel_left _ (by omega)]
 ·exact .inr h
theorem Ps {neg:Bool} {t b:Nat} (hb:b≠0):(mkRat (Cm neg t) b).num=Cm neg (t / Nat.gcd t b):=by
 rw[Rat.num_mkRat,if_neg hb,yS,Nat.gcd_comm]
 rcases YF (neg:=neg) (t:=t) (g:=Nat.gcd t b) with h | h
 ·exact h
 ·exact absurd (Nat.gcd_dvd_left _ _) h
theorem V4 {neg:Bool} {t b:Nat} (hb:b≠0):(mkRat (Cm neg t) b).den=b / Nat.gcd t b:=by
 rw[Rat.den_mkRat,if_neg hb,yS,Nat.gcd_comm]
end Go.PM
namespace Go.PM
theorem Ly {m n:Nat}:lJ m n<0↔m<n:=by
 unfold lJ
 split
 ·omega
 ·split<;>omega
theorem Yb {m n:Nat}:0<lJ m n↔n<m:=by
 unfold lJ
 split
 ·omega
 ·split<;>omega
end Go.PM
namespace Go.PM
theorem Jy {ds:List Nat} {H:aC}:cM 1 (fY ds) H=some (ds.map tV):=by
 have:((ds.map tV).all fun x=>(aB x).length == 1&&(aB x).all cB)=true:=by
  rw[List.all_eq_true]
  intro x hx
  obtain⟨d,_,rfl⟩:=List.mem_map.1 hx
  rfl
 simp only[cM,fY,eU,this,if_true]
theorem Bw (n:Nat) {H:aC}:cM 1 (bY n) H=some ((aG 1000000000 n).map tV):=Jy
theorem Ey {a n:Nat} (hn:(aG 1000000000 a).length=n+1):∃d,(aG 1000000000 a)[n]? = some d∧d≠0∧d<1000000000:=by
 obtain⟨d,hd⟩:∃d,(aG 1000000000 a)[n]? = some d:=⟨_,List.getElem?_eq_getElem (by omega)⟩
 refine⟨d,hd,fun h0 => ?_,gV (by decide) a d (List.mem_of_getElem? hd)⟩
 have:=Jq (b:=1000000000) (by decide) a
 rw[List.getLast?_eq_getElem?,hn,Nat.add_sub_cancel,hd,h0] at this
 exact this rfl
theorem R9 {a d:Nat} (h:aG 1000000000 a=[d]):a=d∧0<d∧d<1000000000:=by
 have h1:=cF (b:=1000000000) (by decide) a
 rw[h,val_one] at h1
 obtain⟨e,h2,h3,h4⟩:=Ey (a:=a) (n:=0) (by rw[h];rfl)
 rw[h] at h2
 cases h2
 exact⟨h1.symm,by omega,h4⟩
theorem aaP {a:Nat} (h:(aG 1000000000 a).length≤2):a<1000000000000000000:=by
 have h1:=gW (b:=1000000000) (by decide) a
 have h2:1000000000^(aG 1000000000 a).length≤1000000000^2:=Nat.pow_le_pow_right (by decide) h
 omega
theorem UL {H:aC} {u v:VV} (hu:aX u=true) (hv:aX v=true):fz depth H (.eX [u,v])=some (.eX [u,v]):=aI (by simp only[aX,aO,hu,hv,Bool.and_self])
theorem afL {X N:Nat} (h:(aG 1000000000 X).length≤N):Fz 0 1 (.ref 0 0 0 N N) (bY X) [.row 0 ((List.replicate N 0).map tV) 1 true]=some (VI ((aG 1000000000 X).length:Int),[.row 0 ((aG 1000000000 X++List.replicate (N-(aG 1000000000 X).length) 0).map tV) 1 true]):=by
 have e:((aG 1000000000 X).map tV).take N=(aG 1000000000 X).map tV:=List.take_of_length_le (by simpa using h)
 simp only[Fz,bY,Jy,bK,e,List.length_map,List.length_replicate,Nat.zero_add]
 rw[if_pos ⟨trivial,Nat.le_refl _,h⟩]
 simp only[bW,List.set_cons_zero,List.take_zero,List.nil_append,Nat.zero_add,List.length_map,List.map_append,List.map_replicate,List.drop_replicate]
theorem Ep (a b:Nat) (hb:b≠0) (ha:(aG 1000000000 a).length<17592186044416) (oY:(aG 1000000000 b).length<17592186044416):TC 112 [bY a,bY b] (.eX [bY (a / b),bY (a % b)]):=by
 refine TC.walk ⟨true,false⟩ Ev rfl (Nat.le_of_ble_eq_true rfl) (by simp[aO,cJ]) (by simp[iZ,pV,oQ]) ?_
 have s1:=zN a (by omega)
 have s2:=zN b (by omega)
 have fin:∀ {H:aC},fz depth H (.eX [bY (a / b),bY (a % b)])=some (.eX [bY (a / b),bY (a % b)]):=UL (cJ _) (cJ _)
 by_cases TN:(aG 1000000000 a).length≤2∧(aG 1000000000 b).length≤2
 ·rw[if_pos TN.1] at s1
  rw[if_pos TN.2] at s2
  have la:=aaP TN.1
  have q1:=GU a b (by omega) (by omega)
  have q2:=Hn a b (by omega)
  have hdl:a / b≤a:=Nat.div_le_self _ _
  have TO:a % b≤a:=Nat.mod_le _ _
  have n1:TC 98 [VI ((a / b:Nat):Int)] (bY (a / b)):=vS ((a / b:Nat):Int) (Int.ofNat_le.2 (show a / b≤9223372036854775807 from Nat.le_trans hdl (by omega)))
  have n2:TC 98 [VI ((a % b:Nat):Int)] (bY (a % b)):=vS ((a % b:Nat):Int) (Int.ofNat_le.2 (show a % b≤9223372036854775807 from Nat.le_trans TO (by omega)))
  simp only[dT,cQ,s1,s2,q1,q2,n1,n2,VX,Nat.reduceEqDiff,Nat.reduceAdd]
  exact fin
 have c1:=vK a b (by omega) (by omega)
 obtain⟨x1,t1,C6⟩:∃(x:Int) (t:Bool),(if (aG 1000000000 a).length≤2 then VV.eX [VI a,VB true] else .eX [VI 0,VB false]) = .eX [VI x,VB t]:=by split<;>exact⟨_,_,rfl⟩
 have Xl:∃(x:Int) (t:Bool),(if (aG 1000000000 b).length≤2 then VV.eX [VI b,VB true] else .eX [VI 0,VB false]) = .eX [VI x,VB t]∧(t1=true→t=false):=by
  by_cases h:(aG 1000000000 b).length≤2
  ·rw[if_pos h]
   refine⟨_,_,rfl,fun ht => ?_⟩
   rw[if_neg (fun h'=>TN ⟨h',h⟩)] at C6
   injection C6 with C6
   injection C6 with _ C6
   injection C6 with C6 _
   injection C6 with C6
   injection C6 with C6
   subst ht
   cases C6
  ·rw[if_neg h]
   exact⟨_,_,rfl,fun _=>rfl⟩
 obtain⟨x2,t2,Xl,ht⟩:=Xl
 rw[C6] at s1
 rw[Xl] at s2
 by_cases Hy:lJ a b<0
 ·have aR:a<b:=Ly.1 Hy
  have e0:∀lr,oU lr [.int .i64 0] 0 [] []=some (.ref 0 0 0 0 0,[.row 0 [] 1 true]):=fun lr=>mW (H:=[]) rfl
  have e1:∀lr,oU lr [.int .i64 0] 0 [] [.row 0 [] 1 true]=some (.ref 1 0 0 0 0,[.row 0 [] 1 true,.row 0 [] 1 true]):=fun lr=>mW (H:=[.row 0 [] 1 true]) rfl
  rw[Nat.div_eq_of_lt aR,Nat.mod_eq_of_lt aR]
  have hz:fz (6+1) [.row 0 [] 1 true,.row 0 [] 1 true] (.ref 0 0 0 0 0)=some (bY 0):=by rw[EC];rfl
  by_cases ha0:a=0
  ·subst ha0
   have ap:dW 0 1 8 (.ref 1 0 0 0 0) ((aG 1000000000 0).map tV) [.row 0 [] 1 true,.row 0 [] 1 true]=some (.ref 1 0 0 0 0,[.row 0 [] 1 true,.row 0 [] 1 true]):=by
    rw[bO];rfl
   have F8:fz (6+1) [.row 0 [] 1 true,.row 0 [] 1 true] (.ref 1 0 0 0 0)=some (bY 0):=by rw[EC];rfl
   cases t1 with
   |
    false =>
    simp only[dT,cQ,s1,s2,c1,Hy,e0,e1,ap,Bw,VX,Nat.reduceEqDiff,Nat.reduceAdd]
    exact dC (d:=6) hz F8
   |
    true =>
    rw[ht rfl] at s2
    simp only[dT,cQ,s1,s2,c1,Hy,e0,e1,ap,Bw,VX,Nat.reduceEqDiff,Nat.reduceAdd]
    exact dC (d:=6) hz F8
  ·have hln:(aG 1000000000 a).length≠0:=fun h=>ha0 ((lD (b:=1000000000) (by decide)).1 (List.length_eq_zero_iff.1 h))
   have ap:dW 0 1 8 (.ref 1 0 0 0 0) ((aG 1000000000 a).map tV) [.row 0 [] 1 true,.row 0 [] 1 true]=some (.ref 1 1 0 (aG 1000000000 a).length (aG 1000000000 a).length,[.row 0 [] 1 true,.row 1 ((aG 1000000000 a).map tV) 1 true]):=by
    have hr:aM [.row 0 [] 1 true,.row 0 [] 1 true] 1 0=some ([],1,true):=rfl
    simp only[dW,hr,List.length_map,Nat.zero_add,List.length_nil,Nat.add_zero]
    rw[if_pos ⟨by decide,by decide⟩,if_pos ⟨trivial,Nat.zero_le _,Nat.le_refl _⟩,if_neg (by omega),if_pos (by omega)]
    simp
   have C0:fz (6+1) [.row 0 [] 1 true,.row 1 ((aG 1000000000 a).map tV) 1 true] (.ref 0 0 0 0 0)=some (bY 0):=by rw[EC];rfl
   have F8:fz (6+1) [.row 0 [] 1 true,.row 1 ((aG 1000000000 a).map tV) 1 true] (.ref 1 1 0 (aG 1000000000 a).length (aG 1000000000 a).length)=some (bY a):=by
    have:aX (.ref 1 1 0 (aG 1000000000 a).length (aG 1000000000 a).length)=false:=rfl
    have hr:aM [.row 0 [] 1 true,.row 1 ((aG 1000000000 a).map tV) 1 true] 1 1=some ((aG 1000000000 a).map tV,1,true):=rfl
    unfold fz
    simp only[this,hr,Bool.false_eq_true,if_false]
    rw[if_pos ⟨by simp,Nat.le_refl _⟩,List.drop_zero,List.take_of_length_le (by simp),mapM_pure (n:=5) (gO fun _=>rfl)]
    rfl
   cases t1 with
   |
    false =>
    simp only[dT,cQ,s1,s2,c1,Hy,e0,e1,ap,Bw,VX,Nat.reduceEqDiff,Nat.reduceAdd]
    exact dC (d:=6) C0 F8
   |
    true =>
    rw[ht rfl] at s2
    simp only[dT,cQ,s1,s2,c1,Hy,e0,e1,ap,Bw,VX,Nat.reduceEqDiff,Nat.reduceAdd]
    exact dC (d:=6) C0 F8
 have vZ:b≤a:=by have := @Ly a b;omega
 have hbn:(aG 1000000000 b).length≠0:=fun h=>hb ((lD (b:=1000000000) (by decide)).1 (List.length_eq_zero_iff.1 h))
 by_cases h1:(((aG 1000000000 b).length:Nat):Int)=1
 ·obtain⟨d,hd⟩:∃d,aG 1000000000 b=[d]:=List.length_eq_one_iff.1 (by omega)
  obtain⟨Xx,Ar,hdT⟩:=R9 hd
  have e1:aZ 1 (bY b) (VI 0) []=some (.cD (tV d) 0):=by
   rw[bY,hd]
   exact aL (f:=tV) (t := .op) (H:=[]) (size:=1) (k := .i64) (xs:=[d]) (i:=0) rfl rfl
  have c2:=sP a d Ar hdT (by omega)
  rw[←Xx] at c2
  have PT:a % b≤b:=Nat.le_of_lt (Nat.mod_lt _ (by omega))
  have n2:TC 98 [VI ((a % b:Nat):Int)] (bY (a % b)):=vS ((a % b:Nat):Int) (Int.ofNat_le.2 (show a % b≤9223372036854775807 from Nat.le_trans PT (by omega)))
  have e2:tV d=tV b:=by rw[Xx]
  rw[e2] at e1
  cases t1 with
  |
   false =>
   simp only[dT,cQ,s1,s2,c1,Hy,fX,h1,e1,c2,n2,VX,Nat.reduceEqDiff,Nat.reduceAdd]
   exact fin
  |
   true =>
   rw[ht rfl] at s2
   simp only[dT,cQ,s1,s2,c1,Hy,fX,h1,e1,c2,n2,VX,Nat.reduceEqDiff,Nat.reduceAdd]
   exact fin
 obtain⟨n,hn⟩:∃n,(aG 1000000000 b).length=n+2:=⟨(aG 1000000000 b).length-2,by omega⟩
 obtain⟨t,htd,ht0,htT⟩:=Ey (a:=b) (n:=n+1) hn
 obtain⟨s,hs⟩:∃s,s=1000000000 / (t+1):=⟨_,rfl⟩
 have N9:1≤s:=by rw[hs];exact(Nat.le_div_iff_mul_le (by omega)).2 (by omega)
 have hsT:s<1000000000:=by rw[hs];exact Nat.div_lt_self (by decide) (by omega)
 have Cs:(t+1)*s≤1000000000:=by rw[hs];exact Nat.mul_div_le _ _
 have hla:=eW (b:=1000000000) (by decide) vZ
 have w0:IntKind.i64.wrap (((n+2:Nat):Int)-1)=((n+1:Nat):Int):=wrapN _ (by omega) (by omega)
 have w1:IntKind.i64.wrap ((t:Int)+1)=((t+1:Nat):Int):=wrapN _ (by omega) (by omega)
 have q0:cY .quo (.int .i64 1000000000) (.int .i64 ((t+1:Nat):Int))=some (.int .i64 (s:Int)):=by rw[hs];exact GU 1000000000 (t+1) (by decide) (by omega)
 have et:∀H,aZ 1 (bY b) (VI ((n+1:Nat):Int)) H=some (.cD (tV t) 0):=fun H=>aL (f:=tV) (t := .op) (size:=1) (k := .i64) htd rfl
 have Pp:¬(((n+2:Nat):Int)=1):=by omega
 obtain⟨N,hN⟩:∃N,N=(aG 1000000000 a).length+1:=⟨_,rfl⟩
 have wN:IntKind.i64.wrap (((aG 1000000000 a).length:Int)+1)=(N:Int):=wrapN _ (by omega) (by omega)
 have mkN:=Lv N (by omega)
 have c3:=tO a s N9 hsT ha
 have c4:=tO b s N9 hsT oY
 have abW:b*s<1000000000^(n+2):=by
  have h2:=(uQ (n:=n+1) (gV (b:=1000000000) (by decide) b) hn htd).2
  rw[cF (by decide)] at h2
  have h3:b*s<(t+1)*1000000000^(n+1)*s:=Nat.mul_lt_mul_of_pos_right h2 N9
  have h4:(t+1)*1000000000^(n+1)*s=(t+1)*s*1000000000^(n+1):=by grind
  have h9:(t+1)*s*1000000000^(n+1)≤1000000000*1000000000^(n+1):=Nat.mul_le_mul_right _ Cs
  have tZ:1000000000*1000000000^(n+1)=1000000000^(n+2):=by rw[Nat.pow_succ 1000000000 (n+1)];exact Nat.mul_comm _ _
  rw[h4] at h3
  rw[tZ] at h9
  exact Nat.lt_of_lt_of_le h3 h9
 have Zr:(aG 1000000000 (b*s)).length=n+2:=by
  have h2:=kZ (b:=1000000000) (by decide) abW
  have h3:b≤b*s:=Nat.le_mul_of_pos_right b N9
  have h4:=eW (b:=1000000000) (by decide) h3
  omega
 have hAl:(aG 1000000000 (a*s)).length≤N:=by
  have h2:=Lu (b:=1000000000) (by decide) a s
  have h3:(aG 1000000000 s).length≤1:=kZ (by decide) (by rw[Nat.pow_one];exact hsT)
  omega
 have cp:=afL hAl
 obtain⟨m,hm⟩:∃m,m+(n+2)=N:=⟨N-(n+2),by omega⟩
 have wm:IntKind.i64.wrap ((N:Int)-((n+2:Nat):Int))=(m:Int):=wrapN _ (by omega) (by omega)
 have wm1:IntKind.i64.wrap ((m:Int)-1)=(m:Int)-1:=wrap64 (by omega) (by omega)
 obtain⟨BN,YU⟩:∃BN,BN=aG 1000000000 (a*s)++List.replicate (N-(aG 1000000000 (a*s)).length) 0:=⟨_,rfl⟩
 rw[←YU] at cp
 have mkm:zY [.int .i64 0] 8 (VI (m:Int)) (VI (m:Int)) [.row 0 (BN.map tV) 1 true]=some (.ref 1 0 0 m m,[.row 0 (BN.map tV) 1 true]++[.row 0 ((List.replicate m 0).map tV) 1 true]):=wZ (f:=tV) (x:=0) (H:=[.row 0 (BN.map tV) 1 true]) rfl (by omega) (by omega)
 have lN:∀K,aM K 0 0=some (BN.map tV,1,true)→lY (.ref 0 0 0 N N) K=some (VI (N:Int)):=fun K h=>dI h
 have l1:=lN [.row 0 (BN.map tV) 1 true] rfl
 have l2:=lN (H2 BN (List.replicate m 0)) rfl
 have acL:BN.length=N:=by rw[YU,List.length_append,List.length_replicate];omega
 have agE:∀d∈BN,d<1000000000:=fun d hd=>by
  rw[YU] at hd
  rcases List.mem_append.1 hd with h | h
  ·exact gV (by decide) _ d h
  ·rw[List.eq_of_mem_replicate h];decide
 have aaO:val 1000000000 BN=a*s:=by rw[YU,tJ,tT,Nat.mul_zero,Nat.add_zero,cF (by decide)]
 generalize Mb:aG 1000000000 (b*s)=vs at *
 have DP:∀d∈vs,d<1000000000:=by rw[←Mb];exact gV (by decide) _
 have Nx:val 1000000000 vs=b*s:=by rw[←Mb];exact cF (by decide) _
 have lV:∀H,lY (bY (b*s)) H=some (VI ((n+2:Nat):Int)):=fun H=>by rw[fX,Mb,Zr]
 obtain⟨v1,f1⟩:∃v1,vs[n+1]? = some v1:=⟨_,List.getElem?_eq_getElem (by omega)⟩
 obtain⟨v0,f0⟩:∃v0,vs[n]? = some v0:=⟨_,List.getElem?_eq_getElem (by omega)⟩
 have Zo:1≤v1:=by
  obtain⟨d,hd,Ar,_⟩:=Ey (a:=b*s) (n:=n+1) (by rw[Mb];exact Zr)
  rw[Mb,f1] at hd
  cases hd
  omega
 have zV:val 1000000000 (BN.drop m)<val 1000000000 vs:=by
  have h2:=mA (b:=1000000000) BN m
  rw[List.length_take,acL,Nat.min_eq_left (by omega),aaO] at h2
  have h3:a<b*1000000000^m:=by
   have y1:=gW (b:=1000000000) (by decide) a
   have y2:=GO (b:=1000000000) (by decide) hb
   rw[hn] at y2
   have y3:1000000000^(n+2-1)*1000000000^m≤b*1000000000^m:=Nat.mul_le_mul_right _ y2
   rw[←Nat.pow_add,show n+2-1+m=(aG 1000000000 a).length by omega] at y3
   exact Nat.lt_of_lt_of_le y1 y3
  have h4:a*s<b*1000000000^m*s:=Nat.mul_lt_mul_of_pos_right h3 N9
  have h5:b*1000000000^m*s=1000000000^m*(b*s):=by grind
  rw[Nx]
  have h6:1000000000^m*val 1000000000 (BN.drop m)<1000000000^m*(b*s):=by
   rw[←h5]
   exact Nat.lt_of_le_of_lt (by rw[h2];exact Nat.le_add_left _ _) h4
  exact Nat.lt_of_mul_lt_mul_left h6
 have body:VW ⟨true,false⟩ 0 (.loop gE)=VW ⟨true,false⟩ 0 (.loop gE):=rfl
 have tail:∀(us os:List Nat),us.length=N→(∀d∈us,d<1000000000)→os.length=m→(∀d∈os,d<1000000000)→val 1000000000 us+val 1000000000 vs*val 1000000000 os=a*s→val 1000000000 us<val 1000000000 vs →
   (∀lo K,cS 110 [.ref 0 0 0 N N] lo (H2 us os) K=K (bY (a % b*s)) (cA (H2 us os) [0])) ∧
   (∀lo K,cS 110 [.ref 1 0 0 m m] lo (cA (H2 us os) [0]) K=K (bY (a / b)) (cA (cA (H2 us os) [0]) [1]))∧TC 131 [bY (a % b*s),VI (s:Int)] (.eX [bY (a % b),VI ((a % b*s % s:Nat):Int)]):=by
  intro us os Kp FP kB oA hv aR
  rw[Nx] at hv aR
  have hq:val 1000000000 os=a / b:=by
   rw[←Nat.mul_div_mul_right a b N9,←hv,Nat.add_mul_div_left _ _ (Nat.lt_of_le_of_lt (Nat.zero_le _) aR),Nat.div_eq_of_lt aR,Nat.zero_add]
  have hr:val 1000000000 us=a % b*s:=by
   rw[←Nat.mul_mod_mul_right,←hv,Nat.add_mul_mod_self_left,Nat.mod_eq_of_lt aR]
  refine⟨fun lo K => ?_,fun lo K => ?_,?_⟩
  ·have h:=oI us FP (by omega)
   rw[hr] at h
   exact TC.Yo (f:=tV) h OM Kp.symm (Nat.le_refl _) CE (fun _=>rfl) rfl rfl lo K
  ·have h:=oI os oA (by omega)
   rw[hq] at h
   have EU:aM (cA (H2 us os) [0]) 1 0=some (os.map tV,1,true):=rfl
   exact TC.Yo (f:=tV) h EU kB.symm (Nat.le_refl _) CE (fun _=>rfl) rfl rfl lo K
  ·have h:=sP (a % b*s) s N9 hsT (by
    have h2:=eW (b:=1000000000) (by decide) (Nat.le_trans (Nat.le_of_lt aR) (show b*s≤b*s from Nat.le_refl _))
    rw[hr,Mb] at h2
    omega)
   rwa [Nat.mul_div_cancel _ N9] at h
 clear body
 have nV:bY (b*s)=fY vs:=by rw[bY,Mb]
 cases t1 with
 |
  false =>
  simp only[dT,cQ,s1,s2,c1,Hy,fX,hn,Pp,w0,w1,q0,et,wN,mkN,c3,c4,cp,lV,l1,l2,wm,wm1,mkm,List.cons_append,List.nil_append,VX,Nat.reduceEqDiff,Nat.reduceAdd]
  refine Jx (BN:=BN) (TQ:=List.replicate m 0) (vs:=vs) (N:=N) (m:=m) (n:=n) (A:=a*s) (s:=s) acL hm (by omega) agE Zr DP f1 f0 Zo aaO zV (by simp) (CJ (by decide) _) (by rfl) (by rfl) (by simp only[VX,Nat.reduceEqDiff,Nat.reduceAdd];exact nV) (by rfl) (by rfl) (by rfl) ?_
  intro yA us os ZI XM r16 Kp FP kB oA hv aR
  obtain⟨x1,x2,x3⟩:=tail us os Kp FP kB oA hv aR
  simp only[ZI,XM,r16,x1,x2,x3,VX,Nat.reduceEqDiff,Nat.reduceAdd]
  exact fin
 |
  true =>
  rw[ht rfl] at s2
  simp only[dT,cQ,s1,s2,c1,Hy,fX,hn,Pp,w0,w1,q0,et,wN,mkN,c3,c4,cp,lV,l1,l2,wm,wm1,mkm,List.cons_append,List.nil_append,VX,Nat.reduceEqDiff,Nat.reduceAdd]
  refine Jx (BN:=BN) (TQ:=List.replicate m 0) (vs:=vs) (N:=N) (m:=m) (n:=n) (A:=a*s) (s:=s) acL hm (by omega) agE Zr DP f1 f0 Zo aaO zV (by simp) (CJ (by decide) _) (by rfl) (by rfl) (by simp only[VX,Nat.reduceEqDiff,Nat.reduceAdd];exact nV) (by rfl) (by rfl) (by rfl) ?_
  intro yA us os ZI XM r16 Kp FP kB oA hv aR
  obtain⟨x1,x2,x3⟩:=tail us os Kp FP kB oA hv aR
  simp only[ZI,XM,r16,x1,x2,x3,VX,Nat.reduceEqDiff,Nat.reduceAdd]
  exact fin
end Go.PM
namespace Go.PM
theorem iU (n:Nat) {H:aC}:lY (cT n) H=some (VI (aG 4294967296 n).length):=dS
theorem uL {n:Nat}:(0:Int)<((aG 4294967296 n).length:Int)↔n≠0:=by
 constructor
 ·intro h h0
  subst h0
  rw[bO] at h
  simp at h
 ·intro h
  have:=(lD (b:=4294967296) (by decide) (n:=n))
  have h2:aG 4294967296 n≠[]:=fun hx=>h (this.1 hx)
  have:=List.length_pos_iff.2 h2
  omega
theorem Mu {n:Nat} (h:(aG 4294967296 n).length≤2):n<18446744073709551616:=by
 have h1:=gW (b:=4294967296) (by decide) n
 have h2:4294967296^(aG 4294967296 n).length≤4294967296^2:=Nat.pow_le_pow_right (by decide) h
 omega
theorem IK (a b:Nat) (ha:(aG 4294967296 a).length≤17592186044416) (hb:(aG 4294967296 b).length≤17592186044416):TC 106 [cT a,cT b] (cT (Nat.gcd a b)):=by
 refine TC.walk ⟨true,false⟩ Es rfl (Nat.le_of_ble_eq_true rfl) (by simp[aO,dB]) (xD _) ?_
 simp only[A0,wW,VX,Nat.reduceEqDiff,Nat.reduceAdd]
 refine bJ (fun(t:Nat×Nat) ρ H=>H=[]∧Nat.gcd t.1 t.2=Nat.gcd a b∧(aG 4294967296 t.1).length≤17592186044416∧(aG 4294967296 t.2).length≤17592186044416∧ρ 0=cT t.1∧ρ 1=cT t.2) (fun t=>t.2) (a,b) ⟨rfl,rfl,ha,hb,rfl,rfl⟩ ?_
 rintro⟨x,y⟩ ρ H ⟨rfl,hg,hx,hy,g0,g1⟩
 simp only at hg hx hy g0 g1
 have c1:=wD x hx
 have c2:=wD y hy
 by_cases YG:y=0
 ·subst YG
  have hl:¬(0:Int)<((aG 4294967296 0).length:Int):=by rw[uL];omega
  rw[Nat.gcd_zero_right] at hg
  simp only[gD,g0,g1,iU,hl,VX,Nat.reduceEqDiff,Nat.reduceAdd]
  rw[hg]
  exact aI (dB _)
 have hl:(0:Int)<((aG 4294967296 y).length:Int):=uL.2 YG
 by_cases h1:(aG 4294967296 x).length≤2∧(aG 4294967296 y).length≤2
 ·rw[if_pos h1.1] at c1
  rw[if_pos h1.2] at c2
  simp only[gD,g0,g1,iU,hl,c1,c2,VX,Nat.reduceEqDiff,Nat.reduceAdd]
  refine bJ (fun(t:Nat×Nat) ρ H=>H=[]∧Nat.gcd t.1 t.2=Nat.gcd a b∧t.1<18446744073709551616∧t.2<18446744073709551616∧ρ 5=VK .u64 t.1∧ρ 7=VK .u64 t.2) (fun t=>t.2) (x,y) ⟨rfl,hg,Mu h1.1,Mu h1.2,rfl,rfl⟩ ?_
  rintro⟨u,v⟩ Km H ⟨rfl,hg2,hu,hv,k5,k7⟩
  simp only at hg2 hu hv k5 k7
  by_cases hv0:v=0
  ·subst hv0
   rw[Nat.gcd_zero_right] at hg2
   have hz:¬(0:Int)<((0:Nat):Int):=by omega
   have c3:=rY u hu
   simp only[pA,k5,k7,hz,c3,VX,Nat.reduceEqDiff,Nat.reduceAdd]
   rw[hg2]
   exact aI (dB _)
  ·have hz:(0:Int)<(v:Int):=by omega
   have r1:=K0 u v (by omega)
   simp only[pA,k5,k7,hz,r1,VX,Nat.reduceEqDiff,Nat.reduceAdd]
   refine⟨(v,u % v),?_,?_,hv,?_,rfl,rfl⟩
   ·exact Nat.mod_lt _ (by omega)
   ·simp only
    rw[←hg2,Nat.gcd_comm u v,Nat.gcd_rec v u,Nat.gcd_comm]
   ·simp only
    have:=Nat.mod_lt u (show 0<v by omega)
    omega
 ·have c3:=tS x y YG hx hy
  have next:∃s':Nat×Nat,s'.2<y∧Nat.gcd s'.1 s'.2=Nat.gcd a b∧(aG 4294967296 s'.1).length≤17592186044416∧(aG 4294967296 s'.2).length≤17592186044416∧cT y=cT s'.1∧cT (x % y)=cT s'.2:=by
   have hm:=Nat.mod_lt x (show 0<y by omega)
   refine⟨(y,x % y),hm,?_,hy,?_,rfl,rfl⟩
   ·simp only
    rw[←hg,Nat.gcd_comm x y,Nat.gcd_rec y x,Nat.gcd_comm]
   ·simp only
    have:=eW (b:=4294967296) (by decide) (Nat.le_of_lt hm)
    omega
  by_cases h2:(aG 4294967296 x).length≤2
  ·have h3:¬(aG 4294967296 y).length≤2:=fun h=>h1 ⟨h2,h⟩
   rw[if_pos h2] at c1
   rw[if_neg h3] at c2
   simp only[gD,g0,g1,iU,hl,c1,c2,c3,VX,Nat.reduceEqDiff,Nat.reduceAdd]
   exact next
  ·rw[if_neg h2] at c1
   by_cases h3:(aG 4294967296 y).length≤2
   ·rw[if_pos h3] at c2
    simp only[gD,g0,g1,iU,hl,c1,c2,c3,VX,Nat.reduceEqDiff,Nat.reduceAdd]
    exact next
   ·rw[if_neg h3] at c2
    simp only[gD,g0,g1,iU,hl,c1,c2,c3,VX,Nat.reduceEqDiff,Nat.reduceAdd]
    exact next
end Go.PM
namespace Go.PM
open Go.Lib
theorem DS (a b:List UInt8) (h:a.length+b.length≤9223372036854775807):cY .add (.string ⟨a.toArray⟩) (.string ⟨b.toArray⟩)=some (.string ⟨(a++b).toArray⟩):=by
 have h1:(⟨a.toArray⟩:ByteArray).size=a.length:=by simp[ByteArray.size]
 have h2:(⟨b.toArray⟩:ByteArray).size=b.length:=by simp[ByteArray.size]
 have h3:¬(((⟨a.toArray⟩:ByteArray).size+(⟨b.toArray⟩:ByteArray).size:Nat):Int)>IntKind.i64.max:=by
  rw[h1,h2]
  show ¬_>(9223372036854775807:Int)
  omega
 simp only[cY,h3,if_false]
 congr 2
theorem bL (a:List UInt8):Da (.string ⟨a.toArray⟩)=some (.int .i64 (a.length:Int)):=by simp[Da,ByteArray.size]
theorem Xz:∀a:List UInt8,(aB (aY a)).length=1:=fun _=>rfl
theorem Sn {xs:List (List UInt8)} {H:aC} {lo b g n:Nat} (hr:aM H b g=some (xs.map aY,1,true)) (hn:xs.length=n) (dP:lo≤b) (Aq:n≤9223372036854775806) :
  kH 125 [.ref b g 0 n n] lo H fun r H'=>r = .eX []∧H'=H.set b (.row g (xs.reverse.map aY) 1 true):=by
 refine kH.walk ⟨true,false⟩ oC (Nat.le_of_ble_eq_true rfl) ?_
 have e0:lY (.ref b g 0 n n) H=some (VI n):=dI hr
 have w0:IntKind.i64.wrap ((n:Int)-1)=(n:Int)-1:=wrap64 (by omega) (by omega)
 simp only[jA,iO,e0,w0,VX,Nat.reduceEqDiff,Nat.reduceAdd]
 refine bJ (fun(t:Nat×List (List UInt8)) ρ K=>t.1≤n∧K=H.set b (.row g (t.2.map aY) 1 true)∧t.2.length=n∧(∀k,k<n→t.2[k]? = if k<t.1∨n≤k+t.1 then xs[n-1-k]? else xs[k]?)∧ρ 0 = .ref b g 0 n n∧ρ 2=VI t.1∧ρ 3=VI ((n:Int)-1-(t.1:Int))) (fun t=>n-t.1) (0,xs) ⟨Nat.zero_le _,(sF hr).symm,hn,fun k hk=>by rw[if_neg (by simp only;omega)],rfl,rfl,by show VI ((n:Int)-1)=VI ((n:Int)-1-((0:Nat):Int));rw[Int.natCast_zero,Int.sub_zero]⟩ ?_
 rintro⟨i,ys⟩ ρ K ⟨hi,rfl,hl,hy,g0,g2,g3⟩
 simp only at hi hl hy g2 g3
 have Yq:aM (H.set b (.row g (ys.map aY) 1 true)) b g=some (ys.map aY,1,true):=kI hr
 by_cases cX:(i:Int)<(n:Int)-1-(i:Int)
 ·have hj:(n:Int)-1-(i:Int)=((n-1-i:Nat):Int):=by omega
  obtain⟨x,hx⟩:∃x,ys[i]? = some x:=⟨_,List.getElem?_eq_getElem (by omega)⟩
  obtain⟨y,hyy⟩:∃y,ys[n-1-i]? = some y:=⟨_,List.getElem?_eq_getElem (by omega)⟩
  rw[hj] at g3 cX
  have a1:∀(zs:List (List UInt8)) (k:Nat),zs.length=n→k<n→aZ 1 (.ref b g 0 n n) (VI (k:Int)) (H.set b (.row g (zs.map aY) 1 true))=some (.ptr b g k 0):=fun zs k h1 h2=>by rw[bD (kI hr) h2,Nat.zero_add]
  have l1:eZ false 1 (.ptr b g (n-1-i) 0) (H.set b (.row g (ys.map aY) 1 true))=some (aY y):=nZ Yq hyy
  have l2:eZ false 1 (.ptr b g i 0) (H.set b (.row g (ys.map aY) 1 true))=some (aY x):=nZ Yq hx
  have s1:dE lo 1 (.ptr b g i 0) (aY y) (H.set b (.row g (ys.map aY) 1 true))=some (H.set b (.row g ((ys.set i y).map aY) 1 true)):=by rw[iE (f:=aY) (e:=1) Yq (by omega) dP rfl rfl,jQ]
  have s2:dE lo 1 (.ptr b g (n-1-i) 0) (aY x) (H.set b (.row g ((ys.set i y).map aY) 1 true))=some (H.set b (.row g (((ys.set i y).set (n-1-i) x).map aY) 1 true)):=by rw[iE (f:=aY) (e:=1) (kI hr) (by rw[List.length_set];omega) dP rfl rfl,jQ]
  have w1:IntKind.i64.wrap ((i:Int)+1)=((i+1:Nat):Int):=wrapN _ (by omega) (by omega)
  have w2:IntKind.i64.wrap (((n-1-i:Nat):Int)-1)=(n:Int)-1-((i+1:Nat):Int):=by rw[wrap64 (by omega) (by omega)];omega
  have b1:=a1 ys i hl (by omega)
  have b2:=a1 ys (n-1-i) hl (by omega)
  have b3:=a1 (ys.set i y) (n-1-i) (by rw[List.length_set];exact hl) (by omega)
  simp only[dZ,g0,g2,g3,cX,b1,b2,b3,l1,l2,s1,s2,w1,w2,VX,Nat.reduceEqDiff,Nat.reduceAdd]
  refine⟨(i+1,(ys.set i y).set (n-1-i) x),by simp only;omega,by simp only;omega,rfl,by simp only[List.length_set];exact hl,fun k hk => ?_,by (repeat' apply And.intro)<;>first | rfl | trivial⟩
  simp only
  have hxx:=hy i (by omega)
  rw[if_neg (by omega),hx] at hxx
  have hyx:=hy (n-1-i) (by omega)
  rw[if_neg (by omega),hyy] at hyx
  rw[List.getElem?_set,List.getElem?_set,List.length_set]
  by_cases h1:n-1-i=k
  ·subst h1
   rw[if_pos rfl,if_pos (by omega),if_pos (by omega),show n-1-(n-1-i)=i by omega]
   exact hxx
  ·rw[if_neg h1]
   by_cases h2:i=k
   ·subst h2
    rw[if_pos rfl,if_pos (by omega),if_pos (by omega)]
    exact hyx
   ·rw[if_neg h2,hy k hk]
    by_cases h3:k<i∨n≤k+i
    ·rw[if_pos h3,if_pos (by omega)]
    ·rw[if_neg h3,if_neg (by omega)]
 ·have alP:ys=xs.reverse:=by
   apply List.ext_getElem?
   intro k
   rcases Nat.lt_or_ge k n with h | h
   ·rw[hy k h,List.getElem?_reverse (by omega),hn]
    split
    ·rfl
    ·rw[show n-1-k=k by omega]
   ·rw[List.getElem?_eq_none (by omega),List.getElem?_eq_none (by rw[List.length_reverse];omega)]
  subst alP
  simp only[dZ,g0,g2,g3,cX,VX,Nat.reduceEqDiff,Nat.reduceAdd]
  try exact⟨rfl,rfl⟩
theorem Tr (n:Nat):(aG 1000000000 n).length≤2*(aG 4294967296 n).length:=by
 refine kZ (by decide) ?_
 have h1:=gW (b:=4294967296) (by decide) n
 have h2:4294967296^(aG 4294967296 n).length≤(1000000000^2)^(aG 4294967296 n).length:=Nat.pow_le_pow_left (by decide) _
 rw[←Nat.pow_mul] at h2
 omega
theorem Yz {n:Nat} (hn:n≠0):(decDigits n).length≤9*(aG 1000000000 n).length:=by
 have h1:=gW (b:=1000000000) (by decide) n
 have h3:(aG 1000000000 n)≠[]:=fun h=>hn ((lD (by decide)).1 h)
 have h4:=List.length_pos_iff.2 h3
 generalize (aG 1000000000 n).length=L at *
 obtain⟨k,hk⟩:∃k,9*L=k+1:=⟨9*L-1,by omega⟩
 have h5:(1000000000:Nat)^L=10^(9*L):=by rw[show (1000000000:Nat)=10^9 by decide,←Nat.pow_mul]
 rw[h5,hk] at h1
 rw[hk]
 exact CO n k h1
def CU (q:Nat):List UInt8:=if q=0 then [] else decDigits q
theorem zP (n:Nat) (hn:(aG 4294967296 n).length≤68719476736):TC 108 [cT n] (aY (decDigits n)):=by
 refine TC.walk ⟨true,false⟩ DH rfl (Nat.le_of_ble_eq_true rfl) (by simp[aO,dB]) rfl ?_
 by_cases h0:n=0
 ·subst h0
  have hl:(((aG 4294967296 0).length:Nat):Int)=0:=by rw[bO];rfl
  simp only[rH,pD,iU,hl,VX,Nat.reduceEqDiff,Nat.reduceAdd]
  rw[gF (by decide)]
  exact aI rfl
 have hl:¬(((aG 4294967296 n).length:Nat):Int)=0:=by have:=uL.2 h0;omega
 have e1:∀lr,oU lr [.string ⟨#[]⟩] 0 [] []=some (.ref 0 0 0 0 0,[.row 0 (([]:List (List UInt8)).map aY) 1 true]):=fun lr=>mW (H:=[]) (lr:=lr) (z:=[.string ⟨#[]⟩]) rfl
 have hTn:=Tr n
 have hdl:=Yz h0
 simp only[rH,pD,iU,hl,e1,VX,Nat.reduceEqDiff,Nat.reduceAdd]
 refine bJ (fun(t:Nat×List (List UInt8)) ρ H=>H=[.row t.2.length (t.2.map aY) 1 true]∧t.1≤n∧t.2.length+(aG 1000000000 t.1).length=(aG 1000000000 n).length∧decDigits n=CU t.1++t.2.reverse.flatten∧ρ 0=cT t.1∧ρ 3 = .ref 0 t.2.length 0 t.2.length t.2.length) (fun t=>t.1) (n,[]) ⟨rfl,Nat.le_refl _,by simp,by simp[CU,h0],rfl,rfl⟩ ?_
 rintro⟨q,ps⟩ ρ H ⟨rfl,hq,hlen,Tv,g0,g3⟩
 simp only at hq hlen Tv g0 g3
 by_cases Na:q=0
 ·subst Na
  have hz:¬(0:Int)<((aG 4294967296 0).length:Int):=by rw[uL];omega
  rw[CU,if_pos rfl,List.nil_append] at Tv
  have hr:aM [.row ps.length (ps.map aY) 1 true] 0 ps.length=some (ps.map aY,1,true):=bK
  simp only[jX,g0,g3,iU,hz,VX,Nat.reduceEqDiff,Nat.reduceAdd]
  refine cW rfl ((Sn hr rfl (Nat.le_refl _) (by omega)).mono ?_)
  rintro r H' ⟨rfl,rfl⟩
  have Iz:([.row ps.length (ps.map aY) 1 true]:aC).set 0 (.row ps.length (ps.reverse.map aY) 1 true)=[.row ps.length (ps.reverse.map aY) 1 true]:=rfl
  have Yq:aM [.row ps.length (ps.reverse.map aY) 1 true] 0 ps.length=some (ps.reverse.map aY,1,true):=bK
  have hfl:ps.reverse.flatten.length≤140737488355328:=by rw[←Tv];omega
  have cj:=(abU ps.reverse (by rw[List.length_reverse];omega) hfl).flat (H:=[.row ps.length (ps.reverse.map aY) 1 true]) (args:=[.ref 0 ps.length 0 ps.length ps.length,aY []]) rfl (by simp only[aO,mD (f:=aY) Xz (fun _=>rfl),Bool.and_true];rfl) (XL (IT Yq (by simp) (Nat.le_refl _) (gO fun _=>rfl)) (aI rfl)) rfl
  simp only[Iz,g3,cj,VX,Nat.reduceEqDiff,Nat.reduceAdd]
  rw[←Tv]
  exact aI rfl
 ·have hz:(0:Int)<((aG 4294967296 q).length:Int):=uL.2 Na
  have hql:=eW (b:=4294967296) (by decide) hq
  have c1:TC 119 [cT q,.sc (.int .u32 1000000000)] (.eX [cT (q / 1000000000),uV (q % 1000000000)]):=rO q 1000000000 (by decide) (by decide) (by omega)
  have hm:=Nat.mod_lt q (show 0<1000000000 by decide)
  have c2:=acN (q % 1000000000) (by omega)
  have wm:IntKind.u64.wrap ((q % 1000000000:Nat):Int)=((q % 1000000000:Nat):Int):=fF _ (by omega)
  have hdq:=iI (b:=1000000000) (by decide) Na
  have axH:(aG 1000000000 q).length=(aG 1000000000 (q / 1000000000)).length+1:=by rw[hdq];rfl
  have SE:=CO (q % 1000000000) 8 hm
  have hqq:=Nat.mod_add_div q 1000000000
  have e2:∀x:List UInt8,oU false [.string ⟨#[]⟩] 1 [(0,aY x)] [.row ps.length (ps.map aY) 1 true]=some (.tree [aY x] (.cl 1),[.row ps.length (ps.map aY) 1 true]):=fun x=>lH (z:=[.string ⟨#[]⟩]) rfl rfl rfl
  have e3:∀x:List UInt8,cM 1 (.tree [aY x] (.cl 1)) [.row ps.length (ps.map aY) 1 true]=some [aY x]:=fun x=>hC rfl rfl
  have e4:∀x:List UInt8,dW 0 1 16 (.ref 0 ps.length 0 ps.length ps.length) [aY x] [.row ps.length (ps.map aY) 1 true]=some (.ref 0 (ps.length+1) 0 (ps.length+1) (ps.length+1),[.row (ps.length+1) ((ps++[x]).map aY) 1 true]):=fun x=>by
   rw[lP (f:=aY) (x:=x) bK rfl (Nat.le_refl _) (by decide) (by decide) (by omega)]
   rfl
  have hle:q / 1000000000<q:=Nat.div_lt_self (by omega) (by decide)
  by_cases hqz:q / 1000000000=0
  ·have Rw:¬(0:Int)<((aG 4294967296 (q / 1000000000)).length:Int):=by rw[uL];omega
   simp only[jX,g0,g3,iU,hz,c1,c2,wm,Rw,e2,e3,e4,VX,Nat.reduceEqDiff,Nat.reduceAdd]
   refine⟨(q / 1000000000,ps++[decDigits (q % 1000000000)]),hle,by simp,by simp only;omega,by simp only[List.length_append,List.length_singleton];omega,?_,rfl,by simp⟩
   rw[Tv,CU,if_neg Na,CU,if_pos hqz,List.reverse_append,List.nil_append,List.reverse_singleton,List.singleton_append,List.flatten_cons,show q % 1000000000=q by omega]
  ·have Rw:(0:Int)<((aG 4294967296 (q / 1000000000)).length:Int):=uL.2 hqz
   have ws:IntKind.i64.wrap ((9:Int)-((decDigits (q % 1000000000)).length:Int))=((9-(decDigits (q % 1000000000)).length:Nat):Int):=wrapN _ (by omega) (by omega)
   have c3:=Vo [48] (9-(decDigits (q % 1000000000)).length) (by simp;omega) (by omega)
   have Vs:repeatL [48] (9-(decDigits (q % 1000000000)).length)++decDigits (q % 1000000000)=CY 9 (q % 1000000000):=by
    rw[Z4 8 _ hm]
    congr 1
    have:=repeatL_replicate 48 1 (9-(decDigits (q % 1000000000)).length)
    rw[Nat.mul_one] at this
    exact this
   have c4:=DS (repeatL [48] (9-(decDigits (q % 1000000000)).length)) (decDigits (q % 1000000000)) (by rw[←List.length_append,Vs,Ym];decide)
   rw[Vs] at c4
   simp only[jX,g0,g3,iU,hz,c1,c2,wm,Rw,bL,ws,c3,c4,e2,e3,e4,VX,Nat.reduceEqDiff,Nat.reduceAdd]
   refine⟨(q / 1000000000,ps++[CY 9 (q % 1000000000)]),hle,by simp,by simp only;omega,by simp only[List.length_append,List.length_singleton];omega,?_,rfl,by simp⟩
   rw[Tv,CU,if_neg Na,CU,if_neg hqz,List.reverse_append,List.reverse_singleton,List.singleton_append,List.flatten_cons,←List.append_assoc,←Sy (by omega) hm]
   congr 2
   omega
end Go.PM
namespace Go.PM
open Go.Lib
def Ak (q:Rat):VV := .agg [VB (decide (q.num<0)),cT q.num.natAbs,cT q.den]
theorem JA (q:Rat):aX (Ak q)=true:=by simp[Ak,aX,aO,dB,kQ]
theorem Ud (q:Rat):iZ (Ak q)=true:=by simp[Ak,iZ,pV,xD,kQ]
theorem QF {q:Rat} {neg:Bool} {t b:Nat} (h0:q.num<0↔neg=true) (h1:q.num.natAbs=t) (h2:q.den=b):Ak q = .agg [VB neg,cT t,cT b]:=by
 subst h1 h2
 unfold Ak
 congr 4
 cases neg<;>simp_all
theorem XH {neg:Bool} {t b:Nat} (hb:b≠0) (ht:t≠0):Ak (mkRat (Cm neg t) b) = .agg [VB neg,cT (t / Nat.gcd t b),cT (b / Nat.gcd t b)]:=by
 refine QF ?_ ?_ (V4 hb)
 ·rw[Ps hb,Yt]
  have h1:t / Nat.gcd t b≠0:=by
   have:=Nat.div_pos (Nat.le_of_dvd (by omega) (Nat.gcd_dvd_left t b)) (Nat.gcd_pos_of_pos_left b (by omega))
   omega
  simp[h1]
 ·rw[Ps hb,yS]
theorem Tq:Ak 0 = .agg [VB false,.tree [] .op,cT 1]:=by
 rw[QF (q:=0) (neg:=false) (t:=0) (b:=1) (by simp) rfl rfl,EE]
theorem iB (n:Nat):cB (cT n)=true:=rfl
theorem hO (n:Nat):isAny (cT n)=false:=rfl
theorem fS (n:Nat):aB (cT n)=[cT n]:=rfl
theorem xN (q:Rat):isAny (Ak q)=false:=rfl
theorem bP (q:Rat):aB (Ak q)=[VB (decide (q.num<0)),cT q.num.natAbs,cT q.den]:=rfl
theorem Hm (q:Rat):bU true 3 (Ak q) 0=some (Ak q):=rfl
theorem Q3 (q:Rat):bU false 1 (Ak q) 0=some (VB (decide (q.num<0))):=rfl
theorem QO (q:Rat):bU false 1 (Ak q) 1=some (cT q.num.natAbs):=rfl
theorem Qt (q:Rat):bU false 1 (Ak q) 2=some (cT q.den):=rfl
theorem Bh {d:Nat} {H:aC} {u u' v v' w w':VV} (h1:fz (d+1) H u=some u') (h2:fz (d+1) H v=some v') (h3:fz (d+1) H w=some w'):fz (d+2) H (.agg [u,v,w])=some (.agg [u',v',w']):=by
 have e:fz (d+2) H (.agg [u,v,w])=if aX (.agg [u,v,w])=true then some (.agg [u,v,w]) else ([u,v,w].mapM (fz (d+1) H)).map .agg:=rfl
 rw[e]
 by_cases hp:aX (.agg [u,v,w])=true
 ·rw[if_pos hp]
  simp only[aX,aO,Bool.and_eq_true,and_true] at hp
  rw[aQ hp.1] at h1
  rw[aQ hp.2.1] at h2
  rw[aQ hp.2.2] at h3
  cases h1
  cases h2
  cases h3
  rfl
 ·rw[if_neg hp,List.mapM_cons,h1,List.mapM_cons,h2,List.mapM_cons,h3]
  rfl
theorem agH {d:Nat} {H:aC} {v:Value} (h:kQ v=true):fz (d+1) H (.sc v)=some (.sc v):=aQ h
theorem IC {H:aC} {neg:Bool} {t b:Nat}:fz depth H (.agg [VB neg,cT t,cT b])=some (.agg [VB neg,cT t,cT b]):=aI (by simp[aX,aO,dB,kQ])
theorem ahE {n:Nat} (h:bl n≤2199023255552):(aG 4294967296 n).length≤68719476736:=by
 have:=Zh n
 omega
theorem JV {n:Nat} (h:bl n≤4398046511104):(aG 4294967296 n).length≤17592186044416:=by
 have:=Zh n
 omega
theorem I6 (neg:Bool) (t b:Nat) (hb:b≠0) (ht:bl t≤4398046511104) (oY:bl b≤4398046511104):TC 82 [VB neg,cT t,cT b] (Ak (mkRat (Cm neg t) b)):=by
 refine TC.walk ⟨true,false⟩ Jf rfl (Nat.le_of_ble_eq_true rfl) (by simp[aO,dB,aX,kQ]) (Ud _) ?_
 by_cases h0:t=0
 ·subst h0
  have hl:(((aG 4294967296 0).length:Nat):Int)=0:=by rw[bO];rfl
  have c1:TC 77 [.sc (.int .u64 1)] (cT 1):=rY 1 (by decide)
  rw[N8,Rat.zero_mkRat,Tq,←EE]
  simp only[qV,mX,iU,hl,c1,iB,hO,fS,kC,Nat.reduceLeDiff,Nat.reduceLT,Nat.reduceSub,VX,Nat.reduceEqDiff,Nat.reduceAdd]
  exact Bh (agH rfl) GF (aQ (dB _))
 ·have hl:¬(((aG 4294967296 t).length:Nat):Int)=0:=by have:=uL.2 h0;omega
  have c1:=IK t b (JV ht) (JV oY)
  have hg0:Nat.gcd t b≠0:=Nat.gcd_ne_zero_right hb
  have hgl:bl (Nat.gcd t b)≤4398046511104:=Nat.le_trans (Dp (Nat.gcd_le_right t (by omega))) oY
  have c2:=tS t _ hg0 (JV ht) (JV hgl)
  have c3:=tS b _ hg0 (JV oY) (JV hgl)
  rw[XH hb h0]
  by_cases h1:((aG 4294967296 (Nat.gcd t b)).length:Int)=1
  ·obtain⟨d,hd⟩:∃d,aG 4294967296 (Nat.gcd t b)=[d]:=List.length_eq_one_iff.1 (by omega)
   obtain⟨Zu,_,_⟩:=Nj hd
   have e1:aZ 1 (cT (Nat.gcd t b)) (.sc (.int .i64 0)) [.row 0 [.agg [VB false,.tree [] .nil,.tree [] .nil]] 3 true]=some (.cD (uV d) 0):=aL (f:=uV) (xs:=aG 4294967296 (Nat.gcd t b)) (i:=0) (k := .i64) (by rw[hd];rfl) rfl
   by_cases h2:(d:Int)=1
   ·have Z2:Nat.gcd t b=1:=by omega
    simp only[qV,mX,iU,hl,c1,h1,h2,e1,iB,hO,fS,kC,Nat.reduceLeDiff,Nat.reduceLT,Nat.reduceSub,VX,Nat.reduceEqDiff,Nat.reduceAdd]
    rw[Z2,Nat.div_one,Nat.div_one]
    exact IC
   ·simp only[qV,mX,iU,hl,c1,c2,c3,h1,h2,e1,iB,hO,fS,kC,Nat.reduceLeDiff,Nat.reduceLT,Nat.reduceSub,VX,Nat.reduceEqDiff,Nat.reduceAdd]
    exact IC
  ·simp only[qV,mX,iU,hl,c1,c2,c3,h1,iB,hO,fS,kC,Nat.reduceLeDiff,Nat.reduceLT,Nat.reduceSub,VX,Nat.reduceEqDiff,Nat.reduceAdd]
   exact IC
theorem R0 {n:Int} (h0 : -9223372036854775808≤n) (h:n<0):IntKind.u64.wrap (0-IntKind.u64.wrap n)=(n.natAbs:Int):=by
 rw[wrap_u64,wrap_u64]
 omega
theorem wM (n:Int) (h0 : -9223372036854775808≤n) (h1:n≤9223372036854775807):TC 78 [VI n] (VK .u64 (n.natAbs:Int)):=by
 refine TC.walk ⟨true,false⟩ Ff rfl (Nat.le_of_ble_eq_true rfl) rfl rfl ?_
 by_cases h:n<0
 ·simp only[sT,pR,h,R0 h0 h,VX,Nat.reduceEqDiff,Nat.reduceAdd]
  exact aI rfl
 ·have w:IntKind.u64.wrap n=(n.natAbs:Int):=by rw[wrap_u64];omega
  simp only[sT,pR,h,w,VX,Nat.reduceEqDiff,Nat.reduceAdd]
  exact aI rfl
end Go.PM
namespace Go.PM
open Go.Lib
theorem CF (a b:Bool):Po true (.bool a) (.bool b)=some (.bool (a != b)):=by
 show some (Value.bool ((a == b) != true))=_
 cases a<;>cases b<;>rfl
theorem Xa {q:Rat} {k:Nat} (h:rU q≤k):bl q.num.natAbs≤k:=Nat.le_trans E4 h
theorem VE {q:Rat} {k:Nat} (h:rU q≤k):bl q.den≤k:=Nat.le_trans E3 h
def KA (a b:Rat):Int:=if a<b then -1 else if b<a then 1 else 0
end Go.PM
namespace Go.PM
theorem NS {n:Nat}:(0:Int)<((aG 1000000000 n).length:Int)↔n≠0:=by
 constructor
 ·intro h h0
  subst h0
  rw[bO] at h
  simp at h
 ·intro h
  have:=(lD (b:=1000000000) (by decide) (n:=n))
  have h2:aG 1000000000 n≠[]:=fun hx=>h (this.1 hx)
  have:=List.length_pos_iff.2 h2
  omega
theorem Jb {n:Nat} (h:bl n≤4398046511104):(aG 1000000000 n).length<17592186044416:=by
 have:=ahK n
 omega
theorem Jp (a b:Nat) (ha:(aG 1000000000 a).length<17592186044416) (hb:(aG 1000000000 b).length<17592186044416):TC 111 [bY a,bY b] (bY (Nat.gcd a b)):=by
 refine TC.walk ⟨true,false⟩ I3 rfl (Nat.le_of_ble_eq_true rfl) (by simp[aO,cJ]) (oQ _) ?_
 simp only[FI,B2,VX,Nat.reduceEqDiff,Nat.reduceAdd]
 refine bJ (fun(t:Nat×Nat) ρ H=>H=[]∧Nat.gcd t.1 t.2=Nat.gcd a b∧(aG 1000000000 t.1).length<17592186044416∧(aG 1000000000 t.2).length<17592186044416∧ρ 0=bY t.1∧ρ 1=bY t.2) (fun t=>t.2) (a,b) ⟨rfl,rfl,ha,hb,rfl,rfl⟩ ?_
 rintro⟨x,y⟩ ρ H ⟨rfl,hg,hx,hy,g0,g1⟩
 simp only at hg hx hy g0 g1
 by_cases YG:y=0
 ·subst YG
  have hl:¬(0:Int)<((aG 1000000000 0).length:Int):=by rw[NS];omega
  rw[Nat.gcd_zero_right] at hg
  simp only[sR,g0,g1,fX,hl,VX,Nat.reduceEqDiff,Nat.reduceAdd]
  rw[hg]
  exact aI (cJ _)
 ·have hl:(0:Int)<((aG 1000000000 y).length:Int):=NS.2 YG
  have c3:=Ep x y YG hx hy
  have hm:=Nat.mod_lt x (show 0<y by omega)
  simp only[sR,g0,g1,fX,hl,c3,VX,Nat.reduceEqDiff,Nat.reduceAdd]
  refine⟨(y,x % y),hm,?_,hy,?_,rfl,rfl⟩
  ·simp only
   rw[←hg,Nat.gcd_comm x y,Nat.gcd_rec y x,Nat.gcd_comm]
  ·simp only
   have:=eW (b:=1000000000) (by decide) (Nat.le_of_lt hm)
   omega
def sV (q:Rat):VV := .agg [VB (decide (q.num<0)),bY q.num.natAbs,bY q.den]
theorem XF {q:Rat} {neg:Bool} {t b:Nat} (h0:q.num<0↔neg=true) (h1:q.num.natAbs=t) (h2:q.den=b):sV q = .agg [VB neg,bY t,bY b]:=by
 subst h1 h2
 unfold sV
 congr 4
 cases neg<;>simp_all
theorem aV (n:Nat):cB (bY n)=true:=rfl
theorem bM (n:Nat):isAny (bY n)=false:=rfl
theorem bB (n:Nat):aB (bY n)=[bY n]:=rfl
theorem nG (q:Rat):isAny (sV q)=false:=rfl
theorem eG (q:Rat):aB (sV q)=[VB (decide (q.num<0)),bY q.num.natAbs,bY q.den]:=rfl
theorem yP (q:Rat):bU true 3 (sV q) 0=some (sV q):=rfl
theorem wV (q:Rat):bU false 1 (sV q) 0=some (VB (decide (q.num<0))):=rfl
theorem xG (q:Rat):bU false 1 (sV q) 1=some (bY q.num.natAbs):=rfl
theorem wX (q:Rat):bU false 1 (sV q) 2=some (bY q.den):=rfl
theorem RT {n lo:Nat} {H:aC} {K:VV→aC→Prop} (h:(aG 1000000000 n).length≤17592186044416):cS 93 [bY n,.tree [VI 1] (.cl 1)] lo H K=K (VI (lJ n 1)) H:=by
 have c:=vK n 1 h (by rw[AS (by decide) (by decide) (by decide)];simp)
 have e:bY 1 = .tree [VI 1] .op:=by rw[bY,AS (by decide) (by decide) (by decide)];rfl
 rw[e] at c
 exact TC.args c rfl (by simp only[aO,cJ];rfl) (XL (aI (cJ n)) (WQ rfl)) (by simp only[List.flatMap_cons,List.flatMap_nil,IJ (cJ n),UA (es:=[VI 1]) rfl,List.append_nil]) lo K
theorem iM {d:Int} {H:aC}:oU false [.int .i64 0] 1 [(0,VI d)] H=some (.tree [VI d] (.cl 1),H):=DF
theorem fO {e:Nat} {es:List VV}:cB (.tree es (.cl e))=true:=rfl
theorem dR {k:TK} {es:List VV}:aB (.tree es k)=[.tree es k]:=rfl
theorem fP {k:TK} {es:List VV}:isAny (.tree es k)=false:=rfl
theorem UG {d:Nat} {H:aC}:fz (d+2) H (.tree [VI 1] (.cl 1))=some (bY 1):=by
 rw[WK]
 unfold fz
 have:aX (.tree [VI 1] (.cl 1))=false:=by simp[aX]
 simp only[this,Bool.false_eq_true,if_false]
 rfl
end Go.PM
namespace Go.PM
open Go.Lib
theorem XB {m n:Nat} (h:decDigits m=decDigits n):m=n:=by
 have key:∀k m n:Nat,m<10^(k+1)→decDigits m=decDigits n→m=n:=by
  intro k
  induction k with
  |
   zero =>
   intro m n hm h
   rw[gF (by omega)] at h
   by_cases hn:n<10
   ·rw[gF hn] at h
    have h1:=List.singleton_inj.1 h
    unfold d10 at h1
    have:=congrArg UInt8.toNat h1
    simp at this
    omega
   ·rw[uY hn] at h
    have:=congrArg List.length h
    have h2:=List.length_pos_iff.2 (Fh (n / 10))
    simp only[List.length_append,List.length_cons,List.length_nil] at this
    omega
  |
   succ k ih =>
   intro m n hm h
   by_cases h1:m<10
   ·rw[gF h1] at h
    by_cases hn:n<10
    ·rw[gF hn] at h
     have h1:=List.singleton_inj.1 h
     unfold d10 at h1
     have:=congrArg UInt8.toNat h1
     simp at this
     omega
    ·rw[uY hn] at h
     have:=congrArg List.length h
     have h2:=List.length_pos_iff.2 (Fh (n / 10))
     simp only[List.length_append,List.length_cons,List.length_nil] at this
     omega
   ·rw[uY h1] at h
    by_cases hn:n<10
    ·rw[gF hn] at h
     have:=congrArg List.length h
     have h2:=List.length_pos_iff.2 (Fh (m / 10))
     simp only[List.length_append,List.length_cons,List.length_nil] at this
     omega
    ·rw[uY hn] at h
     obtain⟨h2,h3⟩:=List.append_inj' h rfl
     have h4:=ih (m / 10) (n / 10) (by rw[Nat.pow_succ] at hm;omega) h2
     have h5:=List.singleton_inj.1 h3
     unfold d10 at h5
     have:=congrArg UInt8.toNat h5
     simp at this
     omega
 exact key m m n (Nat.lt_trans (Nat.lt_pow_self (by decide)) (Nat.pow_lt_pow_right (by decide) (Nat.lt_succ_self m))) h
def Bc (q:Rat):List UInt8:=(if q.num<0 then [45] else [])++decDigits q.num.natAbs++(if q.den=1 then [] else 47::decDigits q.den)
def rN (q:Rat):Bool:=decide ((decDigits q.num.natAbs).length≤200)&&decide ((decDigits q.den).length≤200)
theorem Du (n:Nat):(decDigits n).length≤bl n+1:=by
 by_cases h:n=0
 ·subst h;rw[gF (by decide)];simp
 ·have h1:=aaH h
  obtain⟨k,hk⟩:∃k,bl n=k+1:=⟨bl n-1,by omega⟩
  have h2:=Mt n
  rw[hk] at h2 ⊢
  have h3:2^(k+1)≤10^(k+1):=Nat.pow_le_pow_left (by decide) _
  have:=CO n k (by omega)
  omega
end Go.PM
namespace Go.PM
open Go.Lib
theorem Yu (a b:List UInt8):cY .neq (.string ⟨a.toArray⟩) (.string ⟨b.toArray⟩)=some (.bool (!decide (a=b))):=by
 have h:∀l:List UInt8,(ByteArray.toList ⟨l.toArray⟩)=l:=fun l=>by rw[ByteArray.toList_eq]
 show some (Value.bool (!(ByteArray.toList ⟨a.toArray⟩ == ByteArray.toList ⟨b.toArray⟩)))=_
 rw[h,h]
 congr 3
 cases h2:a == b
 ·rw[decide_eq_false (by simpa using h2)]
 ·rw[decide_eq_true (by simpa using h2)]
theorem Hw {n:Nat}:(decDigits n=[49])↔n=1:=by
 have e:decDigits 1=[49]:=by rw[gF (by decide)];rfl
 rw[←e]
 exact⟨XB,fun h=>by rw[h]⟩
theorem Gn (q:Rat) (hk:rU q≤1099511627776):TC 86 [Ak q] (.eX [aY (Bc q),VB (rN q)]):=by
 refine TC.walk ⟨true,false⟩ Ee rfl (Nat.le_of_ble_eq_true rfl) (by simp[aO,JA]) rfl ?_
 have la:=Xa hk
 have lb:=VE hk
 have t1:=zP q.num.natAbs (ahE (by omega))
 have t2:=zP q.den (ahE (by omega))
 have d1:=Du q.num.natAbs
 have d2:=Du q.den
 have a1:cY .add (.string ⟨#[45]⟩) (.string ⟨(decDigits q.num.natAbs).toArray⟩)=some (.string ⟨(45::decDigits q.num.natAbs).toArray⟩):=DS [45] _ (by simp only[List.length_cons,List.length_nil];omega)
 have a2:cY .add (.string ⟨#[47]⟩) (.string ⟨(decDigits q.den).toArray⟩)=some (.string ⟨(47::decDigits q.den).toArray⟩):=DS [47] (decDigits q.den) (by simp only[List.length_cons,List.length_nil];omega)
 have a3:=DS (45::decDigits q.num.natAbs) (47::decDigits q.den) (by simp only[List.length_cons];omega)
 have a4:=DS (decDigits q.num.natAbs) (47::decDigits q.den) (by simp only[List.length_cons];omega)
 have ne:cY .neq (.string ⟨(decDigits q.den).toArray⟩) (.string ⟨#[49]⟩)=_:=Yu (decDigits q.den) [49]
 have hf:rN q=(decide (((decDigits q.num.natAbs).length:Int)≤200)&&decide (((decDigits q.den).length:Int)≤200)):=by
  unfold rN
  congr 1<;>exact decide_eq_decide.2 (by omega)
 rw[hf]
 have hs:Bc q=(if q.num<0 then (45::decDigits q.num.natAbs) else decDigits q.num.natAbs)++(if q.den=1 then [] else 47::decDigits q.den):=by
  unfold Bc
  by_cases hn:q.num<0
  ·rw[if_pos hn,if_pos hn];rfl
  ·rw[if_neg hn,if_neg hn];rfl
 rw[hs]
 by_cases hd:q.den=1
 ·rw[decide_eq_true (Hw.2 hd)] at ne
  rw[if_pos hd,List.append_nil]
  by_cases hn:q.num<0<;>by_cases hl:((decDigits q.num.natAbs).length:Int)≤200
  all_goals
   simp only[rA,oT,t1,t2,a1,a2,a3,a4,ne,hn,hl,bL,bP,Hm,Q3,QO,Qt,xN,iB,hO,fS,kC,Nat.reduceLeDiff,Nat.reduceLT,Nat.reduceSub,VX,Nat.reduceEqDiff,Nat.reduceAdd]
   exact aI rfl
 ·rw[decide_eq_false (mt Hw.1 hd)] at ne
  rw[if_neg hd]
  by_cases hn:q.num<0<;>by_cases hl:((decDigits q.num.natAbs).length:Int)≤200
  all_goals
   simp only[rA,oT,t1,t2,a1,a2,a3,a4,ne,hn,hl,bL,bP,Hm,Q3,QO,Qt,xN,iB,hO,fS,kC,Nat.reduceLeDiff,Nat.reduceLT,Nat.reduceSub,VX,Nat.reduceEqDiff,Nat.reduceAdd]
   exact aI rfl
def Df (q:Rat):VV:=if rN q=true then .eX [aY (Bc q),VB true] else .eX [aY [],VB false]
theorem Kf (q:Rat):iZ (Df q)=true:=by unfold Df;split<;>rfl
theorem Ot (q:Rat) (hk:rU q≤1099511627776):TC 91 [Ak q] (Df q):=by
 refine TC.walk ⟨true,false⟩ MC rfl (Nat.le_of_ble_eq_true rfl) (by simp[aO,JA]) (Kf q) ?_
 have t1:=Gn q hk
 unfold Df
 by_cases h:rN q=true
 ·rw[h] at t1
  rw[if_pos h]
  simp only[E7,A5,t1,bP,Hm,xN,iB,hO,fS,kC,Nat.reduceLeDiff,Nat.reduceLT,Nat.reduceSub,VX,Nat.reduceEqDiff,Nat.reduceAdd]
  exact aI rfl
 ·have h':rN q=false:=by simpa using h
  rw[h'] at t1
  rw[if_neg h]
  simp only[E7,A5,t1,bP,Hm,xN,iB,hO,fS,kC,Nat.reduceLeDiff,Nat.reduceLT,Nat.reduceSub,VX,Nat.reduceEqDiff,Nat.reduceAdd]
  exact aI rfl
def qJ (t b:Int):Rat:=mkRat (Cm (decide (t<0) != decide (b<0)) t.natAbs) b.natAbs
theorem XO {n:Nat} (h:n≤9223372036854775808):bl n≤64:=Qg (by omega)
theorem yI {t b:Int} (ht:t.natAbs≤9223372036854775808) (hb:b.natAbs≤9223372036854775808):rU (qJ t b)≤64:=HC (by rw[yS];exact XO ht) (XO hb) (by decide)
def Cu (t b:Int):VV:=if b=0 then .eX [aY [],VB false] else Df (qJ t b)
theorem J1 (t b:Int):iZ (Cu t b)=true:=by
 unfold Cu
 split
 ·rfl
 ·exact Kf _
theorem BT (t b:Int) (ht0 : -9223372036854775808≤t) (ht1:t≤9223372036854775807) (hb0 : -9223372036854775808≤b) (xE:b≤9223372036854775807):TC 53 [VI t,VI b] (Cu t b):=by
 refine TC.walk ⟨true,false⟩ BY rfl (Nat.le_of_ble_eq_true rfl) rfl (J1 t b) ?_
 unfold Cu
 by_cases h:b=0
 ·rw[if_pos h]
  simp only[oX,mJ,h,kC,Nat.reduceLeDiff,Nat.reduceLT,Nat.reduceSub,VX,Nat.reduceEqDiff,Nat.reduceAdd]
  exact aI rfl
 ·rw[if_neg h]
  have m1:=wM t ht0 ht1
  have m2:=wM b hb0 xE
  have n1:=rY t.natAbs (by omega)
  have n2:=rY b.natAbs (by omega)
  have k1:=XO (n:=t.natAbs) (by omega)
  have k2:=XO (n:=b.natAbs) (by omega)
  have l1:=I6 (decide (t<0) != decide (b<0)) t.natAbs b.natAbs (by omega) (by omega) (by omega)
  have t1:=Ot (qJ t b) (Nat.le_trans (yI (by omega) (by omega)) (by decide))
  have x:Df (qJ t b) = .eX [(if rN (qJ t b)=true then aY (Bc (qJ t b)) else aY []),VB (rN (qJ t b))]:=by
   unfold Df
   cases rN (qJ t b)<;>rfl
  rw[x] at t1 ⊢
  unfold qJ at *
  simp only[oX,mJ,h,m1,m2,n1,n2,l1,t1,CF,bP,Hm,xN,iB,hO,fS,kC,Nat.reduceLeDiff,Nat.reduceLT,Nat.reduceSub,VX,Nat.reduceEqDiff,Nat.reduceAdd]
  exact aI (by cases rN (mkRat (Cm (decide (t<0) != decide (b<0)) t.natAbs) b.natAbs)<;>rfl)
end Go.PM
namespace Go.PM
open Go.Lib
abbrev bV (b:UInt8):VV := .sc (.int .u8 (b.toNat:Int))
theorem ID:∀bs:List UInt8,ES (bs.map bV)=some bs
 | []=>rfl
 |
  b::bs=>by
  rw[List.map_cons]
  show (ES (bs.map bV)).map (UInt8.ofNat ((b.toNat:Int)).toNat :: ·)=_
  rw[ID bs]
  simp
structure Ig (v:VV) (H:aC) (bs:List UInt8):Prop where
 len:lY v H=some (VI bs.length)
 src:cM 1 v H=some (bs.map bV)
 nsc:∀x,v ≠ .sc x
theorem Ig.str {v:VV} {H:aC} {bs:List UInt8} (h:Ig v H bs) {fl:Fl} {lo:Nat} {x:Operand} {ρ:cN} (hx:dJ ρ x=v):vop fl lo (.b2s x) ρ H=some (aY bs,H):=by
 have h1:=h.nsc
 have h2:=h.src
 unfold vop
 dsimp only
 rw[hx]
 cases v with
 | sc x=>exact absurd rfl (h1 x)
 | _=>simp only[h2,ID,Option.map_some]
theorem R4 {bs:List UInt8} {k:TK} {H:aC}:cM 1 (.tree (bs.map bV) k) H=some (bs.map bV):=by
 have:((bs.map bV).all fun x=>(aB x).length == 1&&(aB x).all cB)=true:=by
  rw[List.all_eq_true]
  intro x hx
  obtain⟨d,_,rfl⟩:=List.mem_map.1 hx
  rfl
 simp only[cM,this,if_true]
theorem Ig.tree {bs:List UInt8} {k:TK} {H:aC}:Ig (.tree (bs.map bV) k) H bs:=⟨dS,R4,fun x=>by simp⟩
theorem Ig.row {bs:List UInt8} {H:aC} {b g:Nat} {w:Bool} (h:aM H b g=some (bs.map bV,1,w)):Ig (.ref b g 0 bs.length bs.length) H bs:=by
 refine⟨dI h,?_,fun x=>by simp⟩
 have iN:(((bs.map bV).drop 0).take bs.length).all (fun x=>(aB x).all cB)=true:=by
  rw[List.all_eq_true]
  intro x hx
  obtain⟨d,_,rfl⟩:=List.mem_map.1 (List.mem_of_mem_drop (List.mem_of_mem_take hx))
  rfl
 simp only[cM,h]
 rw[if_pos ⟨trivial,by simp,iN⟩,List.drop_zero,List.take_of_length_le (by simp)]
theorem Ig.cons {v:VV} {H:aC} {bs:List UInt8} (h:Ig v H bs) (x:UInt8) (hl:bs.length≤1000000) (lo:Nat):∃v' H',dW lo 1 1 (.tree [bV x] (.cl 1)) (bs.map bV) H=some (v',H')∧Ig v' H' (x::bs):=by
 by_cases hb:bs=[]
 ·subst hb
  exact⟨_,_,rfl,Ig.tree (bs:=[x])⟩
 ·have cI:bs.length≠0:=fun h=>hb (List.length_eq_zero_iff.1 h)
  refine⟨.ref H.length 0 0 (x::bs).length (x::bs).length,H++[.row 0 ((x::bs).map bV) 1 true],?_,Ig.row (Vy rfl)⟩
  simp only[dW,List.length_map]
  rw[if_pos ⟨by decide,by decide⟩,if_pos trivial,if_neg cI,if_pos (by simp;omega)]
  simp[Nat.add_comm]
end Go.PM
namespace Go.PM
open Go.Lib
theorem FU (l:List UInt8) (a b:Nat):(⟨l.toArray⟩:ByteArray).extract a b=⟨((l.drop a).take (b-a)).toArray⟩:=by
 rw[ByteArray.ext_iff,ByteArray.data_extract]
 simp[List.extract_toArray,List.extract_eq_take_drop]
theorem TZ (l:List UInt8) {a b:Nat} (h:a≤b) (hb:b≤l.length):FW (aY l) (some (VI (a:Int))) (some (VI (b:Int)))=some (aY ((l.drop a).take (b-a))):=by
 have hs:(⟨l.toArray⟩:ByteArray).size=l.length:=by simp[ByteArray.size]
 have e1:(0:Int)≤b∧(b:Int)≤(l.length:Int):=by omega
 have e2:(0:Int)≤a∧(a:Int)≤(b:Int):=by omega
 simp only[FW,Dq,BB,hs,dK,e1,e2,and_self,if_true,Int.toNat_natCast,FU]
theorem SA (l:List UInt8) {a:Nat} (h:a≤l.length):FW (aY l) (some (VI (a:Int))) none=some (aY (l.drop a)):=by
 have hs:(⟨l.toArray⟩:ByteArray).size=l.length:=by simp[ByteArray.size]
 have e2:(0:Int)≤a∧(a:Int)≤(l.length:Int):=by omega
 simp only[FW,Dq,BB,hs,dK,e2,and_self,if_true,Int.toNat_natCast,FU]
 rw[List.take_of_length_le (by simp)]
end Go.PM