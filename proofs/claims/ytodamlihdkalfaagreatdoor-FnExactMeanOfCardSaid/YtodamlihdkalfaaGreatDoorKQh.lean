/- Texts of a claim, in one: part 8. -/
import Derived.Lib.Bytealg
import Derived.Lib.ParseIntB
import Derived.Test.YtodamlihdkalfaaGreatDoorKQg
set_option linter.unusedSimpArgs false
set_option linter.unusedVariables false
namespace Go.PM
theorem Jn {a n:Nat} (hn:(aC 4294967296 a).length=n+1):∃d,(aC 4294967296 a)[n]? = some d∧d≠0∧d<4294967296:=by
 obtain⟨d,hd⟩:∃d,(aC 4294967296 a)[n]? = some d:=⟨_,List.getElem?_eq_getElem (by omega)⟩
 refine⟨d,hd,fun h0 => ?_,eE (by decide) a d (List.mem_of_getElem? hd)⟩
 have:=J7 (b:=4294967296) (by decide) a
 rw[List.getLast?_eq_getElem?,hn,Nat.add_sub_cancel,hd,h0] at this
 exact this rfl
theorem OM {a d:Nat} (h:aC 4294967296 a=[d]):a=d∧0<d∧d<4294967296:=by
 have h1:=bW (b:=4294967296) (by decide) a
 rw[h,val_one] at h1
 obtain⟨e,h2,h3,h4⟩:=Jn (a:=a) (n:=0) (by rw[h];rfl)
 rw[h] at h2
 cases h2
 exact⟨h1.symm,by omega,h4⟩
theorem uO (a b:Nat) (hb:b≠0) (ha:(aC 4294967296 a).length≤17592186044416) (sN:(aC 4294967296 b).length≤17592186044416):TC 173 [bC a,bC b] (.eK [bC (a / b),bC (a % b)]):=by
 refine TC.walk ⟨true,false⟩ Fz rfl (Nat.le_of_ble_eq_true rfl) (by simp[aK,bJ]) (by simp[gH,pE,nY]) ?_
 have c1:=iO a b ha sN
 by_cases Dw:dX a b<0
 ·have aX:a<b:=by
   unfold dX at Dw
   split at Dw
   ·assumption
   ·split at Dw<;>omega
  simp only[pK,nE,c1,Dw,VX,Nat.reduceEqDiff,Nat.reduceAdd]
  rw[Nat.div_eq_of_lt aX,Nat.mod_eq_of_lt aX]
  exact bG (d:=6) tD (aJ (bJ a))
 have Cl:b≤a:=by
  unfold dX at Dw
  split at Dw
  ·omega
  ·omega
 have hbn:(aC 4294967296 b).length≠0:=fun h=>hb ((kA (b:=4294967296) (by decide)).1 (List.length_eq_zero_iff.1 h))
 by_cases h1:(((aC 4294967296 b).length:Nat):Int)=1
 ·obtain⟨d,hd⟩:∃d,aC 4294967296 b=[d]:=by
   match hx:aC 4294967296 b with
   | []=>rw[hx] at hbn;exact absurd rfl hbn
   | [d]=>exact⟨d,rfl⟩
   | _::_::_=>rw[hx] at h1;simp at h1;omega
  obtain⟨rfl,Bj,hdW⟩:=OM hd
  have c2:=sY a b Bj hdW ha
  have e0:pF (bC b) []=some (VI 1):=by rw[bC,yT,dZ,hd];rfl
  have e1:bF 1 (bC b) (VI 0) []=some (.cO (uV b) 0):=by
   rw[bC,hd]
   exact aP (f:=uV) (t := .op) (H:=[]) (size:=1) (k := .i64) (xs:=[b]) (i:=0) rfl rfl
  have e2:=sE (H:=[]) (z:=[.int .u32 0]) (v:=uV (a % b)) rfl rfl rfl
  have e3:=U5 (size:=1) (v:=Value.int .u32 ((b:Nat):Int))
  simp only[pK,nE,c1,Dw,e0,e1,c2,e2,VX,Nat.reduceEqDiff,Nat.reduceAdd]
  refine IY (ds:=[a % b]) (t := .cl 1) (fun d hd => ?_) (by show 1≤70368744177664;decide) (val_one _) fun t' ht => ?_
  ·rw[List.mem_singleton] at hd
   subst hd
   exact Nat.lt_of_lt_of_le (Nat.mod_lt _ Bj) (Nat.le_of_lt hdW)
  ·simp only[VX,Nat.reduceEqDiff,Nat.reduceAdd]
   exact bG (d:=6) (aJ (bJ _)) (U7 (d:=5) ht)
 obtain⟨n,hn⟩:∃n,(aC 4294967296 b).length=n+2:=⟨(aC 4294967296 b).length-2,by omega⟩
 obtain⟨t,ht,ht0,htW⟩:=Jn (a:=b) (n:=n+1) hn
 obtain⟨s,hs,cl,Vc⟩:=P9 ht0 htW
 have hS:0<2^s:=Nat.pow_pos (by decide)
 have hSW:2^s*2^(32-s)=4294967296:=by rw[←Nat.pow_add,show s+(32-s)=32 by omega]
 have hla:=dD (b:=4294967296) (by decide) Cl
 have e0:pF (bC b) []=some (VI ((n+2:Nat):Int)):=by rw[bC,yT,dZ,hn]
 have w0:IntKind.i64.wrap (((n+2:Nat):Int)-1)=((n+1:Nat):Int):=wrapN _ (by omega) (by omega)
 have TE:¬(((n+2:Nat):Int)=1):=by omega
 have e1:bF 1 (bC b) (VI ((n+1:Nat):Int)) []=some (.cO (uV t) 0):=aP (f:=uV) (t := .op) (H:=[]) (size:=1) (k := .i64) ht rfl
 simp only[pK,nE,c1,Dw,e0,TE,w0,e1,cl,VX,Nat.reduceEqDiff,Nat.reduceAdd]
 have fa:[bC a,VI (s:Int)].mapM (fz depth ([]:aB))=some [bC a,VI (s:Int)]:=fz2 (aH (bJ a)) (aH rfl)
 refine FC.call (uI a s hs ha) rfl fa ?_
 rintro r L ⟨Fp,rfl,rfl,hAl,hAd,hAv,hAt⟩
 simp only[VX,Nat.reduceEqDiff,Nat.reduceAdd]
 have fb:∀H:aB,[bC b,VI (s:Int)].mapM (fz depth H)=some [bC b,VI (s:Int)]:=fun H=>fz2 (aH (bJ b)) (aH rfl)
 refine FC.call (uI b s hs sN) rfl (fb _) ?_
 rintro r L ⟨Ck,rfl,rfl,hBl,hBd,hBv,hBt⟩
 rw[hn] at hBl
 simp only[hn,List.length_singleton,VX,Nat.reduceEqDiff,Nat.reduceAdd]
 have aaS:b*2^s<4294967296^(n+2):=by
  have h2:=(xB (n:=n+1) (eE (b:=4294967296) (by decide) b) hn ht).2
  rw[bW (by decide)] at h2
  have h3:b*2^s<(t+1)*4294967296^(n+1)*2^s:=Nat.mul_lt_mul_of_pos_right h2 hS
  have h4:(t+1)*4294967296^(n+1)*2^s=(t+1)*2^s*4294967296^(n+1):=by grind
  have h5:(t+1)*2^s≤4294967296:=by
   have h6:t*2^s<2^(32-s)*2^s:=by rw[Nat.mul_comm (2^(32-s)),hSW];exact Vc
   have h7:=Nat.lt_of_mul_lt_mul_right h6
   have h8:(t+1)*2^s≤2^(32-s)*2^s:=Nat.mul_le_mul_right _ h7
   rwa [Nat.mul_comm (2^(32-s)),hSW] at h8
  have h9:(t+1)*2^s*4294967296^(n+1)≤4294967296*4294967296^(n+1):=Nat.mul_le_mul_right _ h5
  have h10:4294967296*4294967296^(n+1)=4294967296^(n+2):=by rw[Nat.pow_succ 4294967296 (n+1)];exact Nat.mul_comm _ _
  omega
 have Zk:(aC 4294967296 (b*2^s)).length=n+2:=by
  have h2:=kI (b:=4294967296) (by decide) aaS
  have h3:b≤b*2^s:=Nat.le_mul_of_pos_right b hS
  have h4:=dD (b:=4294967296) (by decide) h3
  omega
 refine oY (rows:=Ck) (m:=b*2^s) (by rfl) (by omega) (by omega) (by omega) (fun d hd=>hBd d (List.mem_of_mem_take hd)) (by rw[List.take_of_length_le (by omega)];exact hBv) fun k hk he => ?_
 have XS:k=n+2:=by
  have:=congrArg List.length he
  rw[Zk,List.length_take] at this
  omega
 subst XS
 generalize MU:aC 4294967296 (b*2^s)=vs at *
 have DC:∀d∈vs,d<4294967296:=by rw[←MU];exact eE (by decide) _
 have Js:val 4294967296 vs=b*2^s:=by rw[←MU];exact bW (by decide) _
 obtain⟨v1,f1⟩:∃v1,vs[n+1]? = some v1:=⟨_,List.getElem?_eq_getElem (by omega)⟩
 obtain⟨v0,f0⟩:∃v0,vs[n]? = some v0:=⟨_,List.getElem?_eq_getElem (by omega)⟩
 have ZH:1≤v1:=by
  obtain⟨d,hd,Bj,_⟩:=Jn (a:=b*2^s) (n:=n+1) (by rw[MU];exact Zk)
  rw[MU,f1] at hd
  cases hd
  omega
 have b1:Ck[n+1]? = some v1:=by rw[←f1,←he,List.getElem?_take_of_lt (by omega)]
 have b0:Ck[n]? = some v0:=by rw[←f0,←he,List.getElem?_take_of_lt (by omega)]
 have lv1:=DC v1 (List.mem_of_getElem? f1)
 have lv0:=DC v0 (List.mem_of_getElem? f0)
 have x1:bF 1 (.ref 1 0 0 (n+2) (n+2+1)) (VI ((n+1:Nat):Int)) [.row 0 (Fp.map uV) 1 true,.row 0 (Ck.map uV) 1 true]=some (.ptr 1 0 (n+1) 0):=by rw[bD (by rfl) (by omega),Nat.zero_add]
 have x0:bF 1 (.ref 1 0 0 (n+2) (n+2+1)) (VI ((n:Nat):Int)) [.row 0 (Fp.map uV) 1 true,.row 0 (Ck.map uV) 1 true]=some (.ptr 1 0 n 0):=by rw[bD (by rfl) (by omega),Nat.zero_add]
 have y1:gS false 1 (.ptr 1 0 (n+1) 0) [.row 0 (Fp.map uV) 1 true,.row 0 (Ck.map uV) 1 true]=some (uV v1):=gN (rows:=Ck) (g:=0) (w:=true) (by rfl) b1
 have y0:gS false 1 (.ptr 1 0 n 0) [.row 0 (Fp.map uV) 1 true,.row 0 (Ck.map uV) 1 true]=some (uV v0):=gN (rows:=Ck) (g:=0) (w:=true) (by rfl) b0
 have z0:pF (.ref 1 0 0 (n+2) (n+2+1)) [.row 0 (Fp.map uV) 1 true,.row 0 (Ck.map uV) 1 true]=some (VI ((n+2:Nat):Int)):=iU (r:=(Ck.map uV,1,true)) (by rfl)
 have z1:pF (.ref 0 0 0 ((aC 4294967296 a).length+1) ((aC 4294967296 a).length+1)) [.row 0 (Fp.map uV) 1 true,.row 0 (Ck.map uV) 1 true]=some (VI (((aC 4294967296 a).length+1:Nat):Int)):=iU (r:=(Fp.map uV,1,true)) (by rfl)
 have w2:IntKind.i64.wrap (((n+2:Nat):Int)-2)=((n:Nat):Int):=wrapN _ (by omega) (by omega)
 have wv1:IntKind.u64.wrap (v1:Int)=(v1:Int):=eG _ (by omega)
 have wv0:IntKind.u64.wrap (v0:Int)=(v0:Int):=eG _ (by omega)
 obtain⟨m,hm⟩:∃m,m+(n+2)=(aC 4294967296 a).length+1:=⟨(aC 4294967296 a).length+1-(n+2),by omega⟩
 have wm:IntKind.i64.wrap ((((aC 4294967296 a).length+1:Nat):Int)-((n+2:Nat):Int))=(m:Int):=wrapN _ (by omega) (by omega)
 have wm1:IntKind.i64.wrap ((m:Int)-1)=(m:Int)-1:=wrap64 (by omega) (by omega)
 have mk:=Rp m 0 (by omega) (H:=[.row 0 (Fp.map uV) 1 true,.row 0 (Ck.map uV) 1 true])
 have z2:pF (.ref 2 0 0 m m) (H3 Fp Ck (List.replicate m 0))=some (VI m):=iU (r:=((List.replicate m 0).map uV,1,true)) (by rfl)
 simp only[w0,x1,x0,y1,y0,z0,z1,w2,wv1,wv0,wm,mk,z2,wm1,List.length_cons,List.length_nil,VX,Nat.reduceEqDiff,Nat.reduceAdd]
 have As:val 4294967296 (Fp.drop m)<val 4294967296 vs:=by
  obtain⟨d,hd⟩:∃d,Fp[(aC 4294967296 a).length]? = some d:=⟨_,List.getElem?_eq_getElem (by omega)⟩
  have h2:=(xB (b:=4294967296) (xs:=Fp.drop m) (n:=n+1) (t:=d) (fun x hx=>hAd x (List.mem_of_mem_drop hx)) (by rw[List.length_drop];omega) (by rw[List.getElem?_drop,show m+(n+1)=(aC 4294967296 a).length by omega];exact hd)).2
  have h3:=hAt d hd
  have h4:=(xB (n:=n+1) (eE (b:=4294967296) (by decide) b) hn ht).1
  rw[bW (by decide)] at h4
  have h5:(d+1)*4294967296^(n+1)≤2^s*4294967296^(n+1):=Nat.mul_le_mul_right _ h3
  have h6:1*4294967296^(n+1)≤t*4294967296^(n+1):=Nat.mul_le_mul_right _ (by omega)
  have h7:1*4294967296^(n+1)*2^s≤b*2^s:=Nat.mul_le_mul_right _ (by omega)
  rw[Js]
  rw[Nat.one_mul,Nat.mul_comm] at h7
  omega
 refine Wi (Cm:=Fp) (ws:=Ck) (Uq:=List.replicate m 0) (vs:=vs) (N:=(aC 4294967296 a).length+1) (m:=m) (n:=n) (A:=a*2^s) (s:=s) hAl hm (by omega) hAd he hBl Zk DC f1 f0 ZH hAv As (by simp) (xE (by decide) _) (by rfl) (by rfl) (by rfl) (by rfl) (by rfl) (by rfl) (by rfl) ?_
 intro tZ us os r8 r9 Ym MS Gq iC jS hv aX
 rw[Js] at hv aX
 have hq:val 4294967296 os=a / b:=by
  rw[←Nat.mul_div_mul_right a b hS,←hv,Nat.add_mul_div_left _ _ (by omega),Nat.div_eq_of_lt aX,Nat.zero_add]
 have hr:val 4294967296 us=a % b*2^s:=by
  rw[←Nat.mul_mod_mul_right,←hv,Nat.add_mul_mod_self_left,Nat.mod_eq_of_lt aX]
 simp only[r9,VX,Nat.reduceEqDiff,Nat.reduceAdd]
 refine oY (rows:=us) (m:=a % b*2^s) AD (by omega) (Nat.le_refl _) (by omega) (fun d hd=>Gq d (List.mem_of_mem_take hd)) (by rw[List.take_of_length_le (by omega)];exact hr) fun k hk he2 => ?_
 have z3:pF (.ref 0 0 0 k ((aC 4294967296 a).length+1)) (H3 us Ck os)=some (VI k):=iU AD
 simp only[z3,VX,Nat.reduceEqDiff,Nat.reduceAdd]
 refine Ui (us:=us) (k:=k) (N:=(aC 4294967296 a).length+1) (s:=s) (w0:=2^(32-s)) hs hSW MS hk (by omega) Gq r8 (by rfl) (by rfl) (by rfl) ?_
 intro Ke EE q9 q13 acQ XY hv'
 have amC:Ke 13 = .ref 2 0 0 m m:=q13.trans Ym
 have Bm:val 4294967296 (EE.take k)=a % b:=by
  rw[hv',he2,bW (by decide),Nat.mul_div_cancel _ hS]
 simp only[q9,amC,VX,Nat.reduceEqDiff,Nat.reduceAdd]
 refine oY (rows:=os) (m:=a / b) YI (by omega) (Nat.le_refl _) (by omega) (fun d hd=>jS d (List.mem_of_mem_take hd)) (by rw[List.take_of_length_le (by omega)];exact hq) fun k2 XS he3 => ?_
 simp only[q9,VX,Nat.reduceEqDiff,Nat.reduceAdd]
 refine oY (rows:=EE) (m:=a % b) AD (by omega) hk (by omega) (fun d hd=>XY d (List.mem_of_mem_take hd)) Bm fun k3 hk3 he4 => ?_
 simp only[VX,Nat.reduceEqDiff,Nat.reduceAdd]
 exact bG (d:=6) (Hm (d:=5) YI (by omega) XS he3) (Hm (d:=5) AD (by omega) (by omega) he4)
end Go.PM
namespace Go.PM
theorem dB (n:Nat) {H:aB}:pF (bC n) H=some (VI (aC 4294967296 n).length):=dZ
theorem tL {n:Nat}:(0:Int)<((aC 4294967296 n).length:Int)↔n≠0:=by
 constructor
 ·intro h h0
  subst h0
  rw[bR] at h
  simp at h
 ·intro h
  have:=(kA (b:=4294967296) (by decide) (n:=n))
  have h2:aC 4294967296 n≠[]:=fun hx=>h (this.1 hx)
  have:=List.length_pos_iff.2 h2
  omega
theorem Nu {n:Nat} (h:(aC 4294967296 n).length≤2):n<18446744073709551616:=by
 have h1:=fN (b:=4294967296) (by decide) n
 have h2:4294967296^(aC 4294967296 n).length≤4294967296^2:=Nat.pow_le_pow_right (by decide) h
 omega
theorem BJ (a b:Nat) (ha:(aC 4294967296 a).length≤17592186044416) (hb:(aC 4294967296 b).length≤17592186044416):TC 171 [bC a,bC b] (bC (Nat.gcd a b)):=by
 refine TC.walk ⟨true,false⟩ FU rfl (Nat.le_of_ble_eq_true rfl) (by simp[aK,bJ]) (nY _) ?_
 simp only[Ba,yB,VX,Nat.reduceEqDiff,Nat.reduceAdd]
 refine bB (fun(t:Nat×Nat) ρ H=>H=[]∧Nat.gcd t.1 t.2=Nat.gcd a b∧(aC 4294967296 t.1).length≤17592186044416∧(aC 4294967296 t.2).length≤17592186044416∧ρ 0=bC t.1∧ρ 1=bC t.2) (fun t=>t.2) (a,b) ⟨rfl,rfl,ha,hb,rfl,rfl⟩ ?_
 rintro⟨x,y⟩ ρ H ⟨rfl,hg,hx,hy,g0,g1⟩
 simp only at hg hx hy g0 g1
 have c1:=yW x hx
 have c2:=yW y hy
 by_cases X9:y=0
 ·subst X9
  have hl:¬(0:Int)<((aC 4294967296 0).length:Int):=by rw[tL];omega
  rw[Nat.gcd_zero_right] at hg
  simp only[gM,g0,g1,dB,hl,VX,Nat.reduceEqDiff,Nat.reduceAdd]
  rw[hg]
  exact aH (bJ _)
 have hl:(0:Int)<((aC 4294967296 y).length:Int):=tL.2 X9
 by_cases h1:(aC 4294967296 x).length≤2∧(aC 4294967296 y).length≤2
 ·rw[if_pos h1.1] at c1
  rw[if_pos h1.2] at c2
  simp only[gM,g0,g1,dB,hl,c1,c2,VX,Nat.reduceEqDiff,Nat.reduceAdd]
  refine bB (fun(t:Nat×Nat) ρ H=>H=[]∧Nat.gcd t.1 t.2=Nat.gcd a b∧t.1<18446744073709551616∧t.2<18446744073709551616∧ρ 5=VK .u64 t.1∧ρ 7=VK .u64 t.2) (fun t=>t.2) (x,y) ⟨rfl,hg,Nu h1.1,Nu h1.2,rfl,rfl⟩ ?_
  rintro⟨u,v⟩ Ke H ⟨rfl,hg2,hu,hv,k5,k7⟩
  simp only at hg2 hu hv k5 k7
  by_cases hv0:v=0
  ·subst hv0
   rw[Nat.gcd_zero_right] at hg2
   have hz:¬(0:Int)<((0:Nat):Int):=by omega
   have c3:=kZ u hu
   simp only[pT,k5,k7,hz,c3,VX,Nat.reduceEqDiff,Nat.reduceAdd]
   rw[hg2]
   exact aH (bJ _)
  ·have hz:(0:Int)<(v:Int):=by omega
   have r1:=MH u v (by omega)
   simp only[pT,k5,k7,hz,r1,VX,Nat.reduceEqDiff,Nat.reduceAdd]
   refine⟨(v,u % v),?_,?_,hv,?_,rfl,rfl⟩
   ·exact Nat.mod_lt _ (by omega)
   ·simp only
    rw[←hg2,Nat.gcd_comm u v,Nat.gcd_rec v u,Nat.gcd_comm]
   ·simp only
    have:=Nat.mod_lt u (show 0<v by omega)
    omega
 ·have c3:=uO x y X9 hx hy
  have next:∃s':Nat×Nat,s'.2<y∧Nat.gcd s'.1 s'.2=Nat.gcd a b∧(aC 4294967296 s'.1).length≤17592186044416∧(aC 4294967296 s'.2).length≤17592186044416∧bC y=bC s'.1∧bC (x % y)=bC s'.2:=by
   have hm:=Nat.mod_lt x (show 0<y by omega)
   refine⟨(y,x % y),hm,?_,hy,?_,rfl,rfl⟩
   ·simp only
    rw[←hg,Nat.gcd_comm x y,Nat.gcd_rec y x,Nat.gcd_comm]
   ·simp only
    have:=dD (b:=4294967296) (by decide) (Nat.le_of_lt hm)
    omega
  by_cases h2:(aC 4294967296 x).length≤2
  ·have h3:¬(aC 4294967296 y).length≤2:=fun h=>h1 ⟨h2,h⟩
   rw[if_pos h2] at c1
   rw[if_neg h3] at c2
   simp only[gM,g0,g1,dB,hl,c1,c2,c3,VX,Nat.reduceEqDiff,Nat.reduceAdd]
   exact next
  ·rw[if_neg h2] at c1
   by_cases h3:(aC 4294967296 y).length≤2
   ·rw[if_pos h3] at c2
    simp only[gM,g0,g1,dB,hl,c1,c2,c3,VX,Nat.reduceEqDiff,Nat.reduceAdd]
    exact next
   ·rw[if_neg h3] at c2
    simp only[gM,g0,g1,dB,hl,c1,c2,c3,VX,Nat.reduceEqDiff,Nat.reduceAdd]
    exact next
end Go.PM
namespace Go.PM
open Go.Lib
theorem rU (a b:List UInt8) (h:a.length+b.length≤9223372036854775807):cU .add (.string ⟨a.toArray⟩) (.string ⟨b.toArray⟩)=some (.string ⟨(a++b).toArray⟩):=by
 have h1:(⟨a.toArray⟩:ByteArray).size=a.length:=by simp[ByteArray.size]
 have h2:(⟨b.toArray⟩:ByteArray).size=b.length:=by simp[ByteArray.size]
 have h3:¬(((⟨a.toArray⟩:ByteArray).size+(⟨b.toArray⟩:ByteArray).size:Nat):Int)>IntKind.i64.max:=by
  rw[h1,h2]
  show ¬_>(9223372036854775807:Int)
  omega
 simp only[cU,h3,if_false]
 congr 2
theorem aZ (a:List UInt8):yO (.string ⟨a.toArray⟩)=some (.int .i64 (a.length:Int)):=by simp[yO,ByteArray.size]
theorem Y0:∀a:List UInt8,(aA (aR a)).length=1:=fun _=>rfl
theorem Th {xs:List (List UInt8)} {H:aB} {lo b g n:Nat} (hr:aV H b g=some (xs.map aR,1,true)) (hn:xs.length=n) (gY:lo≤b) (A1:n≤9223372036854775806) :
  uG 185 [.ref b g 0 n n] lo H fun r H'=>r = .eK []∧H'=H.set b (.row g (xs.reverse.map aR) 1 true):=by
 refine uG.walk ⟨true,false⟩ pD (Nat.le_of_ble_eq_true rfl) ?_
 have e0:pF (.ref b g 0 n n) H=some (VI n):=iU hr
 have w0:IntKind.i64.wrap ((n:Int)-1)=(n:Int)-1:=wrap64 (by omega) (by omega)
 simp only[jQ,iX,e0,w0,VX,Nat.reduceEqDiff,Nat.reduceAdd]
 refine bB (fun(t:Nat×List (List UInt8)) ρ K=>t.1≤n∧K=H.set b (.row g (t.2.map aR) 1 true)∧t.2.length=n∧(∀k,k<n→t.2[k]? = if k<t.1∨n≤k+t.1 then xs[n-1-k]? else xs[k]?)∧ρ 0 = .ref b g 0 n n∧ρ 2=VI t.1∧ρ 3=VI ((n:Int)-1-(t.1:Int))) (fun t=>n-t.1) (0,xs) ⟨Nat.zero_le _,(tF hr).symm,hn,fun k hk=>by rw[if_neg (by simp only;omega)],rfl,rfl,by show VI ((n:Int)-1)=VI ((n:Int)-1-((0:Nat):Int));rw[Int.natCast_zero,Int.sub_zero]⟩ ?_
 rintro⟨i,ys⟩ ρ K ⟨hi,rfl,hl,hy,g0,g2,g3⟩
 simp only at hi hl hy g2 g3
 have YC:aV (H.set b (.row g (ys.map aR) 1 true)) b g=some (ys.map aR,1,true):=lI hr
 by_cases cX:(i:Int)<(n:Int)-1-(i:Int)
 ·have hj:(n:Int)-1-(i:Int)=((n-1-i:Nat):Int):=by omega
  obtain⟨x,hx⟩:∃x,ys[i]? = some x:=⟨_,List.getElem?_eq_getElem (by omega)⟩
  obtain⟨y,hyy⟩:∃y,ys[n-1-i]? = some y:=⟨_,List.getElem?_eq_getElem (by omega)⟩
  rw[hj] at g3 cX
  have a1:∀(zs:List (List UInt8)) (k:Nat),zs.length=n→k<n→bF 1 (.ref b g 0 n n) (VI (k:Int)) (H.set b (.row g (zs.map aR) 1 true))=some (.ptr b g k 0):=fun zs k h1 h2=>by rw[bD (lI hr) h2,Nat.zero_add]
  have l1:gS false 1 (.ptr b g (n-1-i) 0) (H.set b (.row g (ys.map aR) 1 true))=some (aR y):=Ca YC hyy
  have l2:gS false 1 (.ptr b g i 0) (H.set b (.row g (ys.map aR) 1 true))=some (aR x):=Ca YC hx
  have s1:dC lo 1 (.ptr b g i 0) (aR y) (H.set b (.row g (ys.map aR) 1 true))=some (H.set b (.row g ((ys.set i y).map aR) 1 true)):=by rw[fX (f:=aR) (e:=1) YC (by omega) gY rfl rfl,kJ]
  have s2:dC lo 1 (.ptr b g (n-1-i) 0) (aR x) (H.set b (.row g ((ys.set i y).map aR) 1 true))=some (H.set b (.row g (((ys.set i y).set (n-1-i) x).map aR) 1 true)):=by rw[fX (f:=aR) (e:=1) (lI hr) (by rw[List.length_set];omega) gY rfl rfl,kJ]
  have w1:IntKind.i64.wrap ((i:Int)+1)=((i+1:Nat):Int):=wrapN _ (by omega) (by omega)
  have w2:IntKind.i64.wrap (((n-1-i:Nat):Int)-1)=(n:Int)-1-((i+1:Nat):Int):=by rw[wrap64 (by omega) (by omega)];omega
  have b1:=a1 ys i hl (by omega)
  have b2:=a1 ys (n-1-i) hl (by omega)
  have b3:=a1 (ys.set i y) (n-1-i) (by rw[List.length_set];exact hl) (by omega)
  simp only[eJ,g0,g2,g3,cX,b1,b2,b3,l1,l2,s1,s2,w1,w2,VX,Nat.reduceEqDiff,Nat.reduceAdd]
  refine⟨(i+1,(ys.set i y).set (n-1-i) x),by simp only;omega,by simp only;omega,rfl,by simp only[List.length_set];exact hl,fun k hk => ?_,by (repeat' apply And.intro)<;>first | rfl | trivial⟩
  simp only
  have hxx:=hy i (by omega)
  rw[if_neg (by omega),hx] at hxx
  have hyx:=hy (n-1-i) (by omega)
  rw[if_neg (by omega),hyy] at hyx
  rw[List.getElem?_set,List.getElem?_set,List.length_set]
  by_cases h1:n-1-i=k
  ·subst h1
   rw[if_pos rfl,if_pos (by omega),if_pos (by omega),show n-1-(n-1-i)=i by omega]
   exact hxx
  ·rw[if_neg h1]
   by_cases h2:i=k
   ·subst h2
    rw[if_pos rfl,if_pos (by omega),if_pos (by omega)]
    exact hyx
   ·rw[if_neg h2,hy k hk]
    by_cases h3:k<i∨n≤k+i
    ·rw[if_pos h3,if_pos (by omega)]
    ·rw[if_neg h3,if_neg (by omega)]
 ·have akE:ys=xs.reverse:=by
   apply List.ext_getElem?
   intro k
   rcases Nat.lt_or_ge k n with h | h
   ·rw[hy k h,List.getElem?_reverse (by omega),hn]
    split
    ·rfl
    ·rw[show n-1-k=k by omega]
   ·rw[List.getElem?_eq_none (by omega),List.getElem?_eq_none (by rw[List.length_reverse];omega)]
  subst akE
  simp only[eJ,g0,g2,g3,cX,VX,Nat.reduceEqDiff,Nat.reduceAdd]
  try exact⟨rfl,rfl⟩
theorem Td (n:Nat):(aC 1000000000 n).length≤2*(aC 4294967296 n).length:=by
 refine kI (by decide) ?_
 have h1:=fN (b:=4294967296) (by decide) n
 have h2:4294967296^(aC 4294967296 n).length≤(1000000000^2)^(aC 4294967296 n).length:=Nat.pow_le_pow_left (by decide) _
 rw[←Nat.pow_mul] at h2
 omega
theorem Yy {n:Nat} (hn:n≠0):(decDigits n).length≤9*(aC 1000000000 n).length:=by
 have h1:=fN (b:=1000000000) (by decide) n
 have h3:(aC 1000000000 n)≠[]:=fun h=>hn ((kA (by decide)).1 h)
 have h4:=List.length_pos_iff.2 h3
 generalize (aC 1000000000 n).length=L at *
 obtain⟨k,hk⟩:∃k,9*L=k+1:=⟨9*L-1,by omega⟩
 have h5:(1000000000:Nat)^L=10^(9*L):=by rw[show (1000000000:Nat)=10^9 by decide,←Nat.pow_mul]
 rw[h5,hk] at h1
 rw[hk]
 exact zB n k h1
def oT (q:Nat):List UInt8:=if q=0 then [] else decDigits q
theorem Ai (n:Nat) (hn:(aC 4294967296 n).length≤68719476736):TC 102 [bC n] (aR (decDigits n)):=by
 refine TC.walk ⟨true,false⟩ Dy rfl (Nat.le_of_ble_eq_true rfl) (by simp[aK,bJ]) rfl ?_
 by_cases h0:n=0
 ·subst h0
  have hl:(((aC 4294967296 0).length:Nat):Int)=0:=by rw[bR];rfl
  simp only[sQ,qJ,dB,hl,VX,Nat.reduceEqDiff,Nat.reduceAdd]
  rw[gP (by decide)]
  exact aH rfl
 have hl:¬(((aC 4294967296 n).length:Nat):Int)=0:=by have:=tL.2 h0;omega
 have e1:∀lr,qY lr [.string ⟨#[]⟩] 0 [] []=some (.ref 0 0 0 0 0,[.row 0 (([]:List (List UInt8)).map aR) 1 true]):=fun lr=>nS (H:=[]) (lr:=lr) (z:=[.string ⟨#[]⟩]) rfl
 have hTn:=Td n
 have hdl:=Yy h0
 simp only[sQ,qJ,dB,hl,e1,VX,Nat.reduceEqDiff,Nat.reduceAdd]
 refine bB (fun(t:Nat×List (List UInt8)) ρ H=>H=[.row t.2.length (t.2.map aR) 1 true]∧t.1≤n∧t.2.length+(aC 1000000000 t.1).length=(aC 1000000000 n).length∧decDigits n=oT t.1++t.2.reverse.flatten∧ρ 0=bC t.1∧ρ 3 = .ref 0 t.2.length 0 t.2.length t.2.length) (fun t=>t.1) (n,[]) ⟨rfl,Nat.le_refl _,by simp,by simp[oT,h0],rfl,rfl⟩ ?_
 rintro⟨q,ps⟩ ρ H ⟨rfl,hq,hlen,Ti,g0,g3⟩
 simp only at hq hlen Ti g0 g3
 by_cases JN:q=0
 ·subst JN
  have hz:¬(0:Int)<((aC 4294967296 0).length:Int):=by rw[tL];omega
  rw[oT,if_pos rfl,List.nil_append] at Ti
  have hr:aV [.row ps.length (ps.map aR) 1 true] 0 ps.length=some (ps.map aR,1,true):=cE
  simp only[kY,g0,g3,dB,hz,VX,Nat.reduceEqDiff,Nat.reduceAdd]
  refine oX rfl ((Th hr rfl (Nat.le_refl _) (by omega)).mono ?_)
  rintro r H' ⟨rfl,rfl⟩
  have Fk:([.row ps.length (ps.map aR) 1 true]:aB).set 0 (.row ps.length (ps.reverse.map aR) 1 true)=[.row ps.length (ps.reverse.map aR) 1 true]:=rfl
  have YC:aV [.row ps.length (ps.reverse.map aR) 1 true] 0 ps.length=some (ps.reverse.map aR,1,true):=cE
  have hfl:ps.reverse.flatten.length≤140737488355328:=by rw[←Ti];omega
  have cj:=(abR ps.reverse (by rw[List.length_reverse];omega) hfl).flat (H:=[.row ps.length (ps.reverse.map aR) 1 true]) (args:=[.ref 0 ps.length 0 ps.length ps.length,aR []]) rfl (by simp only[aK,jC (f:=aR) Y0 (fun _=>rfl),Bool.and_true];rfl) (fz2 (Dv YC (by simp) (Nat.le_refl _) (dW fun _=>rfl)) (aH rfl)) rfl
  simp only[Fk,g3,cj,VX,Nat.reduceEqDiff,Nat.reduceAdd]
  rw[←Ti]
  exact aH rfl
 ·have hz:(0:Int)<((aC 4294967296 q).length:Int):=tL.2 JN
  have hql:=dD (b:=4294967296) (by decide) hq
  have c1:TC 183 [bC q,.sc (.int .u32 1000000000)] (.eK [bC (q / 1000000000),uV (q % 1000000000)]):=sY q 1000000000 (by decide) (by decide) (by omega)
  have hm:=Nat.mod_lt q (show 0<1000000000 by decide)
  have c2:=aaM (q % 1000000000) (by omega)
  have wm:IntKind.u64.wrap ((q % 1000000000:Nat):Int)=((q % 1000000000:Nat):Int):=eG _ (by omega)
  have hdq:=iB (b:=1000000000) (by decide) JN
  have arP:(aC 1000000000 q).length=(aC 1000000000 (q / 1000000000)).length+1:=by rw[hdq];rfl
  have Tp:=zB (q % 1000000000) 8 hm
  have hqq:=Nat.mod_add_div q 1000000000
  have e2:∀x:List UInt8,qY false [.string ⟨#[]⟩] 1 [(0,aR x)] [.row ps.length (ps.map aR) 1 true]=some (.tree [aR x] (.cl 1),[.row ps.length (ps.map aR) 1 true]):=fun x=>sE (z:=[.string ⟨#[]⟩]) rfl rfl rfl
  have e3:∀x:List UInt8,eY 1 (.tree [aR x] (.cl 1)) [.row ps.length (ps.map aR) 1 true]=some [aR x]:=fun x=>pC rfl rfl
  have e4:∀x:List UInt8,gF 0 1 16 (.ref 0 ps.length 0 ps.length ps.length) [aR x] [.row ps.length (ps.map aR) 1 true]=some (.ref 0 (ps.length+1) 0 (ps.length+1) (ps.length+1),[.row (ps.length+1) ((ps++[x]).map aR) 1 true]):=fun x=>by
   rw[oW (f:=aR) (x:=x) cE rfl (Nat.le_refl _) (by decide) (by decide) (by omega)]
   rfl
  have hle:q / 1000000000<q:=Nat.div_lt_self (by omega) (by decide)
  by_cases hqz:q / 1000000000=0
  ·have Pv:¬(0:Int)<((aC 4294967296 (q / 1000000000)).length:Int):=by rw[tL];omega
   simp only[kY,g0,g3,dB,hz,c1,c2,wm,Pv,e2,e3,e4,VX,Nat.reduceEqDiff,Nat.reduceAdd]
   refine⟨(q / 1000000000,ps++[decDigits (q % 1000000000)]),hle,by simp,by simp only;omega,by simp only[List.length_append,List.length_singleton];omega,?_,rfl,by simp⟩
   rw[Ti,oT,if_neg JN,oT,if_pos hqz,List.reverse_append,List.nil_append,List.reverse_singleton,List.singleton_append,List.flatten_cons,show q % 1000000000=q by omega]
  ·have Pv:(0:Int)<((aC 4294967296 (q / 1000000000)).length:Int):=tL.2 hqz
   have ws:IntKind.i64.wrap ((9:Int)-((decDigits (q % 1000000000)).length:Int))=((9-(decDigits (q % 1000000000)).length:Nat):Int):=wrapN _ (by omega) (by omega)
   have c3:=V5 [48] (9-(decDigits (q % 1000000000)).length) (by simp;omega) (by omega)
   have We:repeatL [48] (9-(decDigits (q % 1000000000)).length)++decDigits (q % 1000000000)=AA 9 (q % 1000000000):=by
    rw[acF 8 _ hm]
    congr 1
    have:=repeatL_replicate 48 1 (9-(decDigits (q % 1000000000)).length)
    rw[Nat.mul_one] at this
    exact this
   have c4:=rU (repeatL [48] (9-(decDigits (q % 1000000000)).length)) (decDigits (q % 1000000000)) (by rw[←List.length_append,We,YE];decide)
   rw[We] at c4
   simp only[kY,g0,g3,dB,hz,c1,c2,wm,Pv,aZ,ws,c3,c4,e2,e3,e4,VX,Nat.reduceEqDiff,Nat.reduceAdd]
   refine⟨(q / 1000000000,ps++[AA 9 (q % 1000000000)]),hle,by simp,by simp only;omega,by simp only[List.length_append,List.length_singleton];omega,?_,rfl,by simp⟩
   rw[Ti,oT,if_neg JN,oT,if_neg hqz,List.reverse_append,List.reverse_singleton,List.singleton_append,List.flatten_cons,←List.append_assoc,←Fw (by omega) hm]
   congr 2
   omega
end Go.PM
namespace Go.PM
def bl (n:Nat):Nat:=(aC 2 n).length
theorem J5 (n:Nat):n<2^bl n:=fN (by decide) n
theorem CP {n k:Nat} (h:n<2^k):bl n≤k:=kI (by decide) h
theorem jL {m n:Nat} (h:m≤n):bl m≤bl n:=dD (by decide) h
theorem lK (m n:Nat):bl (m*n)≤bl m+bl n:=by
 refine CP ?_
 rw[Nat.pow_add]
 exact Nat.mul_lt_mul'' (J5 m) (J5 n)
theorem Ea {n k:Nat} (h:bl n≤k):n<2^k:=Nat.lt_of_lt_of_le (J5 n) (Nat.pow_le_pow_right (by decide) h)
theorem PL {m n k:Nat} (hm:bl m≤k) (hn:bl n≤k):bl (m+n)≤k+1:=by
 refine CP ?_
 have h1:=Ea hm
 have h2:=Ea hn
 rw[Nat.pow_succ]
 omega
theorem Q7:bl 0=0:=by simp[bl,bR]
theorem IU:bl 1=1:=by simp[bl,iB (b:=2) (by decide) (n:=1) (by decide),bR]
theorem Vz {n:Nat} (h:n≠0):1≤bl n:=by
 have:=jL (m:=1) (n:=n) (by omega)
 rwa [IU] at this
theorem ZK (n:Nat):32*(aC 4294967296 n).length≤bl n+31:=by
 by_cases h:n=0
 ·subst h;rw[bR];simp
 ·have h1:=Ht (b:=4294967296) (by decide) h
  have h2:=J5 n
  have e:(4294967296:Nat)=2^32:=by decide
  rw[e] at h1 ⊢
  rw[←Nat.pow_mul] at h1
  have h3:2^(32*((aC (2^32) n).length-1))<2^bl n:=by omega
  have h4:=(Nat.pow_lt_pow_iff_right (by decide)).1 h3
  omega
theorem Zx (n:Nat):29*(aC 1000000000 n).length≤bl n+28:=by
 by_cases h:n=0
 ·subst h;rw[bR];simp
 ·have h1:=Ht (b:=1000000000) (by decide) h
  have h2:=J5 n
  have h5:(2^29)^((aC 1000000000 n).length-1)≤1000000000^((aC 1000000000 n).length-1):=Nat.pow_le_pow_left (by decide) _
  rw[←Nat.pow_mul] at h5
  have h3:2^(29*((aC 1000000000 n).length-1))<2^bl n:=by omega
  have h4:=(Nat.pow_lt_pow_iff_right (by decide)).1 h3
  omega
def cC (q:Rat):Nat:=max (bl q.num.natAbs) (bl q.den)
theorem rI {q:Rat}:bl q.num.natAbs≤cC q:=Nat.le_max_left _ _
theorem pB {q:Rat}:bl q.den≤cC q:=Nat.le_max_right _ _
theorem T9 {q:Rat}:1≤cC q:=Nat.le_trans (Vz q.den_nz) pB
theorem NW {q:Rat} {k:Nat} (h1:bl q.num.natAbs≤k) (h2:bl q.den≤k):cC q≤k:=Nat.max_le.2 ⟨h1,h2⟩
theorem D5 {n:Int} {d k:Nat} (h1:bl n.natAbs≤k) (h2:bl d≤k) (hk:1≤k):cC (mkRat n d)≤k:=by
 refine NW ?_ ?_
 ·rw[Rat.num_mkRat]
  split
  ·rw[Int.natAbs_zero,Q7];omega
  ·exact Nat.le_trans (jL (Int.natAbs_ediv_le_natAbs _ _)) h1
 ·rw[Rat.den_mkRat]
  split
  ·rw[IU];exact hk
  ·exact Nat.le_trans (jL (Nat.div_le_self _ _)) h2
theorem Kl (a b:Rat):cC (a+b)≤cC a+cC b+1:=by
 rw[Rat.add_def']
 have h1 := @rI a
 have h2 := @rI b
 have h3 := @pB a
 have h4 := @pB b
 have h5:=lK a.num.natAbs b.den
 have h6:=lK b.num.natAbs a.den
 have h7:=lK a.den b.den
 refine D5 ?_ (by omega) (by omega)
 have h8:(a.num*b.den+b.num*a.den).natAbs≤a.num.natAbs*b.den+b.num.natAbs*a.den:=by
  refine Nat.le_trans (Int.natAbs_add_le _ _) ?_
  rw[Int.natAbs_mul,Int.natAbs_mul,Int.natAbs_natCast,Int.natAbs_natCast]
  exact Nat.le_refl _
 exact Nat.le_trans (jL h8) (PL (by omega) (by omega))
theorem BP (a b:Rat):cC (a*b)≤cC a+cC b:=by
 rw[Rat.mul_def']
 have h1 := @rI a
 have h2 := @rI b
 have h3 := @pB a
 have h4 := @pB b
 have h5:=lK a.num.natAbs b.num.natAbs
 have h7:=lK a.den b.den
 have h8 := @T9 a
 refine D5 ?_ (by omega) (by omega)
 rw[Int.natAbs_mul]
 omega
theorem SL (n:Int):cC (n:Rat)≤max (bl n.natAbs) 1:=by
 refine NW ?_ ?_
 ·rw[Rat.num_intCast];exact Nat.le_max_left _ _
 ·rw[Rat.den_intCast,IU];exact Nat.le_max_right _ _
theorem Ih:cC 0=1:=by simp[cC,Q7,IU]
theorem EO:cC 1=1:=by simp[cC,IU]
theorem B9 (a:Rat):∀n:Nat,cC (a^n)≤n*cC a+1
 | 0=>by rw[Rat.pow_zero,EO];omega
 |
  n+1=>by
  rw[Rat.pow_succ]
  have h1:=BP (a^n) a
  have h2:=B9 a n
  rw[Nat.add_mul]
  omega
def jD (neg:Bool) (t:Nat):Int:=if neg then -(t:Int) else t
theorem lT (neg:Bool) (t:Nat):(jD neg t).natAbs=t:=by cases neg<;>simp[jD]
theorem Mb {neg:Bool} {t:Nat}:jD neg t<0↔neg=true∧t≠0:=by cases neg<;>simp[jD]<;>omega
theorem uC (neg:Bool):jD neg 0=0:=by cases neg<;>rfl
theorem D9 (z:Int):jD (decide (z<0)) z.natAbs=z:=by
 by_cases h:z<0<;>simp[jD,h]<;>omega
theorem Y2 {neg:Bool} {t g:Nat}:(jD neg t) / (g:Int)=jD neg (t / g)∨¬g ∣ t:=by
 by_cases h:g ∣ t
 ·left
  obtain⟨k,rfl⟩:=h
  by_cases hg:g=0
  ·subst hg;simp[uC]
  ·rw[Nat.mul_div_cancel_left _ (by omega)]
   cases neg
   ·simp only[jD]
    simp only[Bool.false_eq_true,if_false]
    rw[Int.natCast_mul,Int.mul_ediv_cancel_left _ (by omega)]
   ·simp only[jD,if_true]
    rw[Int.natCast_mul,←Int.mul_neg,Int.mul_ediv_cancel_left _ (by omega)]
 ·exact .inr h
theorem Ds {neg:Bool} {t b:Nat} (hb:b≠0):(mkRat (jD neg t) b).num=jD neg (t / Nat.gcd t b):=by
 rw[Rat.num_mkRat,if_neg hb,lT,Nat.gcd_comm]
 rcases Y2 (neg:=neg) (t:=t) (g:=Nat.gcd t b) with h | h
 ·exact h
 ·exact absurd (Nat.gcd_dvd_left _ _) h
theorem Mj {neg:Bool} {t b:Nat} (hb:b≠0):(mkRat (jD neg t) b).den=b / Nat.gcd t b:=by
 rw[Rat.den_mkRat,if_neg hb,lT,Nat.gcd_comm]
theorem Hn (q:Rat):mkRat (jD (decide (q.num<0)) q.num.natAbs) q.den=q:=by rw[D9,Rat.mkRat_self]
end Go.PM
namespace Go.PM
theorem YA (neg:Bool) (t d:Nat):jD neg (t*d)=jD neg t*(d:Int):=by cases neg<;>simp[jD,Int.neg_mul]
theorem B8 (q:Rat) {d:Nat} (hd:d≠0):mkRat (jD (decide (q.num<0)) (q.num.natAbs*d)) (q.den*d)=q:=by
 rw[YA,Rat.mkRat_mul_right hd,Hn]
theorem Be (X Y:Int) {B:Nat} (hB:B≠0):mkRat X B+mkRat Y B=mkRat (X+Y) B:=by
 rw[Rat.mkRat_add_mkRat _ _ hB hB,←Int.add_mul,Rat.mkRat_mul_right hB]
theorem Me (n:Bool) (x y:Nat):jD n x+jD n y=jD n (x+y):=by cases n<;>simp[jD]<;>omega
theorem QR {m n:Bool} (h:m≠n) {x y:Nat} (hx:y≤x):jD m x+jD n y=jD m (x-y):=by
 cases m<;>cases n<;>simp_all [jD]<;>omega
theorem Qd {m n:Bool} (h:m≠n) {x y:Nat} (hx:x≤y):jD m x+jD n y=jD n (y-x):=by
 cases m<;>cases n<;>simp_all [jD]<;>omega
theorem Ly (n:Int) {d:Nat} (hd:d≠0):(mkRat n d).num.natAbs=n.natAbs / Nat.gcd n.natAbs d:=by
 have:=Ds (neg:=decide (n<0)) (t:=n.natAbs) (b:=d) hd
 rw[D9] at this
 rw[this,lT]
theorem Ho (n:Int) {d:Nat} (hd:d≠0):(mkRat n d).den=d / Nat.gcd n.natAbs d:=by
 have:=Mj (neg:=decide (n<0)) (t:=n.natAbs) (b:=d) hd
 rwa [D9] at this
theorem ZS (n:Int) {d:Nat} (hd:d≠0):(mkRat n d).num<0↔n<0:=by
 have:=Ds (neg:=decide (n<0)) (t:=n.natAbs) (b:=d) hd
 rw[D9] at this
 rw[this,Mb]
 have h:n<0→n.natAbs / Nat.gcd n.natAbs d≠0:=fun h=>by
  have:=Nat.div_pos (Nat.le_of_dvd (by omega) (Nat.gcd_dvd_left n.natAbs d)) (Nat.gcd_pos_of_pos_left d (show 0<n.natAbs by omega))
  omega
 constructor
 ·rintro⟨h1,_⟩;simpa using h1
 ·intro h1;exact⟨by simpa using h1,h h1⟩
theorem zD (t:Nat) {d:Nat} (hd:d≠0):(mkRat (jD false t) d).num.natAbs ∣ t∧(mkRat (jD false t) d).den ∣ d:=by
 rw[Ly _ hd,Ho _ hd,lT]
 exact⟨Nat.div_dvd_of_dvd (Nat.gcd_dvd_left _ _),Nat.div_dvd_of_dvd (Nat.gcd_dvd_right _ _)⟩
theorem SZ (a b:Rat):(a*b).num.natAbs=(mkRat (jD false a.num.natAbs) b.den).num.natAbs*(mkRat (jD false b.num.natAbs) a.den).num.natAbs ∧
  (a*b).den=(mkRat (jD false a.num.natAbs) b.den).den*(mkRat (jD false b.num.natAbs) a.den).den:=by
 have ha:=a.den_nz
 have hb:=b.den_nz
 have Dw:a.den*b.den≠0:=Nat.mul_ne_zero ha hb
 obtain⟨u1,u2⟩:=zD a.num.natAbs hb
 obtain⟨v1,v2⟩:=zD b.num.natAbs ha
 have e:(mkRat (jD false a.num.natAbs) b.den)*(mkRat (jD false b.num.natAbs) a.den)=mkRat (jD false a.num.natAbs*jD false b.num.natAbs) (b.den*a.den):=Rat.mkRat_mul_mkRat _ _ _ _
 have en:((mkRat (jD false a.num.natAbs) b.den)*(mkRat (jD false b.num.natAbs) a.den)).num.natAbs=(a*b).num.natAbs:=by
  rw[e,Rat.mul_def',Ly _ Dw,Ly _ (Nat.mul_ne_zero hb ha),Int.natAbs_mul,Int.natAbs_mul,lT,lT,Nat.mul_comm b.den]
 have ed:((mkRat (jD false a.num.natAbs) b.den)*(mkRat (jD false b.num.natAbs) a.den)).den=(a*b).den:=by
  rw[e,Rat.mul_def',Ho _ Dw,Ho _ (Nat.mul_ne_zero hb ha),Int.natAbs_mul,Int.natAbs_mul,lT,lT,Nat.mul_comm b.den]
 rw[←en,←ed]
 generalize hu:mkRat (jD false a.num.natAbs) b.den=u at *
 generalize hv:mkRat (jD false b.num.natAbs) a.den=v at *
 have c1:Nat.Coprime u.num.natAbs u.den:=u.reduced
 have c2:Nat.Coprime v.num.natAbs v.den:=v.reduced
 have c3:Nat.Coprime u.num.natAbs v.den:=Nat.Coprime.coprime_dvd_left u1 (Nat.Coprime.coprime_dvd_right v2 a.reduced)
 have c4:Nat.Coprime v.num.natAbs u.den:=Nat.Coprime.coprime_dvd_left v1 (Nat.Coprime.coprime_dvd_right u2 b.reduced)
 have c:Nat.gcd (u.num*v.num).natAbs (u.den*v.den)=1:=by
  rw[Int.natAbs_mul]
  exact Nat.Coprime.mul_left (Nat.Coprime.mul_right c1 c3) (Nat.Coprime.mul_right c4 c2)
 rw[Rat.mul_def',Ly _ (Nat.mul_ne_zero u.den_nz v.den_nz),Ho _ (Nat.mul_ne_zero u.den_nz v.den_nz),c,Nat.div_one,Nat.div_one,Int.natAbs_mul]
 exact⟨rfl,rfl⟩
theorem OO {a b:Rat} (ha:a.num≠0) (hb:b.num≠0):(a*b).num<0↔(decide (a.num<0) != decide (b.num<0))=true:=by
 rw[Rat.mul_def',ZS _ (Nat.mul_ne_zero a.den_nz b.den_nz)]
 rcases Int.lt_or_gt_of_ne ha with h1 | h1<;>rcases Int.lt_or_gt_of_ne hb with h2 | h2
 ·have:=Int.mul_pos_of_neg_of_neg h1 h2
  rw[decide_eq_true h1,decide_eq_true h2]
  simp;omega
 ·have:=Int.mul_neg_of_neg_of_pos h1 h2
  rw[decide_eq_true h1,decide_eq_false (show ¬b.num<0 by omega)]
  simp[this]
 ·have:=Int.mul_neg_of_pos_of_neg h1 h2
  rw[decide_eq_false (show ¬a.num<0 by omega),decide_eq_true h2]
  simp[this]
 ·have:=Int.mul_pos h1 h2
  rw[decide_eq_false (show ¬a.num<0 by omega),decide_eq_false (show ¬b.num<0 by omega)]
  simp;omega
def jF (q:Rat):Int:=if q.num=0 then 0 else if q.num<0 then -1 else 1
def JM (a b:Rat):Int:=if jF a=jF b then (if a.num<0 then -dX (a.num.natAbs*b.den) (b.num.natAbs*a.den) else dX (a.num.natAbs*b.den) (b.num.natAbs*a.den)) else jF a-jF b
theorem tN {m n:Nat}:dX m n<0↔m<n:=by
 unfold dX
 split
 ·omega
 ·split<;>omega
theorem Yi {m n:Nat}:0<dX m n↔n<m:=by
 unfold dX
 split
 ·omega
 ·split<;>omega
theorem tX {m n:Nat}:dX m n=0↔m=n:=by
 unfold dX
 split
 ·omega
 ·split<;>omega
theorem nG {q:Rat} (h:q.num<0):jF q = -1:=by unfold jF;rw[if_neg (by omega),if_pos h]
theorem jJ {q:Rat} (h:q.num=0):jF q=0:=by unfold jF;rw[if_pos h]
theorem mY {q:Rat} (h:0<q.num):jF q=1:=by unfold jF;rw[if_neg (by omega),if_neg (by omega)]
theorem RG {a b:Rat}:JM a b<0↔a<b:=by
 rw[Rat.lt_iff]
 have hA:(0:Int)<a.den:=by have:=a.den_nz;omega
 have hB:(0:Int)<b.den:=by have:=b.den_nz;omega
 have eA:((a.num.natAbs*b.den:Nat):Int)=(a.num.natAbs:Int)*b.den:=by simp
 have eB:((b.num.natAbs*a.den:Nat):Int)=(b.num.natAbs:Int)*a.den:=by simp
 unfold JM
 rcases Int.lt_trichotomy a.num 0 with h1 | h1 | h1<;>rcases Int.lt_trichotomy b.num 0 with h2 | h2 | h2
 ·rw[nG h1,nG h2,if_pos rfl,if_pos h1]
  have f1:(a.num.natAbs:Int) = -a.num:=by omega
  have f2:(b.num.natAbs:Int) = -b.num:=by omega
  rw[f1,Int.neg_mul] at eA
  rw[f2,Int.neg_mul] at eB
  have := @Yi (a.num.natAbs*b.den) (b.num.natAbs*a.den)
  omega
 ·rw[nG h1,jJ h2,if_neg (by decide),h2,Int.zero_mul]
  have:=Int.mul_neg_of_neg_of_pos h1 hB
  omega
 ·rw[nG h1,mY h2,if_neg (by decide)]
  have:=Int.mul_neg_of_neg_of_pos h1 hB
  have:=Int.mul_pos h2 hA
  omega
 ·rw[jJ h1,nG h2,if_neg (by decide),h1,Int.zero_mul]
  have:=Int.mul_neg_of_neg_of_pos h2 hA
  omega
 ·rw[jJ h1,jJ h2,if_pos rfl,h1,h2];simp[dX]
 ·rw[jJ h1,mY h2,if_neg (by decide),h1,Int.zero_mul]
  have:=Int.mul_pos h2 hA
  omega
 ·rw[mY h1,nG h2,if_neg (by decide)]
  have:=Int.mul_neg_of_neg_of_pos h2 hA
  have:=Int.mul_pos h1 hB
  omega
 ·rw[mY h1,jJ h2,if_neg (by decide),h2,Int.zero_mul]
  have:=Int.mul_pos h1 hB
  omega
 ·rw[mY h1,mY h2,if_pos rfl,if_neg (by omega)]
  have f1:(a.num.natAbs:Int)=a.num:=by omega
  have f2:(b.num.natAbs:Int)=b.num:=by omega
  rw[f1] at eA
  rw[f2] at eB
  have := @tN (a.num.natAbs*b.den) (b.num.natAbs*a.den)
  omega
theorem WC (m n:Nat):dX n m = -dX m n:=by
 rcases Nat.lt_trichotomy m n with h | h | h
 ·rw[dX,dX,if_neg (by omega),if_neg (by omega),if_pos h];rfl
 ·subst h;rw[dX,if_neg (by omega),if_pos rfl];rfl
 ·rw[dX,dX,if_pos h,if_neg (by omega),if_neg (by omega)]
theorem M0 (a b:Rat):JM b a = -JM a b:=by
 unfold JM
 by_cases h:jF a=jF b
 ·have h2:b.num<0↔a.num<0:=by
   rcases Int.lt_trichotomy a.num 0 with h1 | h1 | h1<;>rcases Int.lt_trichotomy b.num 0 with h2 | h2 | h2
   ·simp[h1,h2]
   ·rw[nG h1,jJ h2] at h;omega
   ·rw[nG h1,mY h2] at h;omega
   ·rw[jJ h1,nG h2] at h;omega
   ·omega
   ·rw[jJ h1,mY h2] at h;omega
   ·rw[mY h1,nG h2] at h;omega
   ·rw[mY h1,jJ h2] at h;omega
   ·omega
  rw[if_pos h,if_pos h.symm,WC]
  by_cases h3:a.num<0
  ·rw[if_pos h3,if_pos (h2.2 h3)]
  ·rw[if_neg h3,if_neg (mt h2.1 h3)]
 ·rw[if_neg h,if_neg (fun h'=>h h'.symm)];omega
theorem XW {a b:Rat}:0<JM a b↔b<a:=by
 rw[←RG,M0 a b];omega
theorem KL {a b:Rat}:JM a b=0↔a=b:=by
 constructor
 ·intro h
  refine Rat.le_antisymm ?_ ?_
  ·rw[←Rat.not_lt,←XW];omega
  ·rw[←Rat.not_lt,←RG];omega
 ·rintro rfl
  have:=M0 a a
  omega
theorem zA {q:Rat}:jF q=0↔q=0:=by
 rw[←Rat.num_eq_zero]
 rcases Int.lt_trichotomy q.num 0 with h | h | h
 ·rw[nG h];omega
 ·rw[jJ h];omega
 ·rw[mY h];omega
end Go.PM
namespace Go.PM
open Go.Lib
def cF (q:Rat):VV := .agg [VB (decide (q.num<0)),bC q.num.natAbs,bC q.den]
theorem eV (q:Rat):aW (cF q)=true:=by simp[cF,aW,aK,bJ,lM]
theorem qE (q:Rat):gH (cF q)=true:=by simp[cF,gH,pE,nY,lM]
theorem DW {q:Rat} {neg:Bool} {t b:Nat} (h0:q.num<0↔neg=true) (h1:q.num.natAbs=t) (h2:q.den=b):cF q = .agg [VB neg,bC t,bC b]:=by
 subst h1 h2
 unfold cF
 congr 4
 cases neg<;>simp_all
theorem Yc {neg:Bool} {t b:Nat} (hb:b≠0) (ht:t≠0):cF (mkRat (jD neg t) b) = .agg [VB neg,bC (t / Nat.gcd t b),bC (b / Nat.gcd t b)]:=by
 refine DW ?_ ?_ (Mj hb)
 ·rw[Ds hb,Mb]
  have h1:t / Nat.gcd t b≠0:=by
   have:=Nat.div_pos (Nat.le_of_dvd (by omega) (Nat.gcd_dvd_left t b)) (Nat.gcd_pos_of_pos_left b (by omega))
   omega
  simp[h1]
 ·rw[Ds hb,lT]
theorem T8:cF 0 = .agg [VB false,.tree [] .op,bC 1]:=by
 rw[DW (q:=0) (neg:=false) (t:=0) (b:=1) (by simp) rfl rfl,Cf]
theorem aO (n:Nat):cJ (bC n)=true:=rfl
theorem aN (n:Nat):isAny (bC n)=false:=rfl
theorem aG (n:Nat):aA (bC n)=[bC n]:=rfl
theorem bK (q:Rat):isAny (cF q)=false:=rfl
theorem aE (q:Rat):aA (cF q)=[VB (decide (q.num<0)),bC q.num.natAbs,bC q.den]:=rfl
theorem dM (q:Rat):eX true 3 (cF q) 0=some (cF q):=rfl
theorem kR (q:Rat):eX false 1 (cF q) 0=some (VB (decide (q.num<0))):=rfl
theorem kX (q:Rat):eX false 1 (cF q) 1=some (bC q.num.natAbs):=rfl
theorem oF (q:Rat):eX false 1 (cF q) 2=some (bC q.den):=rfl
theorem oJ {d:Nat} {H:aB} {u u' v v' w w':VV} (h1:fz (d+1) H u=some u') (h2:fz (d+1) H v=some v') (h3:fz (d+1) H w=some w'):fz (d+2) H (.agg [u,v,w])=some (.agg [u',v',w']):=by
 have e:fz (d+2) H (.agg [u,v,w])=if aW (.agg [u,v,w])=true then some (.agg [u,v,w]) else ([u,v,w].mapM (fz (d+1) H)).map .agg:=rfl
 rw[e]
 by_cases hp:aW (.agg [u,v,w])=true
 ·rw[if_pos hp]
  simp only[aW,aK,Bool.and_eq_true,and_true] at hp
  rw[aJ hp.1] at h1
  rw[aJ hp.2.1] at h2
  rw[aJ hp.2.2] at h3
  cases h1
  cases h2
  cases h3
  rfl
 ·rw[if_neg hp,List.mapM_cons,h1,List.mapM_cons,h2,List.mapM_cons,h3]
  rfl
theorem U9 {d:Nat} {H:aB} {v:Value} (h:lM v=true):fz (d+1) H (.sc v)=some (.sc v):=aJ h
theorem AZ {H:aB} {neg:Bool} {t b:Nat}:fz depth H (.agg [VB neg,bC t,bC b])=some (.agg [VB neg,bC t,bC b]):=aH (by simp[aW,aK,bJ,lM])
theorem rW {H:aB} (q:Rat):fz depth H (cF q)=some (cF q):=aH (eV q)
theorem ahF {n:Nat} (h:bl n≤2199023255552):(aC 4294967296 n).length≤68719476736:=by
 have:=ZK n
 omega
theorem eH {n:Nat} (h:bl n≤4398046511104):(aC 4294967296 n).length≤17592186044416:=by
 have:=ZK n
 omega
theorem nR (neg:Bool) (t b:Nat) (hb:b≠0) (ht:bl t≤4398046511104) (sN:bl b≤4398046511104):TC 100 [VB neg,bC t,bC b] (cF (mkRat (jD neg t) b)):=by
 refine TC.walk ⟨true,false⟩ Jz rfl (Nat.le_of_ble_eq_true rfl) (by simp[aK,bJ,aW,lM]) (qE _) ?_
 by_cases h0:t=0
 ·subst h0
  have hl:(((aC 4294967296 0).length:Nat):Int)=0:=by rw[bR];rfl
  have c1:TC 101 [.sc (.int .u64 1)] (bC 1):=kZ 1 (by decide)
  rw[uC,Rat.zero_mkRat,T8,←Cf]
  simp only[sJ,nU,dB,hl,c1,aO,aN,aG,gG,Nat.reduceLeDiff,Nat.reduceLT,Nat.reduceSub,VX,Nat.reduceEqDiff,Nat.reduceAdd]
  exact oJ (U9 rfl) tD (aJ (bJ _))
 ·have hl:¬(((aC 4294967296 t).length:Nat):Int)=0:=by have:=tL.2 h0;omega
  have c1:=BJ t b (eH ht) (eH sN)
  have hg0:Nat.gcd t b≠0:=Nat.gcd_ne_zero_right hb
  have Xg:bl (Nat.gcd t b)≤4398046511104:=Nat.le_trans (jL (Nat.gcd_le_right t (by omega))) sN
  have c2:=uO t _ hg0 (eH ht) (eH Xg)
  have c3:=uO b _ hg0 (eH sN) (eH Xg)
  rw[Yc hb h0]
  by_cases h1:((aC 4294967296 (Nat.gcd t b)).length:Int)=1
  ·obtain⟨d,hd⟩:∃d,aC 4294967296 (Nat.gcd t b)=[d]:=List.length_eq_one_iff.1 (by omega)
   obtain⟨Zi,_,_⟩:=OM hd
   have e1:bF 1 (bC (Nat.gcd t b)) (.sc (.int .i64 0)) [.row 0 [.agg [VB false,.tree [] .nil,.tree [] .nil]] 3 true]=some (.cO (uV d) 0):=aP (f:=uV) (xs:=aC 4294967296 (Nat.gcd t b)) (i:=0) (k := .i64) (by rw[hd];rfl) rfl
   by_cases h2:(d:Int)=1
   ·have Zp:Nat.gcd t b=1:=by omega
    simp only[sJ,nU,dB,hl,c1,h1,h2,e1,aO,aN,aG,gG,Nat.reduceLeDiff,Nat.reduceLT,Nat.reduceSub,VX,Nat.reduceEqDiff,Nat.reduceAdd]
    rw[Zp,Nat.div_one,Nat.div_one]
    exact AZ
   ·simp only[sJ,nU,dB,hl,c1,c2,c3,h1,h2,e1,aO,aN,aG,gG,Nat.reduceLeDiff,Nat.reduceLT,Nat.reduceSub,VX,Nat.reduceEqDiff,Nat.reduceAdd]
    exact AZ
  ·simp only[sJ,nU,dB,hl,c1,c2,c3,h1,aO,aN,aG,gG,Nat.reduceLeDiff,Nat.reduceLT,Nat.reduceSub,VX,Nat.reduceEqDiff,Nat.reduceAdd]
   exact AZ
theorem Tf {n:Int} (h0 : -9223372036854775808≤n) (h:n<0):IntKind.u64.wrap (0-IntKind.u64.wrap n)=(n.natAbs:Int):=by
 rw[wrap_u64,wrap_u64]
 omega
theorem EL (n:Int) (h0 : -9223372036854775808≤n) (h1:n≤9223372036854775807):TC 107 [VI n] (VK .u64 (n.natAbs:Int)):=by
 refine TC.walk ⟨true,false⟩ E9 rfl (Nat.le_of_ble_eq_true rfl) rfl rfl ?_
 by_cases h:n<0
 ·simp only[vK,rK,h,Tf h0 h,VX,Nat.reduceEqDiff,Nat.reduceAdd]
  exact aH rfl
 ·have w:IntKind.u64.wrap n=(n.natAbs:Int):=by rw[wrap_u64];omega
  simp only[vK,rK,h,w,VX,Nat.reduceEqDiff,Nat.reduceAdd]
  exact aH rfl
theorem Vd (n:Int):cF (n:Rat) = .agg [VB (decide (n<0)),bC n.natAbs,bC 1]:=DW (by simp) (by simp) (by simp)
theorem nI (n:Int) (h0 : -9223372036854775808≤n) (h1:n≤9223372036854775807):TC 97 [VI n] (cF (n:Rat)):=by
 refine TC.walk ⟨true,false⟩ ML rfl (Nat.le_of_ble_eq_true rfl) rfl (qE _) ?_
 have c1:=EL n h0 h1
 have c2:=kZ n.natAbs (by omega)
 have c3:TC 101 [.sc (.int .u64 1)] (bC 1):=kZ 1 (by decide)
 rw[Vd]
 simp only[IJ,DI,c1,c2,c3,aO,aN,aG,gG,Nat.reduceLeDiff,Nat.reduceLT,Nat.reduceSub,VX,Nat.reduceEqDiff,Nat.reduceAdd]
 exact AZ
theorem Sj {q:Rat}:(((aC 4294967296 q.num.natAbs).length:Nat):Int)=0↔q.num=0:=by
 have:=tL (n:=q.num.natAbs)
 omega
theorem gV (q:Rat):TC 104 [cF q] (VI (jF q)):=by
 refine TC.walk ⟨true,false⟩ DJ rfl (Nat.le_of_ble_eq_true rfl) (by simp[aK,eV]) rfl ?_
 unfold jF
 by_cases h0:q.num=0
 ·have hl:=Sj.2 h0
  rw[if_pos h0]
  simp only[oK,lR,dB,hl,aE,kR,kX,aO,aN,aG,gG,Nat.reduceLeDiff,Nat.reduceLT,Nat.reduceSub,VX,Nat.reduceEqDiff,Nat.reduceAdd]
  exact aH rfl
 ·have hl:¬(((aC 4294967296 q.num.natAbs).length:Nat):Int)=0:=fun h=>h0 (Sj.1 h)
  rw[if_neg h0]
  by_cases h1:q.num<0
  ·simp only[oK,lR,dB,hl,h1,aE,kR,kX,aO,aN,aG,gG,Nat.reduceLeDiff,Nat.reduceLT,Nat.reduceSub,VX,Nat.reduceEqDiff,Nat.reduceAdd]
   exact aH rfl
  ·simp only[oK,lR,dB,hl,h1,aE,kR,kX,aO,aN,aG,gG,Nat.reduceLeDiff,Nat.reduceLT,Nat.reduceSub,VX,Nat.reduceEqDiff,Nat.reduceAdd]
   exact aH rfl
end Go.PM
namespace Go.PM
open Go.Lib
theorem rC (a b:Bool):Mq false (.bool a) (.bool b)=some (.bool (a == b)):=by
 show some (Value.bool ((a == b) != false))=_
 rw[Bool.bne_false]
theorem uH (a b:Bool):Mq true (.bool a) (.bool b)=some (.bool (a != b)):=by
 show some (Value.bool ((a == b) != true))=_
 cases a<;>cases b<;>rfl
theorem rN {q:Rat} {k:Nat} (h:cC q≤k):bl q.num.natAbs≤k:=Nat.le_trans rI h
theorem rG {q:Rat} {k:Nat} (h:cC q≤k):bl q.den≤k:=Nat.le_trans pB h
theorem E2 {X Y B:Nat} {a b:Rat} (hB:B≠0) (ha:mkRat (jD (decide (a.num<0)) X) B=a) (hb:mkRat (jD (decide (b.num<0)) Y) B=b) :
  ((decide (a.num<0))=(decide (b.num<0))→mkRat (jD (decide (a.num<0)) (X+Y)) B=a+b) ∧
  ((decide (a.num<0))≠(decide (b.num<0))→Y≤X→mkRat (jD (decide (a.num<0)) (X-Y)) B=a+b) ∧
  ((decide (a.num<0))≠(decide (b.num<0))→X≤Y→mkRat (jD (decide (b.num<0)) (Y-X)) B=a+b):=by
 refine⟨fun h => ?_,fun h hx => ?_,fun h hx => ?_⟩
 ·conv=>rhs;rw[←ha,←hb,Be _ _ hB,←h,Me]
 ·conv=>rhs;rw[←ha,←hb,Be _ _ hB,QR h hx]
 ·conv=>rhs;rw[←ha,←hb,Be _ _ hB,Qd h hx]
theorem BB (a b:Rat) (OD:cC a≤1099511627776) (JK:cC b≤1099511627776):TC 99 [cF a,cF b] (cF (a+b)):=by
 refine TC.walk ⟨true,false⟩ EJ rfl (Nat.le_of_ble_eq_true rfl) (by simp[aK,eV]) (qE _) ?_
 have ca:=gV a
 have cb:=gV b
 by_cases Wk:a.num=0
 ·have:a=0:=Rat.num_eq_zero.1 Wk
  rw[jJ Wk] at ca
  rw[this,Rat.zero_add,←this]
  simp only[fI,dF,ca,cb,aE,dM,bK,aO,aN,aG,gG,Nat.reduceLeDiff,Nat.reduceLT,Nat.reduceSub,VX,Nat.reduceEqDiff,Nat.reduceAdd]
  exact rW _
 have XE:¬jF a=0:=fun h=>Wk (Rat.num_eq_zero.2 (zA.1 h))
 by_cases Uw:b.num=0
 ·have:b=0:=Rat.num_eq_zero.1 Uw
  rw[jJ Uw] at cb
  rw[this,Rat.add_zero,←this]
  simp only[fI,dF,ca,cb,XE,aE,dM,bK,aO,aN,aG,gG,Nat.reduceLeDiff,Nat.reduceLT,Nat.reduceSub,VX,Nat.reduceEqDiff,Nat.reduceAdd]
  exact rW _
 have Ul:¬jF b=0:=fun h=>Uw (Rat.num_eq_zero.2 (zA.1 h))
 have la:=rN OD
 have lb:=rN JK
 have lda:=rG OD
 have ldb:=rG JK
 have fin:∀(X Y B:Nat),bl X≤2199023255552→bl Y≤2199023255552→bl B≤2199023255552→B≠0→mkRat (jD (decide (a.num<0)) X) B=a→mkRat (jD (decide (b.num<0)) Y) B=b →
   TC 174 [bC X,bC Y] (bC (X+Y))∧TC 170 [bC X,bC Y] (VI (dX X Y)) ∧
   (Y≤X→TC 181 [bC X,bC Y] (bC (X-Y)))∧(X≤Y→TC 181 [bC Y,bC X] (bC (Y-X))) ∧
   (∀neg,TC 100 [VB neg,bC (X+Y),bC B] (cF (mkRat (jD neg (X+Y)) B))) ∧
   (∀neg,TC 100 [VB neg,bC (X-Y),bC B] (cF (mkRat (jD neg (X-Y)) B))) ∧
   (∀neg,TC 100 [VB neg,bC (Y-X),bC B] (cF (mkRat (jD neg (Y-X)) B))):=by
  intro X Y B hX hY hB hB0 _ _
  refine⟨Bp X Y (eH (by omega)) (eH (by omega)),iO X Y (eH (by omega)) (eH (by omega)),fun h=>BG X Y h (eH (by omega)),fun h=>BG Y X h (eH (by omega)),fun neg=>nR neg _ _ hB0 ?_ (by omega),fun neg=>nR neg _ _ hB0 ?_ (by omega),fun neg=>nR neg _ _ hB0 ?_ (by omega)⟩
  ·exact Nat.le_trans (PL hX hY) (by omega)
  ·exact Nat.le_trans (jL (Nat.sub_le _ _)) (by omega)
  ·exact Nat.le_trans (jL (Nat.sub_le _ _)) (by omega)
 by_cases hd:a.den=b.den
 ·have XM:=a.den_nz
  have cc:=iO a.den b.den (eH (by omega)) (eH (by omega))
  rw[show dX a.den b.den=0 from tX.2 hd] at cc
  have eb:mkRat (jD (decide (b.num<0)) b.num.natAbs) a.den=b:=by rw[hd,Hn]
  obtain⟨f1,f2,f3,f4,f5,f6,f7⟩:=fin a.num.natAbs b.num.natAbs a.den (by omega) (by omega) (by omega) XM (Hn a) eb
  obtain⟨p1,p2,p3⟩:=E2 XM (Hn a) eb
  by_cases hn:decide (a.num<0)=decide (b.num<0)
  ·have Pq:(decide (a.num<0) == decide (b.num<0))=true:=by simpa using hn
   rw[←p1 hn]
   simp only[fI,dF,ca,cb,XE,Ul,cc,f1,f5,rC,uH,Pq,aE,dM,kR,kX,oF,bK,aO,aN,aG,gG,Nat.reduceLeDiff,Nat.reduceLT,Nat.reduceSub,VX,Nat.reduceEqDiff,Nat.reduceAdd]
   exact rW _
  ·have Pq:(decide (a.num<0) == decide (b.num<0))=false:=by simpa using hn
   by_cases hx:(0:Int)≤dX a.num.natAbs b.num.natAbs
   ·have hle:b.num.natAbs≤a.num.natAbs:=by have := @tN a.num.natAbs b.num.natAbs;omega
    have c3:=f3 hle
    rw[←p2 hn hle]
    simp only[fI,dF,ca,cb,XE,Ul,cc,f2,c3,f6,hx,rC,uH,Pq,aE,dM,kR,kX,oF,bK,aO,aN,aG,gG,Nat.reduceLeDiff,Nat.reduceLT,Nat.reduceSub,VX,Nat.reduceEqDiff,Nat.reduceAdd]
    exact rW _
   ·have hle:a.num.natAbs≤b.num.natAbs:=by have := @tN a.num.natAbs b.num.natAbs;omega
    have c3:=f4 hle
    rw[←p3 hn hle]
    simp only[fI,dF,ca,cb,XE,Ul,cc,f2,c3,f7,hx,rC,uH,Pq,aE,dM,kR,kX,oF,bK,aO,aN,aG,gG,Nat.reduceLeDiff,Nat.reduceLT,Nat.reduceSub,VX,Nat.reduceEqDiff,Nat.reduceAdd]
    exact rW _
 ·have XM:=Nat.mul_ne_zero a.den_nz b.den_nz
  have cc:=iO a.den b.den (eH (by omega)) (eH (by omega))
  have MQ:¬dX a.den b.den=0:=fun h=>hd (tX.1 h)
  have m1:=gK a.num.natAbs b.den (eH (by omega)) (eH (by omega))
  have m2:=gK b.num.natAbs a.den (eH (by omega)) (eH (by omega))
  have m3:=gK a.den b.den (eH (by omega)) (eH (by omega))
  have ea:mkRat (jD (decide (a.num<0)) (a.num.natAbs*b.den)) (a.den*b.den)=a:=B8 a b.den_nz
  have eb:mkRat (jD (decide (b.num<0)) (b.num.natAbs*a.den)) (a.den*b.den)=b:=by rw[Nat.mul_comm a.den];exact B8 b a.den_nz
  have k1:=lK a.num.natAbs b.den
  have k2:=lK b.num.natAbs a.den
  have k3:=lK a.den b.den
  obtain⟨f1,f2,f3,f4,f5,f6,f7⟩:=fin _ _ _ (by omega) (by omega) (by omega) XM ea eb
  obtain⟨p1,p2,p3⟩:=E2 XM ea eb
  by_cases hn:decide (a.num<0)=decide (b.num<0)
  ·have Pq:(decide (a.num<0) == decide (b.num<0))=true:=by simpa using hn
   rw[←p1 hn]
   simp only[fI,dF,ca,cb,XE,Ul,cc,MQ,m1,m2,m3,f1,f5,rC,uH,Pq,aE,dM,kR,kX,oF,bK,aO,aN,aG,gG,Nat.reduceLeDiff,Nat.reduceLT,Nat.reduceSub,VX,Nat.reduceEqDiff,Nat.reduceAdd]
   exact rW _
  ·have Pq:(decide (a.num<0) == decide (b.num<0))=false:=by simpa using hn
   by_cases hx:(0:Int)≤dX (a.num.natAbs*b.den) (b.num.natAbs*a.den)
   ·have hle:b.num.natAbs*a.den≤a.num.natAbs*b.den:=by have := @tN (a.num.natAbs*b.den) (b.num.natAbs*a.den);omega
    have c3:=f3 hle
    rw[←p2 hn hle]
    simp only[fI,dF,ca,cb,XE,Ul,cc,MQ,m1,m2,m3,f2,c3,f6,hx,rC,uH,Pq,aE,dM,kR,kX,oF,bK,aO,aN,aG,gG,Nat.reduceLeDiff,Nat.reduceLT,Nat.reduceSub,VX,Nat.reduceEqDiff,Nat.reduceAdd]
    exact rW _
   ·have hle:a.num.natAbs*b.den≤b.num.natAbs*a.den:=by have := @tN (a.num.natAbs*b.den) (b.num.natAbs*a.den);omega
    have c3:=f4 hle
    rw[←p3 hn hle]
    simp only[fI,dF,ca,cb,XE,Ul,cc,MQ,m1,m2,m3,f2,c3,f7,hx,rC,uH,Pq,aE,dM,kR,kX,oF,bK,aO,aN,aG,gG,Nat.reduceLeDiff,Nat.reduceLT,Nat.reduceSub,VX,Nat.reduceEqDiff,Nat.reduceAdd]
    exact rW _
theorem AP (a b:Rat) (OD:cC a≤1099511627776) (JK:cC b≤1099511627776):TC 96 [cF a,cF b] (cF (a*b)):=by
 refine TC.walk ⟨true,false⟩ FG rfl (Nat.le_of_ble_eq_true rfl) (by simp[aK,eV]) (qE _) ?_
 have ca:=gV a
 have cb:=gV b
 have c0:TC 97 [VI 0] (cF 0):=nI 0 (by decide) (by decide)
 by_cases Wk:a.num=0
 ·have:a=0:=Rat.num_eq_zero.1 Wk
  rw[jJ Wk] at ca
  rw[show a*b=0 by rw[this,Rat.zero_mul]]
  simp only[qC,nF,ca,cb,c0,aE,dM,bK,aO,aN,aG,gG,Nat.reduceLeDiff,Nat.reduceLT,Nat.reduceSub,VX,Nat.reduceEqDiff,Nat.reduceAdd]
  exact rW _
 have XE:¬jF a=0:=fun h=>Wk (Rat.num_eq_zero.2 (zA.1 h))
 by_cases Uw:b.num=0
 ·have:b=0:=Rat.num_eq_zero.1 Uw
  rw[jJ Uw] at cb
  rw[show a*b=0 by rw[this,Rat.mul_zero]]
  simp only[qC,nF,ca,cb,XE,c0,aE,dM,bK,aO,aN,aG,gG,Nat.reduceLeDiff,Nat.reduceLT,Nat.reduceSub,VX,Nat.reduceEqDiff,Nat.reduceAdd]
  exact rW _
 have Ul:¬jF b=0:=fun h=>Uw (Rat.num_eq_zero.2 (zA.1 h))
 have la:=rN OD
 have lb:=rN JK
 have lda:=rG OD
 have ldb:=rG JK
 have l1:=nR false a.num.natAbs b.den b.den_nz (by omega) (by omega)
 have l2:=nR false b.num.natAbs a.den a.den_nz (by omega) (by omega)
 obtain⟨d1,d2⟩:=zD a.num.natAbs b.den_nz
 obtain⟨d3,d4⟩:=zD b.num.natAbs a.den_nz
 have b1:=jL (Nat.le_of_dvd (by omega) d1)
 have b2:=jL (Nat.le_of_dvd (Nat.pos_of_ne_zero b.den_nz) d2)
 have b3:=jL (Nat.le_of_dvd (by omega) d3)
 have b4:=jL (Nat.le_of_dvd (Nat.pos_of_ne_zero a.den_nz) d4)
 obtain⟨e1,e2⟩:=SZ a b
 have e3:=OO Wk Uw
 generalize mkRat (jD false a.num.natAbs) b.den=u at *
 generalize mkRat (jD false b.num.natAbs) a.den=v at *
 have m1:=gK u.num.natAbs v.num.natAbs (eH (by omega)) (eH (by omega))
 have m2:=gK u.den v.den (eH (by omega)) (eH (by omega))
 rw[DW e3 e1 e2]
 simp only[qC,nF,ca,cb,XE,Ul,l1,l2,m1,m2,rC,uH,aE,dM,kR,kX,oF,bK,aO,aN,aG,gG,Nat.reduceLeDiff,Nat.reduceLT,Nat.reduceSub,VX,Nat.reduceEqDiff,Nat.reduceAdd]
 exact AZ
theorem Gc (q:Rat) : -1≤jF q∧jF q≤1:=by
 rcases Int.lt_trichotomy q.num 0 with h | h | h
 ·rw[nG h];omega
 ·rw[jJ h];omega
 ·rw[mY h];omega
theorem PB (m n:Nat) : -1≤dX m n∧dX m n≤1:=by
 rcases Nat.lt_trichotomy m n with h | h | h
 ·rw[dX,if_pos h];omega
 ·subst h;rw[dX,if_neg (by omega),if_pos rfl];omega
 ·rw[dX,if_neg (by omega),if_neg (by omega)];omega
theorem IQ (a b:Rat) (OD:cC a≤1099511627776) (JK:cC b≤1099511627776):TC 206 [cF a,cF b] (VI (JM a b)):=by
 refine TC.walk ⟨true,false⟩ FK rfl (Nat.le_of_ble_eq_true rfl) (by simp[aK,eV]) rfl ?_
 have ca:=gV a
 have cb:=gV b
 have la:=rN OD
 have lb:=rN JK
 have lda:=rG OD
 have ldb:=rG JK
 have k1:=lK a.num.natAbs b.den
 have k2:=lK b.num.natAbs a.den
 have m1:=gK a.num.natAbs b.den (eH (by omega)) (eH (by omega))
 have m2:=gK b.num.natAbs a.den (eH (by omega)) (eH (by omega))
 have c1:=iO (a.num.natAbs*b.den) (b.num.natAbs*a.den) (eH (by omega)) (eH (by omega))
 have ra:=Gc a
 have rb:=Gc b
 have rc:=PB (a.num.natAbs*b.den) (b.num.natAbs*a.den)
 unfold JM
 by_cases hs:jF a=jF b
 ·rw[if_pos hs]
  have w:IntKind.i64.wrap (0-dX (a.num.natAbs*b.den) (b.num.natAbs*a.den)) = -dX (a.num.natAbs*b.den) (b.num.natAbs*a.den):=by rw[wrap64 (by omega) (by omega)];omega
  by_cases hn:a.num<0
  ·rw[if_pos hn]
   simp only[pY,mW,ca,cb,hs,m1,m2,c1,hn,w,aE,dM,kR,kX,oF,bK,aO,aN,aG,gG,Nat.reduceLeDiff,Nat.reduceLT,Nat.reduceSub,VX,Nat.reduceEqDiff,Nat.reduceAdd]
   exact aH rfl
  ·rw[if_neg hn]
   simp only[pY,mW,ca,cb,hs,m1,m2,c1,hn,aE,dM,kR,kX,oF,bK,aO,aN,aG,gG,Nat.reduceLeDiff,Nat.reduceLT,Nat.reduceSub,VX,Nat.reduceEqDiff,Nat.reduceAdd]
   exact aH rfl
 ·rw[if_neg hs]
  have w:IntKind.i64.wrap (jF a-jF b)=jF a-jF b:=wrap64 (by omega) (by omega)
  simp only[pY,mW,ca,cb,hs,w,aE,dM,kR,kX,oF,bK,aO,aN,aG,gG,Nat.reduceLeDiff,Nat.reduceLT,Nat.reduceSub,VX,Nat.reduceEqDiff,Nat.reduceAdd]
  exact aH rfl
theorem EV (a:Rat) (OD:cC a≤1099511627776):TC 196 [cF a] (VB (decide (a=1))):=by
 refine TC.walk ⟨true,false⟩ C7 rfl (Nat.le_of_ble_eq_true rfl) (by simp[aK,eV]) rfl ?_
 have c1:=IQ a 1 OD (by rw[EO];decide)
 have c2:TC 97 [VI 1] (cF 1):=nI 1 (by decide) (by decide)
 by_cases h:JM a 1=0
 ·rw[decide_eq_true (KL.1 h)]
  simp only[qZ,oQ,c1,c2,h,aE,dM,bK,aO,aN,aG,gG,Nat.reduceLeDiff,Nat.reduceLT,Nat.reduceSub,VX,Nat.reduceEqDiff,Nat.reduceAdd]
  exact aH rfl
 ·rw[decide_eq_false (mt KL.2 h)]
  simp only[qZ,oQ,c1,c2,h,aE,dM,bK,aO,aN,aG,gG,Nat.reduceLeDiff,Nat.reduceLT,Nat.reduceSub,VX,Nat.reduceEqDiff,Nat.reduceAdd]
  exact aH rfl
end Go.PM
namespace Go.PM
open Go.Lib
theorem XV {m n:Nat} (h:decDigits m=decDigits n):m=n:=by
 have key:∀k m n:Nat,m<10^(k+1)→decDigits m=decDigits n→m=n:=by
  intro k
  induction k with
  |
   zero =>
   intro m n hm h
   rw[gP (by omega)] at h
   by_cases hn:n<10
   ·rw[gP hn] at h
    have h1:=List.singleton_inj.1 h
    unfold d10 at h1
    have:=congrArg UInt8.toNat h1
    simp at this
    omega
   ·rw[wQ hn] at h
    have:=congrArg List.length h
    have h2:=List.length_pos_iff.2 (Mx (n / 10))
    simp only[List.length_append,List.length_cons,List.length_nil] at this
    omega
  |
   succ k ih =>
   intro m n hm h
   by_cases h1:m<10
   ·rw[gP h1] at h
    by_cases hn:n<10
    ·rw[gP hn] at h
     have h1:=List.singleton_inj.1 h
     unfold d10 at h1
     have:=congrArg UInt8.toNat h1
     simp at this
     omega
    ·rw[wQ hn] at h
     have:=congrArg List.length h
     have h2:=List.length_pos_iff.2 (Mx (n / 10))
     simp only[List.length_append,List.length_cons,List.length_nil] at this
     omega
   ·rw[wQ h1] at h
    by_cases hn:n<10
    ·rw[gP hn] at h
     have:=congrArg List.length h
     have h2:=List.length_pos_iff.2 (Mx (m / 10))
     simp only[List.length_append,List.length_cons,List.length_nil] at this
     omega
    ·rw[wQ hn] at h
     obtain⟨h2,h3⟩:=List.append_inj' h rfl
     have h4:=ih (m / 10) (n / 10) (by rw[Nat.pow_succ] at hm;omega) h2
     have h5:=List.singleton_inj.1 h3
     unfold d10 at h5
     have:=congrArg UInt8.toNat h5
     simp at this
     omega
 exact key m m n (Nat.lt_trans (Nat.lt_pow_self (by decide)) (Nat.pow_lt_pow_right (by decide) (Nat.lt_succ_self m))) h
def HA (q:Rat):List UInt8:=(if q.num<0 then [45] else [])++decDigits q.num.natAbs++(if q.den=1 then [] else 47::decDigits q.den)
def Bb (q:Rat):Bool:=decide ((decDigits q.num.natAbs).length≤200)&&decide ((decDigits q.den).length≤200)
theorem yN (n:Nat):(decDigits n).length≤bl n+1:=by
 by_cases h:n=0
 ·subst h;rw[gP (by decide)];simp
 ·have h1:=Vz h
  obtain⟨k,hk⟩:∃k,bl n=k+1:=⟨bl n-1,by omega⟩
  have h2:=J5 n
  rw[hk] at h2 ⊢
  have h3:2^(k+1)≤10^(k+1):=Nat.pow_le_pow_left (by decide) _
  have:=zB n k (by omega)
  omega
end Go.PM
namespace Go.PM
open Go.Lib
theorem MN (a b:List UInt8):cU .neq (.string ⟨a.toArray⟩) (.string ⟨b.toArray⟩)=some (.bool (!decide (a=b))):=by
 have h:∀l:List UInt8,(ByteArray.toList ⟨l.toArray⟩)=l:=fun l=>by rw[ByteArray.toList_eq]
 show some (Value.bool (!(ByteArray.toList ⟨a.toArray⟩ == ByteArray.toList ⟨b.toArray⟩)))=_
 rw[h,h]
 congr 3
 cases h2:a == b
 ·rw[decide_eq_false (by simpa using h2)]
 ·rw[decide_eq_true (by simpa using h2)]
theorem Rx (a b:List UInt8):cU .eql (.string ⟨a.toArray⟩) (.string ⟨b.toArray⟩)=some (.bool (decide (a=b))):=by
 have h:∀l:List UInt8,(ByteArray.toList ⟨l.toArray⟩)=l:=fun l=>by rw[ByteArray.toList_eq]
 show some (Value.bool (ByteArray.toList ⟨a.toArray⟩ == ByteArray.toList ⟨b.toArray⟩))=_
 rw[h,h]
 congr 2
 cases h2:a == b
 ·rw[decide_eq_false (by simpa using h2)]
 ·rw[decide_eq_true (by simpa using h2)]
theorem Jc {n:Nat}:(decDigits n=[49])↔n=1:=by
 have e:decDigits 1=[49]:=by rw[gP (by decide)];rfl
 rw[←e]
 exact⟨XV,fun h=>by rw[h]⟩
theorem Hj (q:Rat) (hk:cC q≤1099511627776):TC 172 [cF q] (.eK [aR (HA q),VB (Bb q)]):=by
 refine TC.walk ⟨true,false⟩ DH rfl (Nat.le_of_ble_eq_true rfl) (by simp[aK,eV]) rfl ?_
 have la:=rN hk
 have lb:=rG hk
 have t1:=Ai q.num.natAbs (ahF (by omega))
 have t2:=Ai q.den (ahF (by omega))
 have d1:=yN q.num.natAbs
 have d2:=yN q.den
 have a1:cU .add (.string ⟨#[45]⟩) (.string ⟨(decDigits q.num.natAbs).toArray⟩)=some (.string ⟨(45::decDigits q.num.natAbs).toArray⟩):=rU [45] _ (by simp only[List.length_cons,List.length_nil];omega)
 have a2:cU .add (.string ⟨#[47]⟩) (.string ⟨(decDigits q.den).toArray⟩)=some (.string ⟨(47::decDigits q.den).toArray⟩):=rU [47] (decDigits q.den) (by simp only[List.length_cons,List.length_nil];omega)
 have a3:=rU (45::decDigits q.num.natAbs) (47::decDigits q.den) (by simp only[List.length_cons];omega)
 have a4:=rU (decDigits q.num.natAbs) (47::decDigits q.den) (by simp only[List.length_cons];omega)
 have ne:cU .neq (.string ⟨(decDigits q.den).toArray⟩) (.string ⟨#[49]⟩)=_:=MN (decDigits q.den) [49]
 have hf:Bb q=(decide (((decDigits q.num.natAbs).length:Int)≤200)&&decide (((decDigits q.den).length:Int)≤200)):=by
  unfold Bb
  congr 1<;>exact decide_eq_decide.2 (by omega)
 rw[hf]
 have hs:HA q=(if q.num<0 then (45::decDigits q.num.natAbs) else decDigits q.num.natAbs)++(if q.den=1 then [] else 47::decDigits q.den):=by
  unfold HA
  by_cases hn:q.num<0
  ·rw[if_pos hn,if_pos hn];rfl
  ·rw[if_neg hn,if_neg hn];rfl
 rw[hs]
 by_cases hd:q.den=1
 ·rw[decide_eq_true (Jc.2 hd)] at ne
  rw[if_pos hd,List.append_nil]
  by_cases hn:q.num<0<;>by_cases hl:((decDigits q.num.natAbs).length:Int)≤200
  all_goals
   simp only[sS,pZ,t1,t2,a1,a2,a3,a4,ne,hn,hl,aZ,aE,dM,kR,kX,oF,bK,aO,aN,aG,gG,Nat.reduceLeDiff,Nat.reduceLT,Nat.reduceSub,VX,Nat.reduceEqDiff,Nat.reduceAdd]
   exact aH rfl
 ·rw[decide_eq_false (mt Jc.1 hd)] at ne
  rw[if_neg hd]
  by_cases hn:q.num<0<;>by_cases hl:((decDigits q.num.natAbs).length:Int)≤200
  all_goals
   simp only[sS,pZ,t1,t2,a1,a2,a3,a4,ne,hn,hl,aZ,aE,dM,kR,kX,oF,bK,aO,aN,aG,gG,Nat.reduceLeDiff,Nat.reduceLT,Nat.reduceSub,VX,Nat.reduceEqDiff,Nat.reduceAdd]
   exact aH rfl
def Er (q:Rat):VV:=if Bb q=true then .eK [aR (HA q),VB true] else .eK [aR [],VB false]
theorem Ff (q:Rat):gH (Er q)=true:=by unfold Er;split<;>rfl
theorem N2 (q:Rat) (hk:cC q≤1099511627776):TC 90 [cF q] (Er q):=by
 refine TC.walk ⟨true,false⟩ Nx rfl (Nat.le_of_ble_eq_true rfl) (by simp[aK,eV]) (Ff q) ?_
 have t1:=Hj q hk
 unfold Er
 by_cases h:Bb q=true
 ·rw[h] at t1
  rw[if_pos h]
  simp only[E0,A8,t1,aE,dM,bK,aO,aN,aG,gG,Nat.reduceLeDiff,Nat.reduceLT,Nat.reduceSub,VX,Nat.reduceEqDiff,Nat.reduceAdd]
  exact aH rfl
 ·have h':Bb q=false:=by simpa using h
  rw[h'] at t1
  rw[if_neg h]
  simp only[E0,A8,t1,aE,dM,bK,aO,aN,aG,gG,Nat.reduceLeDiff,Nat.reduceLT,Nat.reduceSub,VX,Nat.reduceEqDiff,Nat.reduceAdd]
  exact aH rfl
end Go.PM
namespace Go.PM
open Go.Lib
def gI (c:UInt8):Bool:=decide (48≤c.toNat)&&decide (c.toNat≤57)
def dv (c:UInt8):Nat:=c.toNat-48
def IP (a:Nat) (l:List UInt8):Nat:=l.foldl (fun a c=>a*10+dv c) a
def bM (l:List UInt8):Nat:=IP 0 l
theorem Q8 (l:List UInt8):∀a,IP a l=a*10^l.length+bM l:=by
 induction l with
 | nil=>intro a;simp[IP,bM]
 |
  cons c l ih =>
  intro a
  have h1:IP a (c::l)=IP (a*10+dv c) l:=rfl
  have h2:bM (c::l)=IP (0*10+dv c) l:=rfl
  rw[h1,h2,ih,ih (0*10+dv c),List.length_cons,Nat.pow_succ]
  grind
theorem Hy (a b:List UInt8):bM (a++b)=bM a*10^b.length+bM b:=by
 have:bM (a++b)=IP (bM a) b:=by unfold bM IP;rw[List.foldl_append]
 rw[this,Q8]
theorem IK:bM []=0:=rfl
theorem Uj (a:List UInt8) (c:UInt8):bM (a++[c])=bM a*10+dv c:=by
 rw[Hy]
 simp[bM,IP]
theorem Zj {c:UInt8} (h:gI c=true):dv c<10:=by
 simp only[gI,Bool.and_eq_true,decide_eq_true_eq] at h
 unfold dv
 omega
theorem El:∀ {l:List UInt8},l.all gI=true→bM l<10^l.length:=by
 intro l
 induction l with
 | nil=>intro _;decide
 |
  cons c l ih =>
  intro h
  rw[List.all_cons,Bool.and_eq_true] at h
  have h1:=Zj h.1
  have h2:=ih h.2
  have h3:bM (c::l)=IP (0*10+dv c) l:=rfl
  rw[h3,Q8,List.length_cons,Nat.pow_succ]
  have h4:(0*10+dv c)*10^l.length≤9*10^l.length:=Nat.mul_le_mul_right _ (by omega)
  omega
theorem aaO {M:Nat} (hM:1000000000000000000≤M):∀(l:List UInt8) (k acc:Nat),l.all gI=true→acc<10^k→k+l.length≤18→parseUintM M acc l = .ok (IP acc l):=by
 intro l
 induction l with
 | nil=>intro k acc _ _ _;rfl
 |
  cons c l ih =>
  intro k acc h hk hl
  rw[List.all_cons,Bool.and_eq_true] at h
  have h1:=Zj h.1
  have h0:=h.1
  simp only[gI,Bool.and_eq_true,decide_eq_true_eq] at h0
  rw[List.length_cons] at hl
  have h18:acc<10^17:=Nat.lt_of_lt_of_le hk (Nat.pow_le_pow_right (by decide) (by omega))
  have e17:(10:Nat)^17=100000000000000000:=by decide
  rw[e17] at h18
  have hd:c.toNat-48=dv c:=rfl
  rw[parseUintM,if_pos h0,if_neg (by omega),hd,if_neg (by omega),ih (k+1) _ h.2 (by rw[Nat.pow_succ];omega) (by omega)]
  rfl
theorem abL {l:List UInt8} (h:l.all gI=true) (h0:l≠[]) (hl:l.length≤18):parseUintB 64 l = .ok (bM l):=by
 unfold parseUintB
 rw[if_neg h0]
 exact aaO (by decide) l 0 0 h (by decide) (by omega)
def gC (l:List UInt8):Bool:=l.all gI&&decide (1≤l.length)&&decide (l.length≤200)&&(decide (l.length=1) || !decide (l.getD 0 0=48))
theorem iM {l:List UInt8}:gC l=true↔l.all gI=true∧1≤l.length∧l.length≤200∧(l.length=1∨l.getD 0 0≠48):=by
 unfold gC
 simp only[Bool.and_eq_true,Bool.or_eq_true,Bool.not_eq_true',decide_eq_true_eq,decide_eq_false_iff_not,ne_eq,and_assoc]
theorem vY {l:List UInt8} (h:gC l=true):bl (bM l)≤665:=by
 obtain⟨h1,h2,h3,_⟩:=iM.1 h
 refine CP (Nat.lt_of_lt_of_le (El h1) ?_)
 exact Nat.le_trans (Nat.pow_le_pow_right (by decide) h3) (by decide +kernel)
def kH (c:UInt8):List UInt8→List UInt8×Option (List UInt8)
 | []=>([],none)
 | x::r=>if x=c then ([],some r) else (x::(kH c r).1,(kH c r).2)
theorem xR {c:UInt8}:∀ {l:List UInt8},(kH c l).2=none→indexByte l c = -1∧(kH c l).1=l∧c∉l:=by
 intro l
 induction l with
 | nil=>intro _;exact⟨rfl,rfl,by simp⟩
 |
  cons x l ih =>
  intro h
  unfold kH at h ⊢
  by_cases hx:x=c
  ·rw[if_pos hx] at h
   cases h
  ·rw[if_neg hx] at h ⊢
   obtain⟨h1,h2,h3⟩:=ih h
   refine⟨?_,by rw[h2],?_⟩
   ·rw[indexByte,if_neg (by simpa using hx),h1]
    rfl
   ·rw[List.mem_cons,not_or]
    exact⟨fun h=>hx h.symm,h3⟩
theorem FT {c:UInt8}:∀ {l r:List UInt8},(kH c l).2=some r→indexByte l c=((kH c l).1.length:Int)∧l=(kH c l).1++c::r∧c∉(kH c l).1:=by
 intro l
 induction l with
 | nil=>intro r h;cases h
 |
  cons x l ih =>
  intro r h
  unfold kH at h ⊢
  by_cases hx:x=c
  ·rw[if_pos hx] at h ⊢
   cases h
   subst hx
   refine⟨?_,rfl,by simp⟩
   rw[indexByte,if_pos (by simp)]
   rfl
  ·rw[if_neg hx] at h ⊢
   obtain⟨h1,h2,h3⟩:=ih h
   refine⟨?_,?_,?_⟩
   ·rw[indexByte,if_neg (by simpa using hx),h1,if_neg]
    ·simp
    ·simp
   ·conv=>lhs;rw[h2]
    rfl
   ·rw[List.mem_cons,not_or]
    exact⟨fun h=>hx h.symm,h3⟩
def mE (neg:Bool) (d:List UInt8) (s:Option (List UInt8)):Option Rat :=
 if gC d=false∨(neg=true∧bM d=0) then none else
 match s with
 | none=>some (mkRat (jD neg (bM d)) 1)
 | some t=>if gC t=true∧1<bM t∧Nat.gcd (bM d) (bM t)=1 then some (mkRat (jD neg (bM d)) (bM t)) else none
def isNeg (l:List UInt8):Bool:=decide (1≤l.length)&&decide (l.getD 0 0=45)
def uF (l:List UInt8):Option Rat:=mE (isNeg l) ((kH 47 (if isNeg l then l.drop 1 else l)).1) ((kH 47 (if isNeg l then l.drop 1 else l)).2)
theorem QT {neg:Bool} {d:List UInt8} {s:Option (List UInt8)} {q:Rat} (h:mE neg d s=some q):gC d=true∧¬(neg=true∧bM d=0)∧((s=none∧q=mkRat (jD neg (bM d)) 1)∨∃t,s=some t∧gC t=true∧1<bM t∧Nat.gcd (bM d) (bM t)=1∧q=mkRat (jD neg (bM d)) (bM t)):=by
 unfold mE at h
 split at h
 ·cases h
 ·rename_i hc
  rw[not_or] at hc
  refine⟨by simpa using hc.1,hc.2,?_⟩
  split at h
  ·exact .inl ⟨rfl,(Option.some.inj h).symm⟩
  ·rename_i t
   split at h
   ·rename_i ht
    exact .inr ⟨t,rfl,ht.1,ht.2.1,ht.2.2,(Option.some.inj h).symm⟩
   ·cases h
theorem Oo {neg:Bool} {d:List UInt8} {s:Option (List UInt8)} {q:Rat} (h:mE neg d s=some q):cC q≤665:=by
 obtain⟨h1,_,h3⟩:=QT h
 have hb:=vY h1
 rcases h3 with⟨_,rfl⟩ | ⟨t,_,h4,h5,_,rfl⟩
 ·exact D5 (by rw[lT];exact hb) (CP (by decide +kernel)) (by decide)
 ·exact D5 (by rw[lT];exact hb) (vY h4) (by omega)
theorem QZ {l:List UInt8} {q:Rat} (h:uF l=some q):cC q≤665:=Oo h
theorem GK {neg:Bool} {t b:Nat} (hb:b≠0) (hg:Nat.gcd t b=1):(mkRat (jD neg t) b).num=jD neg t∧(mkRat (jD neg t) b).den=b:=by
 rw[Ds hb,Mj hb,hg,Nat.div_one,Nat.div_one]
 exact⟨rfl,rfl⟩
theorem Df {c:UInt8} {l:List UInt8}:isNeg (c::l)=decide (c=45):=by simp[isNeg]
theorem Wl {l:List UInt8} (h:l.all gI=true):(47:UInt8)∉l:=by
 intro hm
 have:=List.all_eq_true.1 h _ hm
 exact absurd this (by decide)
end Go.PM