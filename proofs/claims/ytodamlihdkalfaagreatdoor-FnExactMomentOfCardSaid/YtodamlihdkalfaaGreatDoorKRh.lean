/- Texts of a claim, in one: part 8. -/
import Derived.Lib.Bytealg
import Derived.Lib.ParseIntB
import Derived.Test.YtodamlihdkalfaaGreatDoorKRg
set_option linter.unusedSimpArgs false
set_option linter.unusedVariables false
namespace Go.PM
theorem Iq {a n:Nat} (hn:(aC 4294967296 a).length=n+1):∃d,(aC 4294967296 a)[n]? = some d∧d≠0∧d<4294967296:=by
 obtain⟨d,hd⟩:∃d,(aC 4294967296 a)[n]? = some d:=⟨_,List.getElem?_eq_getElem (by omega)⟩
 refine⟨d,hd,fun h0 => ?_,eE (by decide) a d (List.mem_of_getElem? hd)⟩
 have:=Kk (b:=4294967296) (by decide) a
 rw[List.getLast?_eq_getElem?,hn,Nat.add_sub_cancel,hd,h0] at this
 exact this rfl
theorem On {a d:Nat} (h:aC 4294967296 a=[d]):a=d∧0<d∧d<4294967296:=by
 have h1:=bW (b:=4294967296) (by decide) a
 rw[h,val_one] at h1
 obtain⟨e,h2,h3,h4⟩:=Iq (a:=a) (n:=0) (by rw[h];rfl)
 rw[h] at h2
 cases h2
 exact⟨h1.symm,by omega,h4⟩
theorem vL (a b:Nat) (hb:b≠0) (ha:(aC 4294967296 a).length≤17592186044416) (sW:(aC 4294967296 b).length≤17592186044416):TC 173 [bD a,bD b] (.eQ [bD (a / b),bD (a % b)]):=by
 refine TC.walk ⟨true,false⟩ EY rfl (Nat.le_of_ble_eq_true rfl) (by simp[aJ,bH]) (by simp[gO,pM,oB]) ?_
 have c1:=iP a b ha sW
 by_cases DN:dY a b<0
 ·have aX:a<b:=by
   unfold dY at DN
   split at DN
   ·assumption
   ·split at DN<;>omega
  simp only[pZ,nH,c1,DN,VX,Nat.reduceEqDiff,Nat.reduceAdd]
  rw[Nat.div_eq_of_lt aX,Nat.mod_eq_of_lt aX]
  exact bG (d:=6) tR (aH (bH a))
 have Cv:b≤a:=by
  unfold dY at DN
  split at DN
  ·omega
  ·omega
 have hbn:(aC 4294967296 b).length≠0:=fun h=>hb ((jV (b:=4294967296) (by decide)).1 (List.length_eq_zero_iff.1 h))
 by_cases h1:(((aC 4294967296 b).length:Nat):Int)=1
 ·obtain⟨d,hd⟩:∃d,aC 4294967296 b=[d]:=by
   match hx:aC 4294967296 b with
   | []=>rw[hx] at hbn;exact absurd rfl hbn
   | [d]=>exact⟨d,rfl⟩
   | _::_::_=>rw[hx] at h1;simp at h1;omega
  obtain⟨rfl,BD,hdW⟩:=On hd
  have c2:=tL a b BD hdW ha
  have e0:oG (bD b) []=some (VI 1):=by rw[bD,yX,dP,hd];rfl
  have e1:bE 1 (bD b) (VI 0) []=some (.cO (uV b) 0):=by
   rw[bD,hd]
   exact aM (f:=uV) (t := .op) (H:=[]) (size:=1) (k := .i64) (xs:=[b]) (i:=0) rfl rfl
  have e2:=sK (H:=[]) (z:=[.int .u32 0]) (v:=uV (a % b)) rfl rfl rfl
  have e3:=Xr (size:=1) (v:=Value.int .u32 ((b:Nat):Int))
  simp only[pZ,nH,c1,DN,e0,e1,c2,e2,VX,Nat.reduceEqDiff,Nat.reduceAdd]
  refine Ix (ds:=[a % b]) (t := .cl 1) (fun d hd => ?_) (by show 1≤70368744177664;decide) (val_one _) fun t' ht => ?_
  ·rw[List.mem_singleton] at hd
   subst hd
   exact Nat.lt_of_lt_of_le (Nat.mod_lt _ BD) (Nat.le_of_lt hdW)
  ·simp only[VX,Nat.reduceEqDiff,Nat.reduceAdd]
   exact bG (d:=6) (aH (bH _)) (Wk (d:=5) ht)
 obtain⟨n,hn⟩:∃n,(aC 4294967296 b).length=n+2:=⟨(aC 4294967296 b).length-2,by omega⟩
 obtain⟨t,ht,ht0,htW⟩:=Iq (a:=b) (n:=n+1) hn
 obtain⟨s,hs,cl,Xl⟩:=Qw ht0 htW
 have hS:0<2^s:=Nat.pow_pos (by decide)
 have hSW:2^s*2^(32-s)=4294967296:=by rw[←Nat.pow_add,show s+(32-s)=32 by omega]
 have hla:=dG (b:=4294967296) (by decide) Cv
 have e0:oG (bD b) []=some (VI ((n+2:Nat):Int)):=by rw[bD,yX,dP,hn]
 have w0:IntKind.i64.wrap (((n+2:Nat):Int)-1)=((n+1:Nat):Int):=wrapN _ (by omega) (by omega)
 have UK:¬(((n+2:Nat):Int)=1):=by omega
 have e1:bE 1 (bD b) (VI ((n+1:Nat):Int)) []=some (.cO (uV t) 0):=aM (f:=uV) (t := .op) (H:=[]) (size:=1) (k := .i64) ht rfl
 simp only[pZ,nH,c1,DN,e0,UK,w0,e1,cl,VX,Nat.reduceEqDiff,Nat.reduceAdd]
 have fa:[bD a,VI (s:Int)].mapM (fz depth ([]:aA))=some [bD a,VI (s:Int)]:=Yq (aG (bH a)) (aG rfl)
 refine FC.call (vI a s hs ha) rfl fa ?_
 rintro r L ⟨FE,rfl,rfl,hAl,hAd,hAv,hAt⟩
 simp only[VX,Nat.reduceEqDiff,Nat.reduceAdd]
 have fb:∀H:aA,[bD b,VI (s:Int)].mapM (fz depth H)=some [bD b,VI (s:Int)]:=fun H=>Yq (aG (bH b)) (aG rfl)
 refine FC.call (vI b s hs sW) rfl (fb _) ?_
 rintro r L ⟨Cy,rfl,rfl,hBl,hBd,hBv,hBt⟩
 rw[hn] at hBl
 simp only[hn,List.length_singleton,VX,Nat.reduceEqDiff,Nat.reduceAdd]
 have acW:b*2^s<4294967296^(n+2):=by
  have h2:=(wS (n:=n+1) (eE (b:=4294967296) (by decide) b) hn ht).2
  rw[bW (by decide)] at h2
  have h3:b*2^s<(t+1)*4294967296^(n+1)*2^s:=Nat.mul_lt_mul_of_pos_right h2 hS
  have h4:(t+1)*4294967296^(n+1)*2^s=(t+1)*2^s*4294967296^(n+1):=by grind
  have h5:(t+1)*2^s≤4294967296:=by
   have h6:t*2^s<2^(32-s)*2^s:=by rw[Nat.mul_comm (2^(32-s)),hSW];exact Xl
   have h7:=Nat.lt_of_mul_lt_mul_right h6
   have h8:(t+1)*2^s≤2^(32-s)*2^s:=Nat.mul_le_mul_right _ h7
   rwa [Nat.mul_comm (2^(32-s)),hSW] at h8
  have h9:(t+1)*2^s*4294967296^(n+1)≤4294967296*4294967296^(n+1):=Nat.mul_le_mul_right _ h5
  have h10:4294967296*4294967296^(n+1)=4294967296^(n+2):=by rw[Nat.pow_succ 4294967296 (n+1)];exact Nat.mul_comm _ _
  omega
 have ZU:(aC 4294967296 (b*2^s)).length=n+2:=by
  have h2:=kH (b:=4294967296) (by decide) acW
  have h3:b≤b*2^s:=Nat.le_mul_of_pos_right b hS
  have h4:=dG (b:=4294967296) (by decide) h3
  omega
 refine pG (rows:=Cy) (m:=b*2^s) (by rfl) (by omega) (by omega) (by omega) (fun d hd=>hBd d (List.mem_of_mem_take hd)) (by rw[List.take_of_length_le (by omega)];exact hBv) fun k hk he => ?_
 have YT:k=n+2:=by
  have:=congrArg List.length he
  rw[ZU,List.length_take] at this
  omega
 subst YT
 generalize Nc:aC 4294967296 (b*2^s)=vs at *
 have D9:∀d∈vs,d<4294967296:=by rw[←Nc];exact eE (by decide) _
 have Ka:val 4294967296 vs=b*2^s:=by rw[←Nc];exact bW (by decide) _
 obtain⟨v1,f1⟩:∃v1,vs[n+1]? = some v1:=⟨_,List.getElem?_eq_getElem (by omega)⟩
 obtain⟨v0,f0⟩:∃v0,vs[n]? = some v0:=⟨_,List.getElem?_eq_getElem (by omega)⟩
 have Z7:1≤v1:=by
  obtain⟨d,hd,BD,_⟩:=Iq (a:=b*2^s) (n:=n+1) (by rw[Nc];exact ZU)
  rw[Nc,f1] at hd
  cases hd
  omega
 have b1:Cy[n+1]? = some v1:=by rw[←f1,←he,List.getElem?_take_of_lt (by omega)]
 have b0:Cy[n]? = some v0:=by rw[←f0,←he,List.getElem?_take_of_lt (by omega)]
 have lv1:=D9 v1 (List.mem_of_getElem? f1)
 have lv0:=D9 v0 (List.mem_of_getElem? f0)
 have x1:bE 1 (.ref 1 0 0 (n+2) (n+2+1)) (VI ((n+1:Nat):Int)) [.row 0 (FE.map uV) 1 true,.row 0 (Cy.map uV) 1 true]=some (.ptr 1 0 (n+1) 0):=by rw[bB (by rfl) (by omega),Nat.zero_add]
 have x0:bE 1 (.ref 1 0 0 (n+2) (n+2+1)) (VI ((n:Nat):Int)) [.row 0 (FE.map uV) 1 true,.row 0 (Cy.map uV) 1 true]=some (.ptr 1 0 n 0):=by rw[bB (by rfl) (by omega),Nat.zero_add]
 have y1:dU false 1 (.ptr 1 0 (n+1) 0) [.row 0 (FE.map uV) 1 true,.row 0 (Cy.map uV) 1 true]=some (uV v1):=gT (rows:=Cy) (g:=0) (w:=true) (by rfl) b1
 have y0:dU false 1 (.ptr 1 0 n 0) [.row 0 (FE.map uV) 1 true,.row 0 (Cy.map uV) 1 true]=some (uV v0):=gT (rows:=Cy) (g:=0) (w:=true) (by rfl) b0
 have z0:oG (.ref 1 0 0 (n+2) (n+2+1)) [.row 0 (FE.map uV) 1 true,.row 0 (Cy.map uV) 1 true]=some (VI ((n+2:Nat):Int)):=gK (r:=(Cy.map uV,1,true)) (by rfl)
 have z1:oG (.ref 0 0 0 ((aC 4294967296 a).length+1) ((aC 4294967296 a).length+1)) [.row 0 (FE.map uV) 1 true,.row 0 (Cy.map uV) 1 true]=some (VI (((aC 4294967296 a).length+1:Nat):Int)):=gK (r:=(FE.map uV,1,true)) (by rfl)
 have w2:IntKind.i64.wrap (((n+2:Nat):Int)-2)=((n:Nat):Int):=wrapN _ (by omega) (by omega)
 have wv1:IntKind.u64.wrap (v1:Int)=(v1:Int):=eH _ (by omega)
 have wv0:IntKind.u64.wrap (v0:Int)=(v0:Int):=eH _ (by omega)
 obtain⟨m,hm⟩:∃m,m+(n+2)=(aC 4294967296 a).length+1:=⟨(aC 4294967296 a).length+1-(n+2),by omega⟩
 have wm:IntKind.i64.wrap ((((aC 4294967296 a).length+1:Nat):Int)-((n+2:Nat):Int))=(m:Int):=wrapN _ (by omega) (by omega)
 have wm1:IntKind.i64.wrap ((m:Int)-1)=(m:Int)-1:=wrap64 (by omega) (by omega)
 have mk:=So m 0 (by omega) (H:=[.row 0 (FE.map uV) 1 true,.row 0 (Cy.map uV) 1 true])
 have z2:oG (.ref 2 0 0 m m) (H3 FE Cy (List.replicate m 0))=some (VI m):=gK (r:=((List.replicate m 0).map uV,1,true)) (by rfl)
 simp only[w0,x1,x0,y1,y0,z0,z1,w2,wv1,wv0,wm,mk,z2,wm1,List.length_cons,List.length_nil,VX,Nat.reduceEqDiff,Nat.reduceAdd]
 have Au:val 4294967296 (FE.drop m)<val 4294967296 vs:=by
  obtain⟨d,hd⟩:∃d,FE[(aC 4294967296 a).length]? = some d:=⟨_,List.getElem?_eq_getElem (by omega)⟩
  have h2:=(wS (b:=4294967296) (xs:=FE.drop m) (n:=n+1) (t:=d) (fun x hx=>hAd x (List.mem_of_mem_drop hx)) (by rw[List.length_drop];omega) (by rw[List.getElem?_drop,show m+(n+1)=(aC 4294967296 a).length by omega];exact hd)).2
  have h3:=hAt d hd
  have h4:=(wS (n:=n+1) (eE (b:=4294967296) (by decide) b) hn ht).1
  rw[bW (by decide)] at h4
  have h5:(d+1)*4294967296^(n+1)≤2^s*4294967296^(n+1):=Nat.mul_le_mul_right _ h3
  have h6:1*4294967296^(n+1)≤t*4294967296^(n+1):=Nat.mul_le_mul_right _ (by omega)
  have h7:1*4294967296^(n+1)*2^s≤b*2^s:=Nat.mul_le_mul_right _ (by omega)
  rw[Ka]
  rw[Nat.one_mul,Nat.mul_comm] at h7
  omega
 refine Vs (CE:=FE) (ws:=Cy) (US:=List.replicate m 0) (vs:=vs) (N:=(aC 4294967296 a).length+1) (m:=m) (n:=n) (A:=a*2^s) (s:=s) hAl hm (by omega) hAd he hBl ZU D9 f1 f0 Z7 hAv Au (by simp) (xP (by decide) _) (by rfl) (by rfl) (by rfl) (by rfl) (by rfl) (by rfl) (by rfl) ?_
 intro uG us os r8 r9 Ys M5 G6 iF jQ hv aX
 rw[Ka] at hv aX
 have hq:val 4294967296 os=a / b:=by
  rw[←Nat.mul_div_mul_right a b hS,←hv,Nat.add_mul_div_left _ _ (by omega),Nat.div_eq_of_lt aX,Nat.zero_add]
 have hr:val 4294967296 us=a % b*2^s:=by
  rw[←Nat.mul_mod_mul_right,←hv,Nat.add_mul_mod_self_left,Nat.mod_eq_of_lt aX]
 simp only[r9,VX,Nat.reduceEqDiff,Nat.reduceAdd]
 refine pG (rows:=us) (m:=a % b*2^s) AV (by omega) (Nat.le_refl _) (by omega) (fun d hd=>G6 d (List.mem_of_mem_take hd)) (by rw[List.take_of_length_le (by omega)];exact hr) fun k hk he2 => ?_
 have z3:oG (.ref 0 0 0 k ((aC 4294967296 a).length+1)) (H3 us Cy os)=some (VI k):=gK AV
 simp only[z3,VX,Nat.reduceEqDiff,Nat.reduceAdd]
 refine TV (us:=us) (k:=k) (N:=(aC 4294967296 a).length+1) (s:=s) (w0:=2^(32-s)) hs hSW M5 hk (by omega) G6 r8 (by rfl) (by rfl) (by rfl) ?_
 intro Lc Dm q9 q13 abG YR hv'
 have aoF:Lc 13 = .ref 2 0 0 m m:=q13.trans Ys
 have BP:val 4294967296 (Dm.take k)=a % b:=by
  rw[hv',he2,bW (by decide),Nat.mul_div_cancel _ hS]
 simp only[q9,aoF,VX,Nat.reduceEqDiff,Nat.reduceAdd]
 refine pG (rows:=os) (m:=a / b) YZ (by omega) (Nat.le_refl _) (by omega) (fun d hd=>jQ d (List.mem_of_mem_take hd)) (by rw[List.take_of_length_le (by omega)];exact hq) fun k2 YT he3 => ?_
 simp only[q9,VX,Nat.reduceEqDiff,Nat.reduceAdd]
 refine pG (rows:=Dm) (m:=a % b) AV (by omega) hk (by omega) (fun d hd=>YR d (List.mem_of_mem_take hd)) BP fun k3 hk3 he4 => ?_
 simp only[VX,Nat.reduceEqDiff,Nat.reduceAdd]
 exact bG (d:=6) (HJ (d:=5) YZ (by omega) YT he3) (HJ (d:=5) AV (by omega) (by omega) he4)
end Go.PM
namespace Go.PM
theorem dF (n:Nat) {H:aA}:oG (bD n) H=some (VI (aC 4294967296 n).length):=dP
theorem tY {n:Nat}:(0:Int)<((aC 4294967296 n).length:Int)↔n≠0:=by
 constructor
 ·intro h h0
  subst h0
  rw[bQ] at h
  simp at h
 ·intro h
  have:=(jV (b:=4294967296) (by decide) (n:=n))
  have h2:aC 4294967296 n≠[]:=fun hx=>h (this.1 hx)
  have:=List.length_pos_iff.2 h2
  omega
theorem ON {n:Nat} (h:(aC 4294967296 n).length≤2):n<18446744073709551616:=by
 have h1:=fP (b:=4294967296) (by decide) n
 have h2:4294967296^(aC 4294967296 n).length≤4294967296^2:=Nat.pow_le_pow_right (by decide) h
 omega
theorem BA (a b:Nat) (ha:(aC 4294967296 a).length≤17592186044416) (hb:(aC 4294967296 b).length≤17592186044416):TC 171 [bD a,bD b] (bD (Nat.gcd a b)):=by
 refine TC.walk ⟨true,false⟩ E8 rfl (Nat.le_of_ble_eq_true rfl) (by simp[aJ,bH]) (oB _) ?_
 simp only[AZ,zI,VX,Nat.reduceEqDiff,Nat.reduceAdd]
 refine aY (fun(t:Nat×Nat) ρ H=>H=[]∧Nat.gcd t.1 t.2=Nat.gcd a b∧(aC 4294967296 t.1).length≤17592186044416∧(aC 4294967296 t.2).length≤17592186044416∧ρ 0=bD t.1∧ρ 1=bD t.2) (fun t=>t.2) (a,b) ⟨rfl,rfl,ha,hb,rfl,rfl⟩ ?_
 rintro⟨x,y⟩ ρ H ⟨rfl,hg,hx,hy,g0,g1⟩
 simp only at hg hx hy g0 g1
 have c1:=zC x hx
 have c2:=zC y hy
 by_cases Yp:y=0
 ·subst Yp
  have hl:¬(0:Int)<((aC 4294967296 0).length:Int):=by rw[tY];omega
  rw[Nat.gcd_zero_right] at hg
  simp only[gV,g0,g1,dF,hl,VX,Nat.reduceEqDiff,Nat.reduceAdd]
  rw[hg]
  exact aG (bH _)
 have hl:(0:Int)<((aC 4294967296 y).length:Int):=tY.2 Yp
 by_cases h1:(aC 4294967296 x).length≤2∧(aC 4294967296 y).length≤2
 ·rw[if_pos h1.1] at c1
  rw[if_pos h1.2] at c2
  simp only[gV,g0,g1,dF,hl,c1,c2,VX,Nat.reduceEqDiff,Nat.reduceAdd]
  refine aY (fun(t:Nat×Nat) ρ H=>H=[]∧Nat.gcd t.1 t.2=Nat.gcd a b∧t.1<18446744073709551616∧t.2<18446744073709551616∧ρ 5=VK .u64 t.1∧ρ 7=VK .u64 t.2) (fun t=>t.2) (x,y) ⟨rfl,hg,ON h1.1,ON h1.2,rfl,rfl⟩ ?_
  rintro⟨u,v⟩ Lc H ⟨rfl,hg2,hu,hv,k5,k7⟩
  simp only at hg2 hu hv k5 k7
  by_cases hv0:v=0
  ·subst hv0
   rw[Nat.gcd_zero_right] at hg2
   have hz:¬(0:Int)<((0:Nat):Int):=by omega
   have c3:=kT u hu
   simp only[qO,k5,k7,hz,c3,VX,Nat.reduceEqDiff,Nat.reduceAdd]
   rw[hg2]
   exact aG (bH _)
  ·have hz:(0:Int)<(v:Int):=by omega
   have r1:=Mm u v (by omega)
   simp only[qO,k5,k7,hz,r1,VX,Nat.reduceEqDiff,Nat.reduceAdd]
   refine⟨(v,u % v),?_,?_,hv,?_,rfl,rfl⟩
   ·exact Nat.mod_lt _ (by omega)
   ·simp only
    rw[←hg2,Nat.gcd_comm u v,Nat.gcd_rec v u,Nat.gcd_comm]
   ·simp only
    have:=Nat.mod_lt u (show 0<v by omega)
    omega
 ·have c3:=vL x y Yp hx hy
  have next:∃s':Nat×Nat,s'.2<y∧Nat.gcd s'.1 s'.2=Nat.gcd a b∧(aC 4294967296 s'.1).length≤17592186044416∧(aC 4294967296 s'.2).length≤17592186044416∧bD y=bD s'.1∧bD (x % y)=bD s'.2:=by
   have hm:=Nat.mod_lt x (show 0<y by omega)
   refine⟨(y,x % y),hm,?_,hy,?_,rfl,rfl⟩
   ·simp only
    rw[←hg,Nat.gcd_comm x y,Nat.gcd_rec y x,Nat.gcd_comm]
   ·simp only
    have:=dG (b:=4294967296) (by decide) (Nat.le_of_lt hm)
    omega
  by_cases h2:(aC 4294967296 x).length≤2
  ·have h3:¬(aC 4294967296 y).length≤2:=fun h=>h1 ⟨h2,h⟩
   rw[if_pos h2] at c1
   rw[if_neg h3] at c2
   simp only[gV,g0,g1,dF,hl,c1,c2,c3,VX,Nat.reduceEqDiff,Nat.reduceAdd]
   exact next
  ·rw[if_neg h2] at c1
   by_cases h3:(aC 4294967296 y).length≤2
   ·rw[if_pos h3] at c2
    simp only[gV,g0,g1,dF,hl,c1,c2,c3,VX,Nat.reduceEqDiff,Nat.reduceAdd]
    exact next
   ·rw[if_neg h3] at c2
    simp only[gV,g0,g1,dF,hl,c1,c2,c3,VX,Nat.reduceEqDiff,Nat.reduceAdd]
    exact next
end Go.PM
namespace Go.PM
open Go.Lib
theorem sC (a b:List UInt8) (h:a.length+b.length≤9223372036854775807):cX .add (.string ⟨a.toArray⟩) (.string ⟨b.toArray⟩)=some (.string ⟨(a++b).toArray⟩):=by
 have h1:(⟨a.toArray⟩:ByteArray).size=a.length:=by simp[ByteArray.size]
 have h2:(⟨b.toArray⟩:ByteArray).size=b.length:=by simp[ByteArray.size]
 have h3:¬(((⟨a.toArray⟩:ByteArray).size+(⟨b.toArray⟩:ByteArray).size:Nat):Int)>IntKind.i64.max:=by
  rw[h1,h2]
  show ¬_>(9223372036854775807:Int)
  omega
 simp only[cX,h3,if_false]
 congr 2
theorem bC (a:List UInt8):yD (.string ⟨a.toArray⟩)=some (.int .i64 (a.length:Int)):=by simp[yD,ByteArray.size]
theorem Yl:∀a:List UInt8,(aB (aS a)).length=1:=fun _=>rfl
theorem SY {xs:List (List UInt8)} {H:aA} {lo b g n:Nat} (hr:aQ H b g=some (xs.map aS,1,true)) (hn:xs.length=n) (gF:lo≤b) (Bf:n≤9223372036854775806) :
  qX 185 [.ref b g 0 n n] lo H fun r H'=>r = .eQ []∧H'=H.set b (.row g (xs.reverse.map aS) 1 true):=by
 refine qX.walk ⟨true,false⟩ pL (Nat.le_of_ble_eq_true rfl) ?_
 have e0:oG (.ref b g 0 n n) H=some (VI n):=gK hr
 have w0:IntKind.i64.wrap ((n:Int)-1)=(n:Int)-1:=wrap64 (by omega) (by omega)
 simp only[jP,iX,e0,w0,VX,Nat.reduceEqDiff,Nat.reduceAdd]
 refine aY (fun(t:Nat×List (List UInt8)) ρ K=>t.1≤n∧K=H.set b (.row g (t.2.map aS) 1 true)∧t.2.length=n∧(∀k,k<n→t.2[k]? = if k<t.1∨n≤k+t.1 then xs[n-1-k]? else xs[k]?)∧ρ 0 = .ref b g 0 n n∧ρ 2=VI t.1∧ρ 3=VI ((n:Int)-1-(t.1:Int))) (fun t=>n-t.1) (0,xs) ⟨Nat.zero_le _,(tT hr).symm,hn,fun k hk=>by rw[if_neg (by simp only;omega)],rfl,rfl,by show VI ((n:Int)-1)=VI ((n:Int)-1-((0:Nat):Int));rw[Int.natCast_zero,Int.sub_zero]⟩ ?_
 rintro⟨i,ys⟩ ρ K ⟨hi,rfl,hl,hy,g0,g2,g3⟩
 simp only at hi hl hy g2 g3
 have YE:aQ (H.set b (.row g (ys.map aS) 1 true)) b g=some (ys.map aS,1,true):=lK hr
 by_cases dA:(i:Int)<(n:Int)-1-(i:Int)
 ·have hj:(n:Int)-1-(i:Int)=((n-1-i:Nat):Int):=by omega
  obtain⟨x,hx⟩:∃x,ys[i]? = some x:=⟨_,List.getElem?_eq_getElem (by omega)⟩
  obtain⟨y,hyy⟩:∃y,ys[n-1-i]? = some y:=⟨_,List.getElem?_eq_getElem (by omega)⟩
  rw[hj] at g3 dA
  have a1:∀(zs:List (List UInt8)) (k:Nat),zs.length=n→k<n→bE 1 (.ref b g 0 n n) (VI (k:Int)) (H.set b (.row g (zs.map aS) 1 true))=some (.ptr b g k 0):=fun zs k h1 h2=>by rw[bB (lK hr) h2,Nat.zero_add]
  have l1:dU false 1 (.ptr b g (n-1-i) 0) (H.set b (.row g (ys.map aS) 1 true))=some (aS y):=rL YE hyy
  have l2:dU false 1 (.ptr b g i 0) (H.set b (.row g (ys.map aS) 1 true))=some (aS x):=rL YE hx
  have s1:cQ lo 1 (.ptr b g i 0) (aS y) (H.set b (.row g (ys.map aS) 1 true))=some (H.set b (.row g ((ys.set i y).map aS) 1 true)):=by rw[fH (f:=aS) (e:=1) YE (by omega) gF rfl rfl,kL]
  have s2:cQ lo 1 (.ptr b g (n-1-i) 0) (aS x) (H.set b (.row g ((ys.set i y).map aS) 1 true))=some (H.set b (.row g (((ys.set i y).set (n-1-i) x).map aS) 1 true)):=by rw[fH (f:=aS) (e:=1) (lK hr) (by rw[List.length_set];omega) gF rfl rfl,kL]
  have w1:IntKind.i64.wrap ((i:Int)+1)=((i+1:Nat):Int):=wrapN _ (by omega) (by omega)
  have w2:IntKind.i64.wrap (((n-1-i:Nat):Int)-1)=(n:Int)-1-((i+1:Nat):Int):=by rw[wrap64 (by omega) (by omega)];omega
  have b1:=a1 ys i hl (by omega)
  have b2:=a1 ys (n-1-i) hl (by omega)
  have b3:=a1 (ys.set i y) (n-1-i) (by rw[List.length_set];exact hl) (by omega)
  simp only[eK,g0,g2,g3,dA,b1,b2,b3,l1,l2,s1,s2,w1,w2,VX,Nat.reduceEqDiff,Nat.reduceAdd]
  refine⟨(i+1,(ys.set i y).set (n-1-i) x),by simp only;omega,by simp only;omega,rfl,by simp only[List.length_set];exact hl,fun k hk => ?_,by (repeat' apply And.intro)<;>first | rfl | trivial⟩
  simp only
  have hxx:=hy i (by omega)
  rw[if_neg (by omega),hx] at hxx
  have hyx:=hy (n-1-i) (by omega)
  rw[if_neg (by omega),hyy] at hyx
  rw[List.getElem?_set,List.getElem?_set,List.length_set]
  by_cases h1:n-1-i=k
  ·subst h1
   rw[if_pos rfl,if_pos (by omega),if_pos (by omega),show n-1-(n-1-i)=i by omega]
   exact hxx
  ·rw[if_neg h1]
   by_cases h2:i=k
   ·subst h2
    rw[if_pos rfl,if_pos (by omega),if_pos (by omega)]
    exact hyx
   ·rw[if_neg h2,hy k hk]
    by_cases h3:k<i∨n≤k+i
    ·rw[if_pos h3,if_pos (by omega)]
    ·rw[if_neg h3,if_neg (by omega)]
 ·have anI:ys=xs.reverse:=by
   apply List.ext_getElem?
   intro k
   rcases Nat.lt_or_ge k n with h | h
   ·rw[hy k h,List.getElem?_reverse (by omega),hn]
    split
    ·rfl
    ·rw[show n-1-k=k by omega]
   ·rw[List.getElem?_eq_none (by omega),List.getElem?_eq_none (by rw[List.length_reverse];omega)]
  subst anI
  simp only[eK,g0,g2,g3,dA,VX,Nat.reduceEqDiff,Nat.reduceAdd]
  try exact⟨rfl,rfl⟩
theorem UF (n:Nat):(aC 1000000000 n).length≤2*(aC 4294967296 n).length:=by
 refine kH (by decide) ?_
 have h1:=fP (b:=4294967296) (by decide) n
 have h2:4294967296^(aC 4294967296 n).length≤(1000000000^2)^(aC 4294967296 n).length:=Nat.pow_le_pow_left (by decide) _
 rw[←Nat.pow_mul] at h2
 omega
theorem Yz {n:Nat} (hn:n≠0):(decDigits n).length≤9*(aC 1000000000 n).length:=by
 have h1:=fP (b:=1000000000) (by decide) n
 have h3:(aC 1000000000 n)≠[]:=fun h=>hn ((jV (by decide)).1 h)
 have h4:=List.length_pos_iff.2 h3
 generalize (aC 1000000000 n).length=L at *
 obtain⟨k,hk⟩:∃k,9*L=k+1:=⟨9*L-1,by omega⟩
 have h5:(1000000000:Nat)^L=10^(9*L):=by rw[show (1000000000:Nat)=10^9 by decide,←Nat.pow_mul]
 rw[h5,hk] at h1
 rw[hk]
 exact Ai n k h1
def oV (q:Nat):List UInt8:=if q=0 then [] else decDigits q
theorem AK (n:Nat) (hn:(aC 4294967296 n).length≤68719476736):TC 102 [bD n] (aS (decDigits n)):=by
 refine TC.walk ⟨true,false⟩ EL rfl (Nat.le_of_ble_eq_true rfl) (by simp[aJ,bH]) rfl ?_
 by_cases h0:n=0
 ·subst h0
  have hl:(((aC 4294967296 0).length:Nat):Int)=0:=by rw[bQ];rfl
  simp only[tG,qT,dF,hl,VX,Nat.reduceEqDiff,Nat.reduceAdd]
  rw[gR (by decide)]
  exact aG rfl
 have hl:¬(((aC 4294967296 n).length:Nat):Int)=0:=by have:=tY.2 h0;omega
 have e1:∀lr,rN lr [.string ⟨#[]⟩] 0 [] []=some (.ref 0 0 0 0 0,[.row 0 (([]:List (List UInt8)).map aS) 1 true]):=fun lr=>oC (H:=[]) (lr:=lr) (z:=[.string ⟨#[]⟩]) rfl
 have hTn:=UF n
 have hdl:=Yz h0
 simp only[tG,qT,dF,hl,e1,VX,Nat.reduceEqDiff,Nat.reduceAdd]
 refine aY (fun(t:Nat×List (List UInt8)) ρ H=>H=[.row t.2.length (t.2.map aS) 1 true]∧t.1≤n∧t.2.length+(aC 1000000000 t.1).length=(aC 1000000000 n).length∧decDigits n=oV t.1++t.2.reverse.flatten∧ρ 0=bD t.1∧ρ 3 = .ref 0 t.2.length 0 t.2.length t.2.length) (fun t=>t.1) (n,[]) ⟨rfl,Nat.le_refl _,by simp,by simp[oV,h0],rfl,rfl⟩ ?_
 rintro⟨q,ps⟩ ρ H ⟨rfl,hq,hlen,TR,g0,g3⟩
 simp only at hq hlen TR g0 g3
 by_cases Kc:q=0
 ·subst Kc
  have hz:¬(0:Int)<((aC 4294967296 0).length:Int):=by rw[tY];omega
  rw[oV,if_pos rfl,List.nil_append] at TR
  have hr:aQ [.row ps.length (ps.map aS) 1 true] 0 ps.length=some (ps.map aS,1,true):=bT
  simp only[kU,g0,g3,dF,hz,VX,Nat.reduceEqDiff,Nat.reduceAdd]
  refine nN rfl ((SY hr rfl (Nat.le_refl _) (by omega)).mono ?_)
  rintro r H' ⟨rfl,rfl⟩
  have Fa:([.row ps.length (ps.map aS) 1 true]:aA).set 0 (.row ps.length (ps.reverse.map aS) 1 true)=[.row ps.length (ps.reverse.map aS) 1 true]:=rfl
  have YE:aQ [.row ps.length (ps.reverse.map aS) 1 true] 0 ps.length=some (ps.reverse.map aS,1,true):=bT
  have hfl:ps.reverse.flatten.length≤140737488355328:=by rw[←TR];omega
  have cj:=(acD ps.reverse (by rw[List.length_reverse];omega) hfl).flat (H:=[.row ps.length (ps.reverse.map aS) 1 true]) (args:=[.ref 0 ps.length 0 ps.length ps.length,aS []]) rfl (by simp only[aJ,jA (f:=aS) Yl (fun _=>rfl),Bool.and_true];rfl) (Yq (DB YE (by simp) (Nat.le_refl _) (dQ fun _=>rfl)) (aG rfl)) rfl
  simp only[Fa,g3,cj,VX,Nat.reduceEqDiff,Nat.reduceAdd]
  rw[←TR]
  exact aG rfl
 ·have hz:(0:Int)<((aC 4294967296 q).length:Int):=tY.2 Kc
  have hql:=dG (b:=4294967296) (by decide) hq
  have c1:TC 183 [bD q,.sc (.int .u32 1000000000)] (.eQ [bD (q / 1000000000),uV (q % 1000000000)]):=tL q 1000000000 (by decide) (by decide) (by omega)
  have hm:=Nat.mod_lt q (show 0<1000000000 by decide)
  have c2:=acX (q % 1000000000) (by omega)
  have wm:IntKind.u64.wrap ((q % 1000000000:Nat):Int)=((q % 1000000000:Nat):Int):=eH _ (by omega)
  have hdq:=iD (b:=1000000000) (by decide) Kc
  have auG:(aC 1000000000 q).length=(aC 1000000000 (q / 1000000000)).length+1:=by rw[hdq];rfl
  have TS:=Ai (q % 1000000000) 8 hm
  have hqq:=Nat.mod_add_div q 1000000000
  have e2:∀x:List UInt8,rN false [.string ⟨#[]⟩] 1 [(0,aS x)] [.row ps.length (ps.map aS) 1 true]=some (.tree [aS x] (.cl 1),[.row ps.length (ps.map aS) 1 true]):=fun x=>sK (z:=[.string ⟨#[]⟩]) rfl rfl rfl
  have e3:∀x:List UInt8,eX 1 (.tree [aS x] (.cl 1)) [.row ps.length (ps.map aS) 1 true]=some [aS x]:=fun x=>pJ rfl rfl
  have e4:∀x:List UInt8,gH 0 1 16 (.ref 0 ps.length 0 ps.length ps.length) [aS x] [.row ps.length (ps.map aS) 1 true]=some (.ref 0 (ps.length+1) 0 (ps.length+1) (ps.length+1),[.row (ps.length+1) ((ps++[x]).map aS) 1 true]):=fun x=>by
   rw[pK (f:=aS) (x:=x) bT rfl (Nat.le_refl _) (by decide) (by decide) (by omega)]
   rfl
  have hle:q / 1000000000<q:=Nat.div_lt_self (by omega) (by decide)
  by_cases hqz:q / 1000000000=0
  ·have PQ:¬(0:Int)<((aC 4294967296 (q / 1000000000)).length:Int):=by rw[tY];omega
   simp only[kU,g0,g3,dF,hz,c1,c2,wm,PQ,e2,e3,e4,VX,Nat.reduceEqDiff,Nat.reduceAdd]
   refine⟨(q / 1000000000,ps++[decDigits (q % 1000000000)]),hle,by simp,by simp only;omega,by simp only[List.length_append,List.length_singleton];omega,?_,rfl,by simp⟩
   rw[TR,oV,if_neg Kc,oV,if_pos hqz,List.reverse_append,List.nil_append,List.reverse_singleton,List.singleton_append,List.flatten_cons,show q % 1000000000=q by omega]
  ·have PQ:(0:Int)<((aC 4294967296 (q / 1000000000)).length:Int):=tY.2 hqz
   have ws:IntKind.i64.wrap ((9:Int)-((decDigits (q % 1000000000)).length:Int))=((9-(decDigits (q % 1000000000)).length:Nat):Int):=wrapN _ (by omega) (by omega)
   have c3:=XL [48] (9-(decDigits (q % 1000000000)).length) (by simp;omega) (by omega)
   have Vg:repeatL [48] (9-(decDigits (q % 1000000000)).length)++decDigits (q % 1000000000)=AT 9 (q % 1000000000):=by
    rw[acL 8 _ hm]
    congr 1
    have:=repeatL_replicate 48 1 (9-(decDigits (q % 1000000000)).length)
    rw[Nat.mul_one] at this
    exact this
   have c4:=sC (repeatL [48] (9-(decDigits (q % 1000000000)).length)) (decDigits (q % 1000000000)) (by rw[←List.length_append,Vg,YC];decide)
   rw[Vg] at c4
   simp only[kU,g0,g3,dF,hz,c1,c2,wm,PQ,bC,ws,c3,c4,e2,e3,e4,VX,Nat.reduceEqDiff,Nat.reduceAdd]
   refine⟨(q / 1000000000,ps++[AT 9 (q % 1000000000)]),hle,by simp,by simp only;omega,by simp only[List.length_append,List.length_singleton];omega,?_,rfl,by simp⟩
   rw[TR,oV,if_neg Kc,oV,if_neg hqz,List.reverse_append,List.reverse_singleton,List.singleton_append,List.flatten_cons,←List.append_assoc,←E2 (by omega) hm]
   congr 2
   omega
end Go.PM
namespace Go.PM
def bl (n:Nat):Nat:=(aC 2 n).length
theorem K2 (n:Nat):n<2^bl n:=fP (by decide) n
theorem CT {n k:Nat} (h:n<2^k):bl n≤k:=kH (by decide) h
theorem jI {m n:Nat} (h:m≤n):bl m≤bl n:=dG (by decide) h
theorem lQ (m n:Nat):bl (m*n)≤bl m+bl n:=by
 refine CT ?_
 rw[Nat.pow_add]
 exact Nat.mul_lt_mul'' (K2 m) (K2 n)
theorem Ez {n k:Nat} (h:bl n≤k):n<2^k:=Nat.lt_of_lt_of_le (K2 n) (Nat.pow_le_pow_right (by decide) h)
theorem P6 {m n k:Nat} (hm:bl m≤k) (hn:bl n≤k):bl (m+n)≤k+1:=by
 refine CT ?_
 have h1:=Ez hm
 have h2:=Ez hn
 rw[Nat.pow_succ]
 omega
theorem Rz:bl 0=0:=by simp[bl,bQ]
theorem HQ:bl 1=1:=by simp[bl,iD (b:=2) (by decide) (n:=1) (by decide),bQ]
theorem Xn {n:Nat} (h:n≠0):1≤bl n:=by
 have:=jI (m:=1) (n:=n) (by omega)
 rwa [HQ] at this
theorem Z2 (n:Nat):32*(aC 4294967296 n).length≤bl n+31:=by
 by_cases h:n=0
 ·subst h;rw[bQ];simp
 ·have h1:=HO (b:=4294967296) (by decide) h
  have h2:=K2 n
  have e:(4294967296:Nat)=2^32:=by decide
  rw[e] at h1 ⊢
  rw[←Nat.pow_mul] at h1
  have h3:2^(32*((aC (2^32) n).length-1))<2^bl n:=by omega
  have h4:=(Nat.pow_lt_pow_iff_right (by decide)).1 h3
  omega
theorem ZQ (n:Nat):29*(aC 1000000000 n).length≤bl n+28:=by
 by_cases h:n=0
 ·subst h;rw[bQ];simp
 ·have h1:=HO (b:=1000000000) (by decide) h
  have h2:=K2 n
  have h5:(2^29)^((aC 1000000000 n).length-1)≤1000000000^((aC 1000000000 n).length-1):=Nat.pow_le_pow_left (by decide) _
  rw[←Nat.pow_mul] at h5
  have h3:2^(29*((aC 1000000000 n).length-1))<2^bl n:=by omega
  have h4:=(Nat.pow_lt_pow_iff_right (by decide)).1 h3
  omega
def cE (q:Rat):Nat:=max (bl q.num.natAbs) (bl q.den)
theorem rR {q:Rat}:bl q.num.natAbs≤cE q:=Nat.le_max_left _ _
theorem pI {q:Rat}:bl q.den≤cE q:=Nat.le_max_right _ _
theorem UH {q:Rat}:1≤cE q:=Nat.le_trans (Xn q.den_nz) pI
theorem Pb {q:Rat} {k:Nat} (h1:bl q.num.natAbs≤k) (h2:bl q.den≤k):cE q≤k:=Nat.max_le.2 ⟨h1,h2⟩
theorem DS {n:Int} {d k:Nat} (h1:bl n.natAbs≤k) (h2:bl d≤k) (hk:1≤k):cE (mkRat n d)≤k:=by
 refine Pb ?_ ?_
 ·rw[Rat.num_mkRat]
  split
  ·rw[Int.natAbs_zero,Rz];omega
  ·exact Nat.le_trans (jI (Int.natAbs_ediv_le_natAbs _ _)) h1
 ·rw[Rat.den_mkRat]
  split
  ·rw[HQ];exact hk
  ·exact Nat.le_trans (jI (Nat.div_le_self _ _)) h2
theorem KK (a b:Rat):cE (a+b)≤cE a+cE b+1:=by
 rw[Rat.add_def']
 have h1 := @rR a
 have h2 := @rR b
 have h3 := @pI a
 have h4 := @pI b
 have h5:=lQ a.num.natAbs b.den
 have h6:=lQ b.num.natAbs a.den
 have h7:=lQ a.den b.den
 refine DS ?_ (by omega) (by omega)
 have h8:(a.num*b.den+b.num*a.den).natAbs≤a.num.natAbs*b.den+b.num.natAbs*a.den:=by
  refine Nat.le_trans (Int.natAbs_add_le _ _) ?_
  rw[Int.natAbs_mul,Int.natAbs_mul,Int.natAbs_natCast,Int.natAbs_natCast]
  exact Nat.le_refl _
 exact Nat.le_trans (jI h8) (P6 (by omega) (by omega))
theorem Ck (a b:Rat):cE (a*b)≤cE a+cE b:=by
 rw[Rat.mul_def']
 have h1 := @rR a
 have h2 := @rR b
 have h3 := @pI a
 have h4 := @pI b
 have h5:=lQ a.num.natAbs b.num.natAbs
 have h7:=lQ a.den b.den
 have h8 := @UH a
 refine DS ?_ (by omega) (by omega)
 rw[Int.natAbs_mul]
 omega
theorem UG (n:Int):cE (n:Rat)≤max (bl n.natAbs) 1:=by
 refine Pb ?_ ?_
 ·rw[Rat.num_intCast];exact Nat.le_max_left _ _
 ·rw[Rat.den_intCast,HQ];exact Nat.le_max_right _ _
theorem IZ:cE 0=1:=by simp[cE,Rz,HQ]
theorem FH:cE 1=1:=by simp[cE,HQ]
theorem Cl (a:Rat):∀n:Nat,cE (a^n)≤n*cE a+1
 | 0=>by rw[Rat.pow_zero,FH];omega
 |
  n+1=>by
  rw[Rat.pow_succ]
  have h1:=Ck (a^n) a
  have h2:=Cl a n
  rw[Nat.add_mul]
  omega
def jB (neg:Bool) (t:Nat):Int:=if neg then -(t:Int) else t
theorem mG (neg:Bool) (t:Nat):(jB neg t).natAbs=t:=by cases neg<;>simp[jB]
theorem Ml {neg:Bool} {t:Nat}:jB neg t<0↔neg=true∧t≠0:=by cases neg<;>simp[jB]<;>omega
theorem vX (neg:Bool):jB neg 0=0:=by cases neg<;>rfl
theorem DU (z:Int):jB (decide (z<0)) z.natAbs=z:=by
 by_cases h:z<0<;>simp[jB,h]<;>omega
theorem YY {neg:Bool} {t g:Nat}:(jB neg t) / (g:Int)=jB neg (t / g)∨¬g ∣ t:=by
 by_cases h:g ∣ t
 ·left
  obtain⟨k,rfl⟩:=h
  by_cases hg:g=0
  ·subst hg;simp[vX]
  ·rw[Nat.mul_div_cancel_left _ (by omega)]
   cases neg
   ·simp only[jB]
    simp only[Bool.false_eq_true,if_false]
    rw[Int.natCast_mul,Int.mul_ediv_cancel_left _ (by omega)]
   ·simp only[jB,if_true]
    rw[Int.natCast_mul,←Int.mul_neg,Int.mul_ediv_cancel_left _ (by omega)]
 ·exact .inr h
theorem Dj {neg:Bool} {t b:Nat} (hb:b≠0):(mkRat (jB neg t) b).num=jB neg (t / Nat.gcd t b):=by
 rw[Rat.num_mkRat,if_neg hb,mG,Nat.gcd_comm]
 rcases YY (neg:=neg) (t:=t) (g:=Nat.gcd t b) with h | h
 ·exact h
 ·exact absurd (Nat.gcd_dvd_left _ _) h
theorem Mc {neg:Bool} {t b:Nat} (hb:b≠0):(mkRat (jB neg t) b).den=b / Nat.gcd t b:=by
 rw[Rat.den_mkRat,if_neg hb,mG,Nat.gcd_comm]
theorem HI (q:Rat):mkRat (jB (decide (q.num<0)) q.num.natAbs) q.den=q:=by rw[DU,Rat.mkRat_self]
end Go.PM
namespace Go.PM
theorem YQ (neg:Bool) (t d:Nat):jB neg (t*d)=jB neg t*(d:Int):=by cases neg<;>simp[jB,Int.neg_mul]
theorem B4 (q:Rat) {d:Nat} (hd:d≠0):mkRat (jB (decide (q.num<0)) (q.num.natAbs*d)) (q.den*d)=q:=by
 rw[YQ,Rat.mkRat_mul_right hd,HI]
theorem A9 (X Y:Int) {B:Nat} (hB:B≠0):mkRat X B+mkRat Y B=mkRat (X+Y) B:=by
 rw[Rat.mkRat_add_mkRat _ _ hB hB,←Int.add_mul,Rat.mkRat_mul_right hB]
theorem Mh (n:Bool) (x y:Nat):jB n x+jB n y=jB n (x+y):=by cases n<;>simp[jB]<;>omega
theorem Rb {m n:Bool} (h:m≠n) {x y:Nat} (hx:y≤x):jB m x+jB n y=jB m (x-y):=by
 cases m<;>cases n<;>simp_all [jB]<;>omega
theorem Rl {m n:Bool} (h:m≠n) {x y:Nat} (hx:x≤y):jB m x+jB n y=jB n (y-x):=by
 cases m<;>cases n<;>simp_all [jB]<;>omega
theorem Lz (n:Int) {d:Nat} (hd:d≠0):(mkRat n d).num.natAbs=n.natAbs / Nat.gcd n.natAbs d:=by
 have:=Dj (neg:=decide (n<0)) (t:=n.natAbs) (b:=d) hd
 rw[DU] at this
 rw[this,mG]
theorem HC (n:Int) {d:Nat} (hd:d≠0):(mkRat n d).den=d / Nat.gcd n.natAbs d:=by
 have:=Mc (neg:=decide (n<0)) (t:=n.natAbs) (b:=d) hd
 rwa [DU] at this
theorem acC (n:Int) {d:Nat} (hd:d≠0):(mkRat n d).num<0↔n<0:=by
 have:=Dj (neg:=decide (n<0)) (t:=n.natAbs) (b:=d) hd
 rw[DU] at this
 rw[this,Ml]
 have h:n<0→n.natAbs / Nat.gcd n.natAbs d≠0:=fun h=>by
  have:=Nat.div_pos (Nat.le_of_dvd (by omega) (Nat.gcd_dvd_left n.natAbs d)) (Nat.gcd_pos_of_pos_left d (show 0<n.natAbs by omega))
  omega
 constructor
 ·rintro⟨h1,_⟩;simpa using h1
 ·intro h1;exact⟨by simpa using h1,h h1⟩
theorem zW (t:Nat) {d:Nat} (hd:d≠0):(mkRat (jB false t) d).num.natAbs ∣ t∧(mkRat (jB false t) d).den ∣ d:=by
 rw[Lz _ hd,HC _ hd,mG]
 exact⟨Nat.div_dvd_of_dvd (Nat.gcd_dvd_left _ _),Nat.div_dvd_of_dvd (Nat.gcd_dvd_right _ _)⟩
theorem Uq (a b:Rat):(a*b).num.natAbs=(mkRat (jB false a.num.natAbs) b.den).num.natAbs*(mkRat (jB false b.num.natAbs) a.den).num.natAbs ∧
  (a*b).den=(mkRat (jB false a.num.natAbs) b.den).den*(mkRat (jB false b.num.natAbs) a.den).den:=by
 have ha:=a.den_nz
 have hb:=b.den_nz
 have DN:a.den*b.den≠0:=Nat.mul_ne_zero ha hb
 obtain⟨u1,u2⟩:=zW a.num.natAbs hb
 obtain⟨v1,v2⟩:=zW b.num.natAbs ha
 have e:(mkRat (jB false a.num.natAbs) b.den)*(mkRat (jB false b.num.natAbs) a.den)=mkRat (jB false a.num.natAbs*jB false b.num.natAbs) (b.den*a.den):=Rat.mkRat_mul_mkRat _ _ _ _
 have en:((mkRat (jB false a.num.natAbs) b.den)*(mkRat (jB false b.num.natAbs) a.den)).num.natAbs=(a*b).num.natAbs:=by
  rw[e,Rat.mul_def',Lz _ DN,Lz _ (Nat.mul_ne_zero hb ha),Int.natAbs_mul,Int.natAbs_mul,mG,mG,Nat.mul_comm b.den]
 have ed:((mkRat (jB false a.num.natAbs) b.den)*(mkRat (jB false b.num.natAbs) a.den)).den=(a*b).den:=by
  rw[e,Rat.mul_def',HC _ DN,HC _ (Nat.mul_ne_zero hb ha),Int.natAbs_mul,Int.natAbs_mul,mG,mG,Nat.mul_comm b.den]
 rw[←en,←ed]
 generalize hu:mkRat (jB false a.num.natAbs) b.den=u at *
 generalize hv:mkRat (jB false b.num.natAbs) a.den=v at *
 have c1:Nat.Coprime u.num.natAbs u.den:=u.reduced
 have c2:Nat.Coprime v.num.natAbs v.den:=v.reduced
 have c3:Nat.Coprime u.num.natAbs v.den:=Nat.Coprime.coprime_dvd_left u1 (Nat.Coprime.coprime_dvd_right v2 a.reduced)
 have c4:Nat.Coprime v.num.natAbs u.den:=Nat.Coprime.coprime_dvd_left v1 (Nat.Coprime.coprime_dvd_right u2 b.reduced)
 have c:Nat.gcd (u.num*v.num).natAbs (u.den*v.den)=1:=by
  rw[Int.natAbs_mul]
  exact Nat.Coprime.mul_left (Nat.Coprime.mul_right c1 c3) (Nat.Coprime.mul_right c4 c2)
 rw[Rat.mul_def',Lz _ (Nat.mul_ne_zero u.den_nz v.den_nz),HC _ (Nat.mul_ne_zero u.den_nz v.den_nz),c,Nat.div_one,Nat.div_one,Int.natAbs_mul]
 exact⟨rfl,rfl⟩
theorem OP {a b:Rat} (ha:a.num≠0) (hb:b.num≠0):(a*b).num<0↔(decide (a.num<0) != decide (b.num<0))=true:=by
 rw[Rat.mul_def',acC _ (Nat.mul_ne_zero a.den_nz b.den_nz)]
 rcases Int.lt_or_gt_of_ne ha with h1 | h1<;>rcases Int.lt_or_gt_of_ne hb with h2 | h2
 ·have:=Int.mul_pos_of_neg_of_neg h1 h2
  rw[decide_eq_true h1,decide_eq_true h2]
  simp;omega
 ·have:=Int.mul_neg_of_neg_of_pos h1 h2
  rw[decide_eq_true h1,decide_eq_false (show ¬b.num<0 by omega)]
  simp[this]
 ·have:=Int.mul_neg_of_pos_of_neg h1 h2
  rw[decide_eq_false (show ¬a.num<0 by omega),decide_eq_true h2]
  simp[this]
 ·have:=Int.mul_pos h1 h2
  rw[decide_eq_false (show ¬a.num<0 by omega),decide_eq_false (show ¬b.num<0 by omega)]
  simp;omega
def jJ (q:Rat):Int:=if q.num=0 then 0 else if q.num<0 then -1 else 1
def JP (a b:Rat):Int:=if jJ a=jJ b then (if a.num<0 then -dY (a.num.natAbs*b.den) (b.num.natAbs*a.den) else dY (a.num.natAbs*b.den) (b.num.natAbs*a.den)) else jJ a-jJ b
theorem tO {m n:Nat}:dY m n<0↔m<n:=by
 unfold dY
 split
 ·omega
 ·split<;>omega
theorem YK {m n:Nat}:0<dY m n↔n<m:=by
 unfold dY
 split
 ·omega
 ·split<;>omega
theorem uA {m n:Nat}:dY m n=0↔m=n:=by
 unfold dY
 split
 ·omega
 ·split<;>omega
theorem nG {q:Rat} (h:q.num<0):jJ q = -1:=by unfold jJ;rw[if_neg (by omega),if_pos h]
theorem jH {q:Rat} (h:q.num=0):jJ q=0:=by unfold jJ;rw[if_pos h]
theorem nQ {q:Rat} (h:0<q.num):jJ q=1:=by unfold jJ;rw[if_neg (by omega),if_neg (by omega)]
theorem SC {a b:Rat}:JP a b<0↔a<b:=by
 rw[Rat.lt_iff]
 have hA:(0:Int)<a.den:=by have:=a.den_nz;omega
 have hB:(0:Int)<b.den:=by have:=b.den_nz;omega
 have eA:((a.num.natAbs*b.den:Nat):Int)=(a.num.natAbs:Int)*b.den:=by simp
 have eB:((b.num.natAbs*a.den:Nat):Int)=(b.num.natAbs:Int)*a.den:=by simp
 unfold JP
 rcases Int.lt_trichotomy a.num 0 with h1 | h1 | h1<;>rcases Int.lt_trichotomy b.num 0 with h2 | h2 | h2
 ·rw[nG h1,nG h2,if_pos rfl,if_pos h1]
  have f1:(a.num.natAbs:Int) = -a.num:=by omega
  have f2:(b.num.natAbs:Int) = -b.num:=by omega
  rw[f1,Int.neg_mul] at eA
  rw[f2,Int.neg_mul] at eB
  have := @YK (a.num.natAbs*b.den) (b.num.natAbs*a.den)
  omega
 ·rw[nG h1,jH h2,if_neg (by decide),h2,Int.zero_mul]
  have:=Int.mul_neg_of_neg_of_pos h1 hB
  omega
 ·rw[nG h1,nQ h2,if_neg (by decide)]
  have:=Int.mul_neg_of_neg_of_pos h1 hB
  have:=Int.mul_pos h2 hA
  omega
 ·rw[jH h1,nG h2,if_neg (by decide),h1,Int.zero_mul]
  have:=Int.mul_neg_of_neg_of_pos h2 hA
  omega
 ·rw[jH h1,jH h2,if_pos rfl,h1,h2];simp[dY]
 ·rw[jH h1,nQ h2,if_neg (by decide),h1,Int.zero_mul]
  have:=Int.mul_pos h2 hA
  omega
 ·rw[nQ h1,nG h2,if_neg (by decide)]
  have:=Int.mul_neg_of_neg_of_pos h2 hA
  have:=Int.mul_pos h1 hB
  omega
 ·rw[nQ h1,jH h2,if_neg (by decide),h2,Int.zero_mul]
  have:=Int.mul_pos h1 hB
  omega
 ·rw[nQ h1,nQ h2,if_pos rfl,if_neg (by omega)]
  have f1:(a.num.natAbs:Int)=a.num:=by omega
  have f2:(b.num.natAbs:Int)=b.num:=by omega
  rw[f1] at eA
  rw[f2] at eB
  have := @tO (a.num.natAbs*b.den) (b.num.natAbs*a.den)
  omega
theorem Wz (m n:Nat):dY n m = -dY m n:=by
 rcases Nat.lt_trichotomy m n with h | h | h
 ·rw[dY,dY,if_neg (by omega),if_neg (by omega),if_pos h];rfl
 ·subst h;rw[dY,if_neg (by omega),if_pos rfl];rfl
 ·rw[dY,dY,if_pos h,if_neg (by omega),if_neg (by omega)]
theorem PA (a b:Rat):JP b a = -JP a b:=by
 unfold JP
 by_cases h:jJ a=jJ b
 ·have h2:b.num<0↔a.num<0:=by
   rcases Int.lt_trichotomy a.num 0 with h1 | h1 | h1<;>rcases Int.lt_trichotomy b.num 0 with h2 | h2 | h2
   ·simp[h1,h2]
   ·rw[nG h1,jH h2] at h;omega
   ·rw[nG h1,nQ h2] at h;omega
   ·rw[jH h1,nG h2] at h;omega
   ·omega
   ·rw[jH h1,nQ h2] at h;omega
   ·rw[nQ h1,nG h2] at h;omega
   ·rw[nQ h1,jH h2] at h;omega
   ·omega
  rw[if_pos h,if_pos h.symm,Wz]
  by_cases h3:a.num<0
  ·rw[if_pos h3,if_pos (h2.2 h3)]
  ·rw[if_neg h3,if_neg (mt h2.1 h3)]
 ·rw[if_neg h,if_neg (fun h'=>h h'.symm)];omega
theorem ZB {a b:Rat}:0<JP a b↔b<a:=by
 rw[←SC,PA a b];omega
theorem Ko {a b:Rat}:JP a b=0↔a=b:=by
 constructor
 ·intro h
  refine Rat.le_antisymm ?_ ?_
  ·rw[←Rat.not_lt,←ZB];omega
  ·rw[←Rat.not_lt,←SC];omega
 ·rintro rfl
  have:=PA a a
  omega
theorem zY {q:Rat}:jJ q=0↔q=0:=by
 rw[←Rat.num_eq_zero]
 rcases Int.lt_trichotomy q.num 0 with h | h | h
 ·rw[nG h];omega
 ·rw[jH h];omega
 ·rw[nQ h];omega
end Go.PM
namespace Go.PM
open Go.Lib
def bX (q:Rat):VV := .agg [VB (decide (q.num<0)),bD q.num.natAbs,bD q.den]
theorem fN (q:Rat):aR (bX q)=true:=by simp[bX,aR,aJ,bH,lS]
theorem sI (q:Rat):gO (bX q)=true:=by simp[bX,gO,pM,oB,lS]
theorem DR {q:Rat} {neg:Bool} {t b:Nat} (h0:q.num<0↔neg=true) (h1:q.num.natAbs=t) (h2:q.den=b):bX q = .agg [VB neg,bD t,bD b]:=by
 subst h1 h2
 unfold bX
 congr 4
 cases neg<;>simp_all
theorem Y1 {neg:Bool} {t b:Nat} (hb:b≠0) (ht:t≠0):bX (mkRat (jB neg t) b) = .agg [VB neg,bD (t / Nat.gcd t b),bD (b / Nat.gcd t b)]:=by
 refine DR ?_ ?_ (Mc hb)
 ·rw[Dj hb,Ml]
  have h1:t / Nat.gcd t b≠0:=by
   have:=Nat.div_pos (Nat.le_of_dvd (by omega) (Nat.gcd_dvd_left t b)) (Nat.gcd_pos_of_pos_left b (by omega))
   omega
  simp[h1]
 ·rw[Dj hb,mG]
theorem Tj:bX 0 = .agg [VB false,.tree [] .op,bD 1]:=by
 rw[DR (q:=0) (neg:=false) (t:=0) (b:=1) (by simp) rfl rfl,Ca]
theorem aO (n:Nat):cH (bD n)=true:=rfl
theorem aN (n:Nat):isAny (bD n)=false:=rfl
theorem aI (n:Nat):aB (bD n)=[bD n]:=rfl
theorem bR (q:Rat):isAny (bX q)=false:=rfl
theorem aF (q:Rat):aB (bX q)=[VB (decide (q.num<0)),bD q.num.natAbs,bD q.den]:=rfl
theorem cY (q:Rat):dW true 3 (bX q) 0=some (bX q):=rfl
theorem kQ (q:Rat):dW false 1 (bX q) 0=some (VB (decide (q.num<0))):=rfl
theorem lB (q:Rat):dW false 1 (bX q) 1=some (bD q.num.natAbs):=rfl
theorem oN (q:Rat):dW false 1 (bX q) 2=some (bD q.den):=rfl
theorem oK {d:Nat} {H:aA} {u u' v v' w w':VV} (h1:fz (d+1) H u=some u') (h2:fz (d+1) H v=some v') (h3:fz (d+1) H w=some w'):fz (d+2) H (.agg [u,v,w])=some (.agg [u',v',w']):=by
 have e:fz (d+2) H (.agg [u,v,w])=if aR (.agg [u,v,w])=true then some (.agg [u,v,w]) else ([u,v,w].mapM (fz (d+1) H)).map .agg:=rfl
 rw[e]
 by_cases hp:aR (.agg [u,v,w])=true
 ·rw[if_pos hp]
  simp only[aR,aJ,Bool.and_eq_true,and_true] at hp
  rw[aH hp.1] at h1
  rw[aH hp.2.1] at h2
  rw[aH hp.2.2] at h3
  cases h1
  cases h2
  cases h3
  rfl
 ·rw[if_neg hp,List.mapM_cons,h1,List.mapM_cons,h2,List.mapM_cons,h3]
  rfl
theorem Xa {d:Nat} {H:aA} {v:Value} (h:lS v=true):fz (d+1) H (.sc v)=some (.sc v):=aH h
theorem BC {H:aA} {neg:Bool} {t b:Nat}:fz depth H (.agg [VB neg,bD t,bD b])=some (.agg [VB neg,bD t,bD b]):=aG (by simp[aR,aJ,bH,lS])
theorem sE {H:aA} (q:Rat):fz depth H (bX q)=some (bX q):=aG (fN q)
theorem aeX {n:Nat} (h:bl n≤2199023255552):(aC 4294967296 n).length≤68719476736:=by
 have:=Z2 n
 omega
theorem eG {n:Nat} (h:bl n≤4398046511104):(aC 4294967296 n).length≤17592186044416:=by
 have:=Z2 n
 omega
theorem oE (neg:Bool) (t b:Nat) (hb:b≠0) (ht:bl t≤4398046511104) (sW:bl b≤4398046511104):TC 100 [VB neg,bD t,bD b] (bX (mkRat (jB neg t) b)):=by
 refine TC.walk ⟨true,false⟩ JJ rfl (Nat.le_of_ble_eq_true rfl) (by simp[aJ,bH,aR,lS]) (sI _) ?_
 by_cases h0:t=0
 ·subst h0
  have hl:(((aC 4294967296 0).length:Nat):Int)=0:=by rw[bQ];rfl
  have c1:TC 101 [.sc (.int .u64 1)] (bD 1):=kT 1 (by decide)
  rw[vX,Rat.zero_mkRat,Tj,←Ca]
  simp only[sT,oF,dF,hl,c1,aO,aN,aI,iA,Nat.reduceLeDiff,Nat.reduceLT,Nat.reduceSub,VX,Nat.reduceEqDiff,Nat.reduceAdd]
  exact oK (Xa rfl) tR (aH (bH _))
 ·have hl:¬(((aC 4294967296 t).length:Nat):Int)=0:=by have:=tY.2 h0;omega
  have c1:=BA t b (eG ht) (eG sW)
  have hg0:Nat.gcd t b≠0:=Nat.gcd_ne_zero_right hb
  have X1:bl (Nat.gcd t b)≤4398046511104:=Nat.le_trans (jI (Nat.gcd_le_right t (by omega))) sW
  have c2:=vL t _ hg0 (eG ht) (eG X1)
  have c3:=vL b _ hg0 (eG sW) (eG X1)
  rw[Y1 hb h0]
  by_cases h1:((aC 4294967296 (Nat.gcd t b)).length:Int)=1
  ·obtain⟨d,hd⟩:∃d,aC 4294967296 (Nat.gcd t b)=[d]:=List.length_eq_one_iff.1 (by omega)
   obtain⟨Z0,_,_⟩:=On hd
   have e1:bE 1 (bD (Nat.gcd t b)) (.sc (.int .i64 0)) [.row 0 [.agg [VB false,.tree [] .nil,.tree [] .nil]] 3 true]=some (.cO (uV d) 0):=aM (f:=uV) (xs:=aC 4294967296 (Nat.gcd t b)) (i:=0) (k := .i64) (by rw[hd];rfl) rfl
   by_cases h2:(d:Int)=1
   ·have ZH:Nat.gcd t b=1:=by omega
    simp only[sT,oF,dF,hl,c1,h1,h2,e1,aO,aN,aI,iA,Nat.reduceLeDiff,Nat.reduceLT,Nat.reduceSub,VX,Nat.reduceEqDiff,Nat.reduceAdd]
    rw[ZH,Nat.div_one,Nat.div_one]
    exact BC
   ·simp only[sT,oF,dF,hl,c1,c2,c3,h1,h2,e1,aO,aN,aI,iA,Nat.reduceLeDiff,Nat.reduceLT,Nat.reduceSub,VX,Nat.reduceEqDiff,Nat.reduceAdd]
    exact BC
  ·simp only[sT,oF,dF,hl,c1,c2,c3,h1,aO,aN,aI,iA,Nat.reduceLeDiff,Nat.reduceLT,Nat.reduceSub,VX,Nat.reduceEqDiff,Nat.reduceAdd]
   exact BC
theorem UL {n:Int} (h0 : -9223372036854775808≤n) (h:n<0):IntKind.u64.wrap (0-IntKind.u64.wrap n)=(n.natAbs:Int):=by
 rw[wrap_u64,wrap_u64]
 omega
theorem E0 (n:Int) (h0 : -9223372036854775808≤n) (h1:n≤9223372036854775807):TC 107 [VI n] (VK .u64 (n.natAbs:Int)):=by
 refine TC.walk ⟨true,false⟩ E7 rfl (Nat.le_of_ble_eq_true rfl) rfl rfl ?_
 by_cases h:n<0
 ·simp only[vU,rD,h,UL h0 h,VX,Nat.reduceEqDiff,Nat.reduceAdd]
  exact aG rfl
 ·have w:IntKind.u64.wrap n=(n.natAbs:Int):=by rw[wrap_u64];omega
  simp only[vU,rD,h,w,VX,Nat.reduceEqDiff,Nat.reduceAdd]
  exact aG rfl
theorem WB (n:Int):bX (n:Rat) = .agg [VB (decide (n<0)),bD n.natAbs,bD 1]:=DR (by simp) (by simp) (by simp)
theorem nE (n:Int) (h0 : -9223372036854775808≤n) (h1:n≤9223372036854775807):TC 97 [VI n] (bX (n:Rat)):=by
 refine TC.walk ⟨true,false⟩ M1 rfl (Nat.le_of_ble_eq_true rfl) rfl (sI _) ?_
 have c1:=E0 n h0 h1
 have c2:=kT n.natAbs (by omega)
 have c3:TC 101 [.sc (.int .u64 1)] (bD 1):=kT 1 (by decide)
 rw[WB]
 simp only[Il,Ed,c1,c2,c3,aO,aN,aI,iA,Nat.reduceLeDiff,Nat.reduceLT,Nat.reduceSub,VX,Nat.reduceEqDiff,Nat.reduceAdd]
 exact BC
theorem SJ {q:Rat}:(((aC 4294967296 q.num.natAbs).length:Nat):Int)=0↔q.num=0:=by
 have:=tY (n:=q.num.natAbs)
 omega
theorem hC (q:Rat):TC 104 [bX q] (VI (jJ q)):=by
 refine TC.walk ⟨true,false⟩ EB rfl (Nat.le_of_ble_eq_true rfl) (by simp[aJ,fN]) rfl ?_
 unfold jJ
 by_cases h0:q.num=0
 ·have hl:=SJ.2 h0
  rw[if_pos h0]
  simp only[oR,mA,dF,hl,aF,kQ,lB,aO,aN,aI,iA,Nat.reduceLeDiff,Nat.reduceLT,Nat.reduceSub,VX,Nat.reduceEqDiff,Nat.reduceAdd]
  exact aG rfl
 ·have hl:¬(((aC 4294967296 q.num.natAbs).length:Nat):Int)=0:=fun h=>h0 (SJ.1 h)
  rw[if_neg h0]
  by_cases h1:q.num<0
  ·simp only[oR,mA,dF,hl,h1,aF,kQ,lB,aO,aN,aI,iA,Nat.reduceLeDiff,Nat.reduceLT,Nat.reduceSub,VX,Nat.reduceEqDiff,Nat.reduceAdd]
   exact aG rfl
  ·simp only[oR,mA,dF,hl,h1,aF,kQ,lB,aO,aN,aI,iA,Nat.reduceLeDiff,Nat.reduceLT,Nat.reduceSub,VX,Nat.reduceEqDiff,Nat.reduceAdd]
   exact aG rfl
end Go.PM
namespace Go.PM
open Go.Lib
theorem rB (a b:Bool):MS false (.bool a) (.bool b)=some (.bool (a == b)):=by
 show some (Value.bool ((a == b) != false))=_
 rw[Bool.bne_false]
theorem wB (a b:Bool):MS true (.bool a) (.bool b)=some (.bool (a != b)):=by
 show some (Value.bool ((a == b) != true))=_
 cases a<;>cases b<;>rfl
theorem rC {q:Rat} {k:Nat} (h:cE q≤k):bl q.num.natAbs≤k:=Nat.le_trans rR h
theorem rE {q:Rat} {k:Nat} (h:cE q≤k):bl q.den≤k:=Nat.le_trans pI h
theorem Fw {X Y B:Nat} {a b:Rat} (hB:B≠0) (ha:mkRat (jB (decide (a.num<0)) X) B=a) (hb:mkRat (jB (decide (b.num<0)) Y) B=b) :
  ((decide (a.num<0))=(decide (b.num<0))→mkRat (jB (decide (a.num<0)) (X+Y)) B=a+b) ∧
  ((decide (a.num<0))≠(decide (b.num<0))→Y≤X→mkRat (jB (decide (a.num<0)) (X-Y)) B=a+b) ∧
  ((decide (a.num<0))≠(decide (b.num<0))→X≤Y→mkRat (jB (decide (b.num<0)) (Y-X)) B=a+b):=by
 refine⟨fun h => ?_,fun h hx => ?_,fun h hx => ?_⟩
 ·conv=>rhs;rw[←ha,←hb,A9 _ _ hB,←h,Mh]
 ·conv=>rhs;rw[←ha,←hb,A9 _ _ hB,Rb h hx]
 ·conv=>rhs;rw[←ha,←hb,A9 _ _ hB,Rl h hx]
theorem A1 (a b:Rat) (NM:cE a≤1099511627776) (JY:cE b≤1099511627776):TC 99 [bX a,bX b] (bX (a+b)):=by
 refine TC.walk ⟨true,false⟩ Gb rfl (Nat.le_of_ble_eq_true rfl) (by simp[aJ,fN]) (sI _) ?_
 have ca:=hC a
 have cb:=hC b
 by_cases Va:a.num=0
 ·have:a=0:=Rat.num_eq_zero.1 Va
  rw[jH Va] at ca
  rw[this,Rat.zero_add,←this]
  simp only[fC,dN,ca,cb,aF,cY,bR,aO,aN,aI,iA,Nat.reduceLeDiff,Nat.reduceLT,Nat.reduceSub,VX,Nat.reduceEqDiff,Nat.reduceAdd]
  exact sE _
 have Yd:¬jJ a=0:=fun h=>Va (Rat.num_eq_zero.2 (zY.1 h))
 by_cases UU:b.num=0
 ·have:b=0:=Rat.num_eq_zero.1 UU
  rw[jH UU] at cb
  rw[this,Rat.add_zero,←this]
  simp only[fC,dN,ca,cb,Yd,aF,cY,bR,aO,aN,aI,iA,Nat.reduceLeDiff,Nat.reduceLT,Nat.reduceSub,VX,Nat.reduceEqDiff,Nat.reduceAdd]
  exact sE _
 have UP:¬jJ b=0:=fun h=>UU (Rat.num_eq_zero.2 (zY.1 h))
 have la:=rC NM
 have lb:=rC JY
 have lda:=rE NM
 have ldb:=rE JY
 have fin:∀(X Y B:Nat),bl X≤2199023255552→bl Y≤2199023255552→bl B≤2199023255552→B≠0→mkRat (jB (decide (a.num<0)) X) B=a→mkRat (jB (decide (b.num<0)) Y) B=b →
   TC 174 [bD X,bD Y] (bD (X+Y))∧TC 170 [bD X,bD Y] (VI (dY X Y)) ∧
   (Y≤X→TC 181 [bD X,bD Y] (bD (X-Y)))∧(X≤Y→TC 181 [bD Y,bD X] (bD (Y-X))) ∧
   (∀neg,TC 100 [VB neg,bD (X+Y),bD B] (bX (mkRat (jB neg (X+Y)) B))) ∧
   (∀neg,TC 100 [VB neg,bD (X-Y),bD B] (bX (mkRat (jB neg (X-Y)) B))) ∧
   (∀neg,TC 100 [VB neg,bD (Y-X),bD B] (bX (mkRat (jB neg (Y-X)) B))):=by
  intro X Y B hX hY hB hB0 _ _
  refine⟨A2 X Y (eG (by omega)) (eG (by omega)),iP X Y (eG (by omega)) (eG (by omega)),fun h=>Bt X Y h (eG (by omega)),fun h=>Bt Y X h (eG (by omega)),fun neg=>oE neg _ _ hB0 ?_ (by omega),fun neg=>oE neg _ _ hB0 ?_ (by omega),fun neg=>oE neg _ _ hB0 ?_ (by omega)⟩
  ·exact Nat.le_trans (P6 hX hY) (by omega)
  ·exact Nat.le_trans (jI (Nat.sub_le _ _)) (by omega)
  ·exact Nat.le_trans (jI (Nat.sub_le _ _)) (by omega)
 by_cases hd:a.den=b.den
 ·have X5:=a.den_nz
  have cc:=iP a.den b.den (eG (by omega)) (eG (by omega))
  rw[show dY a.den b.den=0 from uA.2 hd] at cc
  have eb:mkRat (jB (decide (b.num<0)) b.num.natAbs) a.den=b:=by rw[hd,HI]
  obtain⟨f1,f2,f3,f4,f5,f6,f7⟩:=fin a.num.natAbs b.num.natAbs a.den (by omega) (by omega) (by omega) X5 (HI a) eb
  obtain⟨p1,p2,p3⟩:=Fw X5 (HI a) eb
  by_cases hn:decide (a.num<0)=decide (b.num<0)
  ·have PT:(decide (a.num<0) == decide (b.num<0))=true:=by simpa using hn
   rw[←p1 hn]
   simp only[fC,dN,ca,cb,Yd,UP,cc,f1,f5,rB,wB,PT,aF,cY,kQ,lB,oN,bR,aO,aN,aI,iA,Nat.reduceLeDiff,Nat.reduceLT,Nat.reduceSub,VX,Nat.reduceEqDiff,Nat.reduceAdd]
   exact sE _
  ·have PT:(decide (a.num<0) == decide (b.num<0))=false:=by simpa using hn
   by_cases hx:(0:Int)≤dY a.num.natAbs b.num.natAbs
   ·have hle:b.num.natAbs≤a.num.natAbs:=by have := @tO a.num.natAbs b.num.natAbs;omega
    have c3:=f3 hle
    rw[←p2 hn hle]
    simp only[fC,dN,ca,cb,Yd,UP,cc,f2,c3,f6,hx,rB,wB,PT,aF,cY,kQ,lB,oN,bR,aO,aN,aI,iA,Nat.reduceLeDiff,Nat.reduceLT,Nat.reduceSub,VX,Nat.reduceEqDiff,Nat.reduceAdd]
    exact sE _
   ·have hle:a.num.natAbs≤b.num.natAbs:=by have := @tO a.num.natAbs b.num.natAbs;omega
    have c3:=f4 hle
    rw[←p3 hn hle]
    simp only[fC,dN,ca,cb,Yd,UP,cc,f2,c3,f7,hx,rB,wB,PT,aF,cY,kQ,lB,oN,bR,aO,aN,aI,iA,Nat.reduceLeDiff,Nat.reduceLT,Nat.reduceSub,VX,Nat.reduceEqDiff,Nat.reduceAdd]
    exact sE _
 ·have X5:=Nat.mul_ne_zero a.den_nz b.den_nz
  have cc:=iP a.den b.den (eG (by omega)) (eG (by omega))
  have M8:¬dY a.den b.den=0:=fun h=>hd (uA.1 h)
  have m1:=gM a.num.natAbs b.den (eG (by omega)) (eG (by omega))
  have m2:=gM b.num.natAbs a.den (eG (by omega)) (eG (by omega))
  have m3:=gM a.den b.den (eG (by omega)) (eG (by omega))
  have ea:mkRat (jB (decide (a.num<0)) (a.num.natAbs*b.den)) (a.den*b.den)=a:=B4 a b.den_nz
  have eb:mkRat (jB (decide (b.num<0)) (b.num.natAbs*a.den)) (a.den*b.den)=b:=by rw[Nat.mul_comm a.den];exact B4 b a.den_nz
  have k1:=lQ a.num.natAbs b.den
  have k2:=lQ b.num.natAbs a.den
  have k3:=lQ a.den b.den
  obtain⟨f1,f2,f3,f4,f5,f6,f7⟩:=fin _ _ _ (by omega) (by omega) (by omega) X5 ea eb
  obtain⟨p1,p2,p3⟩:=Fw X5 ea eb
  by_cases hn:decide (a.num<0)=decide (b.num<0)
  ·have PT:(decide (a.num<0) == decide (b.num<0))=true:=by simpa using hn
   rw[←p1 hn]
   simp only[fC,dN,ca,cb,Yd,UP,cc,M8,m1,m2,m3,f1,f5,rB,wB,PT,aF,cY,kQ,lB,oN,bR,aO,aN,aI,iA,Nat.reduceLeDiff,Nat.reduceLT,Nat.reduceSub,VX,Nat.reduceEqDiff,Nat.reduceAdd]
   exact sE _
  ·have PT:(decide (a.num<0) == decide (b.num<0))=false:=by simpa using hn
   by_cases hx:(0:Int)≤dY (a.num.natAbs*b.den) (b.num.natAbs*a.den)
   ·have hle:b.num.natAbs*a.den≤a.num.natAbs*b.den:=by have := @tO (a.num.natAbs*b.den) (b.num.natAbs*a.den);omega
    have c3:=f3 hle
    rw[←p2 hn hle]
    simp only[fC,dN,ca,cb,Yd,UP,cc,M8,m1,m2,m3,f2,c3,f6,hx,rB,wB,PT,aF,cY,kQ,lB,oN,bR,aO,aN,aI,iA,Nat.reduceLeDiff,Nat.reduceLT,Nat.reduceSub,VX,Nat.reduceEqDiff,Nat.reduceAdd]
    exact sE _
   ·have hle:a.num.natAbs*b.den≤b.num.natAbs*a.den:=by have := @tO (a.num.natAbs*b.den) (b.num.natAbs*a.den);omega
    have c3:=f4 hle
    rw[←p3 hn hle]
    simp only[fC,dN,ca,cb,Yd,UP,cc,M8,m1,m2,m3,f2,c3,f7,hx,rB,wB,PT,aF,cY,kQ,lB,oN,bR,aO,aN,aI,iA,Nat.reduceLeDiff,Nat.reduceLT,Nat.reduceSub,VX,Nat.reduceEqDiff,Nat.reduceAdd]
    exact sE _
theorem BY (a b:Rat) (NM:cE a≤1099511627776) (JY:cE b≤1099511627776):TC 96 [bX a,bX b] (bX (a*b)):=by
 refine TC.walk ⟨true,false⟩ Fu rfl (Nat.le_of_ble_eq_true rfl) (by simp[aJ,fN]) (sI _) ?_
 have ca:=hC a
 have cb:=hC b
 have c0:TC 97 [VI 0] (bX 0):=nE 0 (by decide) (by decide)
 by_cases Va:a.num=0
 ·have:a=0:=Rat.num_eq_zero.1 Va
  rw[jH Va] at ca
  rw[show a*b=0 by rw[this,Rat.zero_mul]]
  simp only[pX,nR,ca,cb,c0,aF,cY,bR,aO,aN,aI,iA,Nat.reduceLeDiff,Nat.reduceLT,Nat.reduceSub,VX,Nat.reduceEqDiff,Nat.reduceAdd]
  exact sE _
 have Yd:¬jJ a=0:=fun h=>Va (Rat.num_eq_zero.2 (zY.1 h))
 by_cases UU:b.num=0
 ·have:b=0:=Rat.num_eq_zero.1 UU
  rw[jH UU] at cb
  rw[show a*b=0 by rw[this,Rat.mul_zero]]
  simp only[pX,nR,ca,cb,Yd,c0,aF,cY,bR,aO,aN,aI,iA,Nat.reduceLeDiff,Nat.reduceLT,Nat.reduceSub,VX,Nat.reduceEqDiff,Nat.reduceAdd]
  exact sE _
 have UP:¬jJ b=0:=fun h=>UU (Rat.num_eq_zero.2 (zY.1 h))
 have la:=rC NM
 have lb:=rC JY
 have lda:=rE NM
 have ldb:=rE JY
 have l1:=oE false a.num.natAbs b.den b.den_nz (by omega) (by omega)
 have l2:=oE false b.num.natAbs a.den a.den_nz (by omega) (by omega)
 obtain⟨d1,d2⟩:=zW a.num.natAbs b.den_nz
 obtain⟨d3,d4⟩:=zW b.num.natAbs a.den_nz
 have b1:=jI (Nat.le_of_dvd (by omega) d1)
 have b2:=jI (Nat.le_of_dvd (Nat.pos_of_ne_zero b.den_nz) d2)
 have b3:=jI (Nat.le_of_dvd (by omega) d3)
 have b4:=jI (Nat.le_of_dvd (Nat.pos_of_ne_zero a.den_nz) d4)
 obtain⟨e1,e2⟩:=Uq a b
 have e3:=OP Va UU
 generalize mkRat (jB false a.num.natAbs) b.den=u at *
 generalize mkRat (jB false b.num.natAbs) a.den=v at *
 have m1:=gM u.num.natAbs v.num.natAbs (eG (by omega)) (eG (by omega))
 have m2:=gM u.den v.den (eG (by omega)) (eG (by omega))
 rw[DR e3 e1 e2]
 simp only[pX,nR,ca,cb,Yd,UP,l1,l2,m1,m2,rB,wB,aF,cY,kQ,lB,oN,bR,aO,aN,aI,iA,Nat.reduceLeDiff,Nat.reduceLT,Nat.reduceSub,VX,Nat.reduceEqDiff,Nat.reduceAdd]
 exact BC
theorem Gn (q:Rat) : -1≤jJ q∧jJ q≤1:=by
 rcases Int.lt_trichotomy q.num 0 with h | h | h
 ·rw[nG h];omega
 ·rw[jH h];omega
 ·rw[nQ h];omega
theorem Qm (m n:Nat) : -1≤dY m n∧dY m n≤1:=by
 rcases Nat.lt_trichotomy m n with h | h | h
 ·rw[dY,if_pos h];omega
 ·subst h;rw[dY,if_neg (by omega),if_pos rfl];omega
 ·rw[dY,if_neg (by omega),if_neg (by omega)];omega
theorem H0 (a b:Rat) (NM:cE a≤1099511627776) (JY:cE b≤1099511627776):TC 206 [bX a,bX b] (VI (JP a b)):=by
 refine TC.walk ⟨true,false⟩ Fs rfl (Nat.le_of_ble_eq_true rfl) (by simp[aJ,fN]) rfl ?_
 have ca:=hC a
 have cb:=hC b
 have la:=rC NM
 have lb:=rC JY
 have lda:=rE NM
 have ldb:=rE JY
 have k1:=lQ a.num.natAbs b.den
 have k2:=lQ b.num.natAbs a.den
 have m1:=gM a.num.natAbs b.den (eG (by omega)) (eG (by omega))
 have m2:=gM b.num.natAbs a.den (eG (by omega)) (eG (by omega))
 have c1:=iP (a.num.natAbs*b.den) (b.num.natAbs*a.den) (eG (by omega)) (eG (by omega))
 have ra:=Gn a
 have rb:=Gn b
 have rc:=Qm (a.num.natAbs*b.den) (b.num.natAbs*a.den)
 unfold JP
 by_cases hs:jJ a=jJ b
 ·rw[if_pos hs]
  have w:IntKind.i64.wrap (0-dY (a.num.natAbs*b.den) (b.num.natAbs*a.den)) = -dY (a.num.natAbs*b.den) (b.num.natAbs*a.den):=by rw[wrap64 (by omega) (by omega)];omega
  by_cases hn:a.num<0
  ·rw[if_pos hn]
   simp only[qU,nM,ca,cb,hs,m1,m2,c1,hn,w,aF,cY,kQ,lB,oN,bR,aO,aN,aI,iA,Nat.reduceLeDiff,Nat.reduceLT,Nat.reduceSub,VX,Nat.reduceEqDiff,Nat.reduceAdd]
   exact aG rfl
  ·rw[if_neg hn]
   simp only[qU,nM,ca,cb,hs,m1,m2,c1,hn,aF,cY,kQ,lB,oN,bR,aO,aN,aI,iA,Nat.reduceLeDiff,Nat.reduceLT,Nat.reduceSub,VX,Nat.reduceEqDiff,Nat.reduceAdd]
   exact aG rfl
 ·rw[if_neg hs]
  have w:IntKind.i64.wrap (jJ a-jJ b)=jJ a-jJ b:=wrap64 (by omega) (by omega)
  simp only[qU,nM,ca,cb,hs,w,aF,cY,kQ,lB,oN,bR,aO,aN,aI,iA,Nat.reduceLeDiff,Nat.reduceLT,Nat.reduceSub,VX,Nat.reduceEqDiff,Nat.reduceAdd]
  exact aG rfl
theorem FI (a:Rat) (NM:cE a≤1099511627776):TC 196 [bX a] (VB (decide (a=1))):=by
 refine TC.walk ⟨true,false⟩ DG rfl (Nat.le_of_ble_eq_true rfl) (by simp[aJ,fN]) rfl ?_
 have c1:=H0 a 1 NM (by rw[FH];decide)
 have c2:TC 97 [VI 1] (bX 1):=nE 1 (by decide) (by decide)
 by_cases h:JP a 1=0
 ·rw[decide_eq_true (Ko.1 h)]
  simp only[rK,oZ,c1,c2,h,aF,cY,bR,aO,aN,aI,iA,Nat.reduceLeDiff,Nat.reduceLT,Nat.reduceSub,VX,Nat.reduceEqDiff,Nat.reduceAdd]
  exact aG rfl
 ·rw[decide_eq_false (mt Ko.2 h)]
  simp only[rK,oZ,c1,c2,h,aF,cY,bR,aO,aN,aI,iA,Nat.reduceLeDiff,Nat.reduceLT,Nat.reduceSub,VX,Nat.reduceEqDiff,Nat.reduceAdd]
  exact aG rfl
end Go.PM
namespace Go.PM
open Go.Lib
theorem Y7 {m n:Nat} (h:decDigits m=decDigits n):m=n:=by
 have key:∀k m n:Nat,m<10^(k+1)→decDigits m=decDigits n→m=n:=by
  intro k
  induction k with
  |
   zero =>
   intro m n hm h
   rw[gR (by omega)] at h
   by_cases hn:n<10
   ·rw[gR hn] at h
    have h1:=List.singleton_inj.1 h
    unfold d10 at h1
    have:=congrArg UInt8.toNat h1
    simp at this
    omega
   ·rw[xK hn] at h
    have:=congrArg List.length h
    have h2:=List.length_pos_iff.2 (Mi (n / 10))
    simp only[List.length_append,List.length_cons,List.length_nil] at this
    omega
  |
   succ k ih =>
   intro m n hm h
   by_cases h1:m<10
   ·rw[gR h1] at h
    by_cases hn:n<10
    ·rw[gR hn] at h
     have h1:=List.singleton_inj.1 h
     unfold d10 at h1
     have:=congrArg UInt8.toNat h1
     simp at this
     omega
    ·rw[xK hn] at h
     have:=congrArg List.length h
     have h2:=List.length_pos_iff.2 (Mi (n / 10))
     simp only[List.length_append,List.length_cons,List.length_nil] at this
     omega
   ·rw[xK h1] at h
    by_cases hn:n<10
    ·rw[gR hn] at h
     have:=congrArg List.length h
     have h2:=List.length_pos_iff.2 (Mi (m / 10))
     simp only[List.length_append,List.length_cons,List.length_nil] at this
     omega
    ·rw[xK hn] at h
     obtain⟨h2,h3⟩:=List.append_inj' h rfl
     have h4:=ih (m / 10) (n / 10) (by rw[Nat.pow_succ] at hm;omega) h2
     have h5:=List.singleton_inj.1 h3
     unfold d10 at h5
     have:=congrArg UInt8.toNat h5
     simp at this
     omega
 exact key m m n (Nat.lt_trans (Nat.lt_pow_self (by decide)) (Nat.pow_lt_pow_right (by decide) (Nat.lt_succ_self m))) h
def Ju (q:Rat):List UInt8:=(if q.num<0 then [45] else [])++decDigits q.num.natAbs++(if q.den=1 then [] else 47::decDigits q.den)
def Bx (q:Rat):Bool:=decide ((decDigits q.num.natAbs).length≤200)&&decide ((decDigits q.den).length≤200)
theorem zE (n:Nat):(decDigits n).length≤bl n+1:=by
 by_cases h:n=0
 ·subst h;rw[gR (by decide)];simp
 ·have h1:=Xn h
  obtain⟨k,hk⟩:∃k,bl n=k+1:=⟨bl n-1,by omega⟩
  have h2:=K2 n
  rw[hk] at h2 ⊢
  have h3:2^(k+1)≤10^(k+1):=Nat.pow_le_pow_left (by decide) _
  have:=Ai n k (by omega)
  omega
end Go.PM
namespace Go.PM
open Go.Lib
theorem LD (a b:List UInt8):cX .neq (.string ⟨a.toArray⟩) (.string ⟨b.toArray⟩)=some (.bool (!decide (a=b))):=by
 have h:∀l:List UInt8,(ByteArray.toList ⟨l.toArray⟩)=l:=fun l=>by rw[ByteArray.toList_eq]
 show some (Value.bool (!(ByteArray.toList ⟨a.toArray⟩ == ByteArray.toList ⟨b.toArray⟩)))=_
 rw[h,h]
 congr 3
 cases h2:a == b
 ·rw[decide_eq_false (by simpa using h2)]
 ·rw[decide_eq_true (by simpa using h2)]
theorem Sc (a b:List UInt8):cX .eql (.string ⟨a.toArray⟩) (.string ⟨b.toArray⟩)=some (.bool (decide (a=b))):=by
 have h:∀l:List UInt8,(ByteArray.toList ⟨l.toArray⟩)=l:=fun l=>by rw[ByteArray.toList_eq]
 show some (Value.bool (ByteArray.toList ⟨a.toArray⟩ == ByteArray.toList ⟨b.toArray⟩))=_
 rw[h,h]
 congr 2
 cases h2:a == b
 ·rw[decide_eq_false (by simpa using h2)]
 ·rw[decide_eq_true (by simpa using h2)]
theorem Ij {n:Nat}:(decDigits n=[49])↔n=1:=by
 have e:decDigits 1=[49]:=by rw[gR (by decide)];rfl
 rw[←e]
 exact⟨Y7,fun h=>by rw[h]⟩
theorem Hx (q:Rat) (hk:cE q≤1099511627776):TC 172 [bX q] (.eQ [aS (Ju q),VB (Bx q)]):=by
 refine TC.walk ⟨true,false⟩ DQ rfl (Nat.le_of_ble_eq_true rfl) (by simp[aJ,fN]) rfl ?_
 have la:=rC hk
 have lb:=rE hk
 have t1:=AK q.num.natAbs (aeX (by omega))
 have t2:=AK q.den (aeX (by omega))
 have d1:=zE q.num.natAbs
 have d2:=zE q.den
 have a1:cX .add (.string ⟨#[45]⟩) (.string ⟨(decDigits q.num.natAbs).toArray⟩)=some (.string ⟨(45::decDigits q.num.natAbs).toArray⟩):=sC [45] _ (by simp only[List.length_cons,List.length_nil];omega)
 have a2:cX .add (.string ⟨#[47]⟩) (.string ⟨(decDigits q.den).toArray⟩)=some (.string ⟨(47::decDigits q.den).toArray⟩):=sC [47] (decDigits q.den) (by simp only[List.length_cons,List.length_nil];omega)
 have a3:=sC (45::decDigits q.num.natAbs) (47::decDigits q.den) (by simp only[List.length_cons];omega)
 have a4:=sC (decDigits q.num.natAbs) (47::decDigits q.den) (by simp only[List.length_cons];omega)
 have ne:cX .neq (.string ⟨(decDigits q.den).toArray⟩) (.string ⟨#[49]⟩)=_:=LD (decDigits q.den) [49]
 have hf:Bx q=(decide (((decDigits q.num.natAbs).length:Int)≤200)&&decide (((decDigits q.den).length:Int)≤200)):=by
  unfold Bx
  congr 1<;>exact decide_eq_decide.2 (by omega)
 rw[hf]
 have hs:Ju q=(if q.num<0 then (45::decDigits q.num.natAbs) else decDigits q.num.natAbs)++(if q.den=1 then [] else 47::decDigits q.den):=by
  unfold Ju
  by_cases hn:q.num<0
  ·rw[if_pos hn,if_pos hn];rfl
  ·rw[if_neg hn,if_neg hn];rfl
 rw[hs]
 by_cases hd:q.den=1
 ·rw[decide_eq_true (Ij.2 hd)] at ne
  rw[if_pos hd,List.append_nil]
  by_cases hn:q.num<0<;>by_cases hl:((decDigits q.num.natAbs).length:Int)≤200
  all_goals
   simp only[tC,pU,t1,t2,a1,a2,a3,a4,ne,hn,hl,bC,aF,cY,kQ,lB,oN,bR,aO,aN,aI,iA,Nat.reduceLeDiff,Nat.reduceLT,Nat.reduceSub,VX,Nat.reduceEqDiff,Nat.reduceAdd]
   exact aG rfl
 ·rw[decide_eq_false (mt Ij.1 hd)] at ne
  rw[if_neg hd]
  by_cases hn:q.num<0<;>by_cases hl:((decDigits q.num.natAbs).length:Int)≤200
  all_goals
   simp only[tC,pU,t1,t2,a1,a2,a3,a4,ne,hn,hl,bC,aF,cY,kQ,lB,oN,bR,aO,aN,aI,iA,Nat.reduceLeDiff,Nat.reduceLT,Nat.reduceSub,VX,Nat.reduceEqDiff,Nat.reduceAdd]
   exact aG rfl
def EK (q:Rat):VV:=if Bx q=true then .eQ [aS (Ju q),VB true] else .eQ [aS [],VB false]
theorem F7 (q:Rat):gO (EK q)=true:=by unfold EK;split<;>rfl
theorem Nk (q:Rat) (hk:cE q≤1099511627776):TC 90 [bX q] (EK q):=by
 refine TC.walk ⟨true,false⟩ N2 rfl (Nat.le_of_ble_eq_true rfl) (by simp[aJ,fN]) (F7 q) ?_
 have t1:=Hx q hk
 unfold EK
 by_cases h:Bx q=true
 ·rw[h] at t1
  rw[if_pos h]
  simp only[FL,BM,t1,aF,cY,bR,aO,aN,aI,iA,Nat.reduceLeDiff,Nat.reduceLT,Nat.reduceSub,VX,Nat.reduceEqDiff,Nat.reduceAdd]
  exact aG rfl
 ·have h':Bx q=false:=by simpa using h
  rw[h'] at t1
  rw[if_neg h]
  simp only[FL,BM,t1,aF,cY,bR,aO,aN,aI,iA,Nat.reduceLeDiff,Nat.reduceLT,Nat.reduceSub,VX,Nat.reduceEqDiff,Nat.reduceAdd]
  exact aG rfl
end Go.PM
namespace Go.PM
open Go.Lib
def gL (c:UInt8):Bool:=decide (48≤c.toNat)&&decide (c.toNat≤57)
def dv (c:UInt8):Nat:=c.toNat-48
def H7 (a:Nat) (l:List UInt8):Nat:=l.foldl (fun a c=>a*10+dv c) a
def bK (l:List UInt8):Nat:=H7 0 l
theorem Sg (l:List UInt8):∀a,H7 a l=a*10^l.length+bK l:=by
 induction l with
 | nil=>intro a;simp[H7,bK]
 |
  cons c l ih =>
  intro a
  have h1:H7 a (c::l)=H7 (a*10+dv c) l:=rfl
  have h2:bK (c::l)=H7 (0*10+dv c) l:=rfl
  rw[h1,h2,ih,ih (0*10+dv c),List.length_cons,Nat.pow_succ]
  grind
theorem JG (a b:List UInt8):bK (a++b)=bK a*10^b.length+bK b:=by
 have:bK (a++b)=H7 (bK a) b:=by unfold bK H7;rw[List.foldl_append]
 rw[this,Sg]
theorem Jx:bK []=0:=rfl
theorem TF (a:List UInt8) (c:UInt8):bK (a++[c])=bK a*10+dv c:=by
 rw[JG]
 simp[bK,H7]
theorem ZJ {c:UInt8} (h:gL c=true):dv c<10:=by
 simp only[gL,Bool.and_eq_true,decide_eq_true_eq] at h
 unfold dv
 omega
theorem Ea:∀ {l:List UInt8},l.all gL=true→bK l<10^l.length:=by
 intro l
 induction l with
 | nil=>intro _;decide
 |
  cons c l ih =>
  intro h
  rw[List.all_cons,Bool.and_eq_true] at h
  have h1:=ZJ h.1
  have h2:=ih h.2
  have h3:bK (c::l)=H7 (0*10+dv c) l:=rfl
  rw[h3,Sg,List.length_cons,Nat.pow_succ]
  have h4:(0*10+dv c)*10^l.length≤9*10^l.length:=Nat.mul_le_mul_right _ (by omega)
  omega
theorem aaU {M:Nat} (hM:1000000000000000000≤M):∀(l:List UInt8) (k acc:Nat),l.all gL=true→acc<10^k→k+l.length≤18→parseUintM M acc l = .ok (H7 acc l):=by
 intro l
 induction l with
 | nil=>intro k acc _ _ _;rfl
 |
  cons c l ih =>
  intro k acc h hk hl
  rw[List.all_cons,Bool.and_eq_true] at h
  have h1:=ZJ h.1
  have h0:=h.1
  simp only[gL,Bool.and_eq_true,decide_eq_true_eq] at h0
  rw[List.length_cons] at hl
  have h18:acc<10^17:=Nat.lt_of_lt_of_le hk (Nat.pow_le_pow_right (by decide) (by omega))
  have e17:(10:Nat)^17=100000000000000000:=by decide
  rw[e17] at h18
  have hd:c.toNat-48=dv c:=rfl
  rw[parseUintM,if_pos h0,if_neg (by omega),hd,if_neg (by omega),ih (k+1) _ h.2 (by rw[Nat.pow_succ];omega) (by omega)]
  rfl
theorem aaQ {l:List UInt8} (h:l.all gL=true) (h0:l≠[]) (hl:l.length≤18):parseUintB 64 l = .ok (bK l):=by
 unfold parseUintB
 rw[if_neg h0]
 exact aaU (by decide) l 0 0 h (by decide) (by omega)
def gD (l:List UInt8):Bool:=l.all gL&&decide (1≤l.length)&&decide (l.length≤200)&&(decide (l.length=1) || !decide (l.getD 0 0=48))
theorem iM {l:List UInt8}:gD l=true↔l.all gL=true∧1≤l.length∧l.length≤200∧(l.length=1∨l.getD 0 0≠48):=by
 unfold gD
 simp only[Bool.and_eq_true,Bool.or_eq_true,Bool.not_eq_true',decide_eq_true_eq,decide_eq_false_iff_not,ne_eq,and_assoc]
theorem vB {l:List UInt8} (h:gD l=true):bl (bK l)≤665:=by
 obtain⟨h1,h2,h3,_⟩:=iM.1 h
 refine CT (Nat.lt_of_lt_of_le (Ea h1) ?_)
 exact Nat.le_trans (Nat.pow_le_pow_right (by decide) h3) (by decide +kernel)
def kE (c:UInt8):List UInt8→List UInt8×Option (List UInt8)
 | []=>([],none)
 | x::r=>if x=c then ([],some r) else (x::(kE c r).1,(kE c r).2)
theorem xZ {c:UInt8}:∀ {l:List UInt8},(kE c l).2=none→indexByte l c = -1∧(kE c l).1=l∧c∉l:=by
 intro l
 induction l with
 | nil=>intro _;exact⟨rfl,rfl,by simp⟩
 |
  cons x l ih =>
  intro h
  unfold kE at h ⊢
  by_cases hx:x=c
  ·rw[if_pos hx] at h
   cases h
  ·rw[if_neg hx] at h ⊢
   obtain⟨h1,h2,h3⟩:=ih h
   refine⟨?_,by rw[h2],?_⟩
   ·rw[indexByte,if_neg (by simpa using hx),h1]
    rfl
   ·rw[List.mem_cons,not_or]
    exact⟨fun h=>hx h.symm,h3⟩
theorem E3 {c:UInt8}:∀ {l r:List UInt8},(kE c l).2=some r→indexByte l c=((kE c l).1.length:Int)∧l=(kE c l).1++c::r∧c∉(kE c l).1:=by
 intro l
 induction l with
 | nil=>intro r h;cases h
 |
  cons x l ih =>
  intro r h
  unfold kE at h ⊢
  by_cases hx:x=c
  ·rw[if_pos hx] at h ⊢
   cases h
   subst hx
   refine⟨?_,rfl,by simp⟩
   rw[indexByte,if_pos (by simp)]
   rfl
  ·rw[if_neg hx] at h ⊢
   obtain⟨h1,h2,h3⟩:=ih h
   refine⟨?_,?_,?_⟩
   ·rw[indexByte,if_neg (by simpa using hx),h1,if_neg]
    ·simp
    ·simp
   ·conv=>lhs;rw[h2]
    rfl
   ·rw[List.mem_cons,not_or]
    exact⟨fun h=>hx h.symm,h3⟩
def mM (neg:Bool) (d:List UInt8) (s:Option (List UInt8)):Option Rat :=
 if gD d=false∨(neg=true∧bK d=0) then none else
 match s with
 | none=>some (mkRat (jB neg (bK d)) 1)
 | some t=>if gD t=true∧1<bK t∧Nat.gcd (bK d) (bK t)=1 then some (mkRat (jB neg (bK d)) (bK t)) else none
def isNeg (l:List UInt8):Bool:=decide (1≤l.length)&&decide (l.getD 0 0=45)
def uZ (l:List UInt8):Option Rat:=mM (isNeg l) ((kE 47 (if isNeg l then l.drop 1 else l)).1) ((kE 47 (if isNeg l then l.drop 1 else l)).2)
theorem QF {neg:Bool} {d:List UInt8} {s:Option (List UInt8)} {q:Rat} (h:mM neg d s=some q):gD d=true∧¬(neg=true∧bK d=0)∧((s=none∧q=mkRat (jB neg (bK d)) 1)∨∃t,s=some t∧gD t=true∧1<bK t∧Nat.gcd (bK d) (bK t)=1∧q=mkRat (jB neg (bK d)) (bK t)):=by
 unfold mM at h
 split at h
 ·cases h
 ·rename_i hc
  rw[not_or] at hc
  refine⟨by simpa using hc.1,hc.2,?_⟩
  split at h
  ·exact .inl ⟨rfl,(Option.some.inj h).symm⟩
  ·rename_i t
   split at h
   ·rename_i ht
    exact .inr ⟨t,rfl,ht.1,ht.2.1,ht.2.2,(Option.some.inj h).symm⟩
   ·cases h
theorem PB {neg:Bool} {d:List UInt8} {s:Option (List UInt8)} {q:Rat} (h:mM neg d s=some q):cE q≤665:=by
 obtain⟨h1,_,h3⟩:=QF h
 have hb:=vB h1
 rcases h3 with⟨_,rfl⟩ | ⟨t,_,h4,h5,_,rfl⟩
 ·exact DS (by rw[mG];exact hb) (CT (by decide +kernel)) (by decide)
 ·exact DS (by rw[mG];exact hb) (vB h4) (by omega)
theorem Qi {l:List UInt8} {q:Rat} (h:uZ l=some q):cE q≤665:=PB h
theorem Gk {neg:Bool} {t b:Nat} (hb:b≠0) (hg:Nat.gcd t b=1):(mkRat (jB neg t) b).num=jB neg t∧(mkRat (jB neg t) b).den=b:=by
 rw[Dj hb,Mc hb,hg,Nat.div_one,Nat.div_one]
 exact⟨rfl,rfl⟩
theorem Dn {c:UInt8} {l:List UInt8}:isNeg (c::l)=decide (c=45):=by simp[isNeg]
theorem XE {l:List UInt8} (h:l.all gL=true):(47:UInt8)∉l:=by
 intro hm
 have:=List.all_eq_true.1 h _ hm
 exact absurd this (by decide)
end Go.PM