/- Texts of a claim, in one: part 8. -/
import Derived.Lib.Bytealg
import Derived.Lib.ParseIntB
import Derived.Test.YtodamlihdkalfaaGreatDoorKQg
set_option linter.unusedSimpArgs false
set_option linter.unusedVariables false
namespace Go.PM
theorem I9 {a n:Nat} (hn:(aC 4294967296 a).length=n+1):∃d,(aC 4294967296 a)[n]? = some d∧d≠0∧d<4294967296:=by
 obtain⟨d,hd⟩:∃d,(aC 4294967296 a)[n]? = some d:=⟨_,List.getElem?_eq_getElem (by omega)⟩
 refine⟨d,hd,fun h0 => ?_,eE (by decide) a d (List.mem_of_getElem? hd)⟩
 have:=Kq (b:=4294967296) (by decide) a
 rw[List.getLast?_eq_getElem?,hn,Nat.add_sub_cancel,hd,h0] at this
 exact this rfl
theorem NC {a d:Nat} (h:aC 4294967296 a=[d]):a=d∧0<d∧d<4294967296:=by
 have h1:=bW (b:=4294967296) (by decide) a
 rw[h,val_one] at h1
 obtain⟨e,h2,h3,h4⟩:=I9 (a:=a) (n:=0) (by rw[h];rfl)
 rw[h] at h2
 cases h2
 exact⟨h1.symm,by omega,h4⟩
theorem uH (a b:Nat) (hb:b≠0) (ha:(aC 4294967296 a).length≤17592186044416) (sO:(aC 4294967296 b).length≤17592186044416):TC 173 [bC a,bC b] (.eK [bC (a / b),bC (a % b)]):=by
 refine TC.walk ⟨true,false⟩ Fq rfl (Nat.le_of_ble_eq_true rfl) (by simp[aK,bK]) (by simp[gH,pF,nX]) ?_
 have c1:=iP a b ha sO
 by_cases Dw:dX a b<0
 ·have aX:a<b:=by
   unfold dX at Dw
   split at Dw
   ·assumption
   ·split at Dw<;>omega
  simp only[qH,nJ,c1,Dw,VX,Nat.reduceEqDiff,Nat.reduceAdd]
  rw[Nat.div_eq_of_lt aX,Nat.mod_eq_of_lt aX]
  exact bH (d:=6) tG (aJ (bK a))
 have Cp:b≤a:=by
  unfold dX at Dw
  split at Dw
  ·omega
  ·omega
 have hbn:(aC 4294967296 b).length≠0:=fun h=>hb ((kE (b:=4294967296) (by decide)).1 (List.length_eq_zero_iff.1 h))
 by_cases h1:(((aC 4294967296 b).length:Nat):Int)=1
 ·obtain⟨d,hd⟩:∃d,aC 4294967296 b=[d]:=by
   match hx:aC 4294967296 b with
   | []=>rw[hx] at hbn;exact absurd rfl hbn
   | [d]=>exact⟨d,rfl⟩
   | _::_::_=>rw[hx] at h1;simp at h1;omega
  obtain⟨rfl,BG,hdW⟩:=NC hd
  have c2:=sY a b BG hdW ha
  have e0:pE (bC b) []=some (VI 1):=by rw[bC,yJ,dZ,hd];rfl
  have e1:bE 1 (bC b) (VI 0) []=some (.cO (uV b) 0):=by
   rw[bC,hd]
   exact aP (f:=uV) (t := .op) (H:=[]) (size:=1) (k := .i64) (xs:=[b]) (i:=0) rfl rfl
  have e2:=sL (H:=[]) (z:=[.int .u32 0]) (v:=uV (a % b)) rfl rfl rfl
  have e3:=VC (size:=1) (v:=Value.int .u32 ((b:Nat):Int))
  simp only[qH,nJ,c1,Dw,e0,e1,c2,e2,VX,Nat.reduceEqDiff,Nat.reduceAdd]
  refine I1 (ds:=[a % b]) (t := .cl 1) (fun d hd => ?_) (by show 1≤70368744177664;decide) (val_one _) fun t' ht => ?_
  ·rw[List.mem_singleton] at hd
   subst hd
   exact Nat.lt_of_lt_of_le (Nat.mod_lt _ BG) (Nat.le_of_lt hdW)
  ·simp only[VX,Nat.reduceEqDiff,Nat.reduceAdd]
   exact bH (d:=6) (aJ (bK _)) (Xi (d:=5) ht)
 obtain⟨n,hn⟩:∃n,(aC 4294967296 b).length=n+2:=⟨(aC 4294967296 b).length-2,by omega⟩
 obtain⟨t,ht,ht0,htW⟩:=I9 (a:=b) (n:=n+1) hn
 obtain⟨s,hs,cl,U7⟩:=Qd ht0 htW
 have hS:0<2^s:=Nat.pow_pos (by decide)
 have hSW:2^s*2^(32-s)=4294967296:=by rw[←Nat.pow_add,show s+(32-s)=32 by omega]
 have hla:=dD (b:=4294967296) (by decide) Cp
 have e0:pE (bC b) []=some (VI ((n+2:Nat):Int)):=by rw[bC,yJ,dZ,hn]
 have w0:IntKind.i64.wrap (((n+2:Nat):Int)-1)=((n+1:Nat):Int):=wrapN _ (by omega) (by omega)
 have Ue:¬(((n+2:Nat):Int)=1):=by omega
 have e1:bE 1 (bC b) (VI ((n+1:Nat):Int)) []=some (.cO (uV t) 0):=aP (f:=uV) (t := .op) (H:=[]) (size:=1) (k := .i64) ht rfl
 simp only[qH,nJ,c1,Dw,e0,Ue,w0,e1,cl,VX,Nat.reduceEqDiff,Nat.reduceAdd]
 have fa:[bC a,VI (s:Int)].mapM (fz depth ([]:aB))=some [bC a,VI (s:Int)]:=fz2 (aI (bK a)) (aI rfl)
 refine FC.call (vO a s hs ha) rfl fa ?_
 rintro r L ⟨FO,rfl,rfl,hAl,hAd,hAv,hAt⟩
 simp only[VX,Nat.reduceEqDiff,Nat.reduceAdd]
 have fb:∀H:aB,[bC b,VI (s:Int)].mapM (fz depth H)=some [bC b,VI (s:Int)]:=fun H=>fz2 (aI (bK b)) (aI rfl)
 refine FC.call (vO b s hs sO) rfl (fb _) ?_
 rintro r L ⟨Ch,rfl,rfl,hBl,hBd,hBv,hBt⟩
 rw[hn] at hBl
 simp only[hn,List.length_singleton,VX,Nat.reduceEqDiff,Nat.reduceAdd]
 have abU:b*2^s<4294967296^(n+2):=by
  have h2:=(wQ (n:=n+1) (eE (b:=4294967296) (by decide) b) hn ht).2
  rw[bW (by decide)] at h2
  have h3:b*2^s<(t+1)*4294967296^(n+1)*2^s:=Nat.mul_lt_mul_of_pos_right h2 hS
  have h4:(t+1)*4294967296^(n+1)*2^s=(t+1)*2^s*4294967296^(n+1):=by grind
  have h5:(t+1)*2^s≤4294967296:=by
   have h6:t*2^s<2^(32-s)*2^s:=by rw[Nat.mul_comm (2^(32-s)),hSW];exact U7
   have h7:=Nat.lt_of_mul_lt_mul_right h6
   have h8:(t+1)*2^s≤2^(32-s)*2^s:=Nat.mul_le_mul_right _ h7
   rwa [Nat.mul_comm (2^(32-s)),hSW] at h8
  have h9:(t+1)*2^s*4294967296^(n+1)≤4294967296*4294967296^(n+1):=Nat.mul_le_mul_right _ h5
  have h10:4294967296*4294967296^(n+1)=4294967296^(n+2):=by rw[Nat.pow_succ 4294967296 (n+1)];exact Nat.mul_comm _ _
  omega
 have Zk:(aC 4294967296 (b*2^s)).length=n+2:=by
  have h2:=kI (b:=4294967296) (by decide) abU
  have h3:b≤b*2^s:=Nat.le_mul_of_pos_right b hS
  have h4:=dD (b:=4294967296) (by decide) h3
  omega
 refine oZ (rows:=Ch) (m:=b*2^s) (by rfl) (by omega) (by omega) (by omega) (fun d hd=>hBd d (List.mem_of_mem_take hd)) (by rw[List.take_of_length_le (by omega)];exact hBv) fun k hk he => ?_
 have YE:k=n+2:=by
  have:=congrArg List.length he
  rw[Zk,List.length_take] at this
  omega
 subst YE
 generalize MU:aC 4294967296 (b*2^s)=vs at *
 have DU:∀d∈vs,d<4294967296:=by rw[←MU];exact eE (by decide) _
 have JY:val 4294967296 vs=b*2^s:=by rw[←MU];exact bW (by decide) _
 obtain⟨v1,f1⟩:∃v1,vs[n+1]? = some v1:=⟨_,List.getElem?_eq_getElem (by omega)⟩
 obtain⟨v0,f0⟩:∃v0,vs[n]? = some v0:=⟨_,List.getElem?_eq_getElem (by omega)⟩
 have Zt:1≤v1:=by
  obtain⟨d,hd,BG,_⟩:=I9 (a:=b*2^s) (n:=n+1) (by rw[MU];exact Zk)
  rw[MU,f1] at hd
  cases hd
  omega
 have b1:Ch[n+1]? = some v1:=by rw[←f1,←he,List.getElem?_take_of_lt (by omega)]
 have b0:Ch[n]? = some v0:=by rw[←f0,←he,List.getElem?_take_of_lt (by omega)]
 have lv1:=DU v1 (List.mem_of_getElem? f1)
 have lv0:=DU v0 (List.mem_of_getElem? f0)
 have x1:bE 1 (.ref 1 0 0 (n+2) (n+2+1)) (VI ((n+1:Nat):Int)) [.row 0 (FO.map uV) 1 true,.row 0 (Ch.map uV) 1 true]=some (.ptr 1 0 (n+1) 0):=by rw[bD (by rfl) (by omega),Nat.zero_add]
 have x0:bE 1 (.ref 1 0 0 (n+2) (n+2+1)) (VI ((n:Nat):Int)) [.row 0 (FO.map uV) 1 true,.row 0 (Ch.map uV) 1 true]=some (.ptr 1 0 n 0):=by rw[bD (by rfl) (by omega),Nat.zero_add]
 have y1:gM false 1 (.ptr 1 0 (n+1) 0) [.row 0 (FO.map uV) 1 true,.row 0 (Ch.map uV) 1 true]=some (uV v1):=gS (rows:=Ch) (g:=0) (w:=true) (by rfl) b1
 have y0:gM false 1 (.ptr 1 0 n 0) [.row 0 (FO.map uV) 1 true,.row 0 (Ch.map uV) 1 true]=some (uV v0):=gS (rows:=Ch) (g:=0) (w:=true) (by rfl) b0
 have z0:pE (.ref 1 0 0 (n+2) (n+2+1)) [.row 0 (FO.map uV) 1 true,.row 0 (Ch.map uV) 1 true]=some (VI ((n+2:Nat):Int)):=iS (r:=(Ch.map uV,1,true)) (by rfl)
 have z1:pE (.ref 0 0 0 ((aC 4294967296 a).length+1) ((aC 4294967296 a).length+1)) [.row 0 (FO.map uV) 1 true,.row 0 (Ch.map uV) 1 true]=some (VI (((aC 4294967296 a).length+1:Nat):Int)):=iS (r:=(FO.map uV,1,true)) (by rfl)
 have w2:IntKind.i64.wrap (((n+2:Nat):Int)-2)=((n:Nat):Int):=wrapN _ (by omega) (by omega)
 have wv1:IntKind.u64.wrap (v1:Int)=(v1:Int):=eH _ (by omega)
 have wv0:IntKind.u64.wrap (v0:Int)=(v0:Int):=eH _ (by omega)
 obtain⟨m,hm⟩:∃m,m+(n+2)=(aC 4294967296 a).length+1:=⟨(aC 4294967296 a).length+1-(n+2),by omega⟩
 have wm:IntKind.i64.wrap ((((aC 4294967296 a).length+1:Nat):Int)-((n+2:Nat):Int))=(m:Int):=wrapN _ (by omega) (by omega)
 have wm1:IntKind.i64.wrap ((m:Int)-1)=(m:Int)-1:=wrap64 (by omega) (by omega)
 have mk:=R8 m 0 (by omega) (H:=[.row 0 (FO.map uV) 1 true,.row 0 (Ch.map uV) 1 true])
 have z2:pE (.ref 2 0 0 m m) (H3 FO Ch (List.replicate m 0))=some (VI m):=iS (r:=((List.replicate m 0).map uV,1,true)) (by rfl)
 simp only[w0,x1,x0,y1,y0,z0,z1,w2,wv1,wv0,wm,mk,z2,wm1,List.length_cons,List.length_nil,VX,Nat.reduceEqDiff,Nat.reduceAdd]
 have As:val 4294967296 (FO.drop m)<val 4294967296 vs:=by
  obtain⟨d,hd⟩:∃d,FO[(aC 4294967296 a).length]? = some d:=⟨_,List.getElem?_eq_getElem (by omega)⟩
  have h2:=(wQ (b:=4294967296) (xs:=FO.drop m) (n:=n+1) (t:=d) (fun x hx=>hAd x (List.mem_of_mem_drop hx)) (by rw[List.length_drop];omega) (by rw[List.getElem?_drop,show m+(n+1)=(aC 4294967296 a).length by omega];exact hd)).2
  have h3:=hAt d hd
  have h4:=(wQ (n:=n+1) (eE (b:=4294967296) (by decide) b) hn ht).1
  rw[bW (by decide)] at h4
  have h5:(d+1)*4294967296^(n+1)≤2^s*4294967296^(n+1):=Nat.mul_le_mul_right _ h3
  have h6:1*4294967296^(n+1)≤t*4294967296^(n+1):=Nat.mul_le_mul_right _ (by omega)
  have h7:1*4294967296^(n+1)*2^s≤b*2^s:=Nat.mul_le_mul_right _ (by omega)
  rw[JY]
  rw[Nat.one_mul,Nat.mul_comm] at h7
  omega
 refine UI (Ci:=FO) (ws:=Ch) (Uo:=List.replicate m 0) (vs:=vs) (N:=(aC 4294967296 a).length+1) (m:=m) (n:=n) (A:=a*2^s) (s:=s) hAl hm (by omega) hAd he hBl Zk DU f1 f0 Zt hAv As (by simp) (xL (by decide) _) (by rfl) (by rfl) (by rfl) (by rfl) (by rfl) (by rfl) (by rfl) ?_
 intro tW us os r8 r9 Ys MQ F8 iC jS hv aX
 rw[JY] at hv aX
 have hq:val 4294967296 os=a / b:=by
  rw[←Nat.mul_div_mul_right a b hS,←hv,Nat.add_mul_div_left _ _ (by omega),Nat.div_eq_of_lt aX,Nat.zero_add]
 have hr:val 4294967296 us=a % b*2^s:=by
  rw[←Nat.mul_mod_mul_right,←hv,Nat.add_mul_mod_self_left,Nat.mod_eq_of_lt aX]
 simp only[r9,VX,Nat.reduceEqDiff,Nat.reduceAdd]
 refine oZ (rows:=us) (m:=a % b*2^s) AB (by omega) (Nat.le_refl _) (by omega) (fun d hd=>F8 d (List.mem_of_mem_take hd)) (by rw[List.take_of_length_le (by omega)];exact hr) fun k hk he2 => ?_
 have z3:pE (.ref 0 0 0 k ((aC 4294967296 a).length+1)) (H3 us Ch os)=some (VI k):=iS AB
 simp only[z3,VX,Nat.reduceEqDiff,Nat.reduceAdd]
 refine SG (us:=us) (k:=k) (N:=(aC 4294967296 a).length+1) (s:=s) (w0:=2^(32-s)) hs hSW MQ hk (by omega) F8 r8 (by rfl) (by rfl) (by rfl) ?_
 intro Kh EE q9 q13 acI YQ hv'
 have ajV:Kh 13 = .ref 2 0 0 m m:=q13.trans Ys
 have AX:val 4294967296 (EE.take k)=a % b:=by
  rw[hv',he2,bW (by decide),Nat.mul_div_cancel _ hS]
 simp only[q9,ajV,VX,Nat.reduceEqDiff,Nat.reduceAdd]
 refine oZ (rows:=os) (m:=a / b) Yf (by omega) (Nat.le_refl _) (by omega) (fun d hd=>jS d (List.mem_of_mem_take hd)) (by rw[List.take_of_length_le (by omega)];exact hq) fun k2 YE he3 => ?_
 simp only[q9,VX,Nat.reduceEqDiff,Nat.reduceAdd]
 refine oZ (rows:=EE) (m:=a % b) AB (by omega) hk (by omega) (fun d hd=>YQ d (List.mem_of_mem_take hd)) AX fun k3 hk3 he4 => ?_
 simp only[VX,Nat.reduceEqDiff,Nat.reduceAdd]
 exact bH (d:=6) (Ho (d:=5) Yf (by omega) YE he3) (Ho (d:=5) AB (by omega) (by omega) he4)
end Go.PM
namespace Go.PM
theorem dB (n:Nat) {H:aB}:pE (bC n) H=some (VI (aC 4294967296 n).length):=dZ
theorem tH {n:Nat}:(0:Int)<((aC 4294967296 n).length:Int)↔n≠0:=by
 constructor
 ·intro h h0
  subst h0
  rw[bR] at h
  simp at h
 ·intro h
  have:=(kE (b:=4294967296) (by decide) (n:=n))
  have h2:aC 4294967296 n≠[]:=fun hx=>h (this.1 hx)
  have:=List.length_pos_iff.2 h2
  omega
theorem Oo {n:Nat} (h:(aC 4294967296 n).length≤2):n<18446744073709551616:=by
 have h1:=fN (b:=4294967296) (by decide) n
 have h2:4294967296^(aC 4294967296 n).length≤4294967296^2:=Nat.pow_le_pow_right (by decide) h
 omega
theorem AK (a b:Nat) (ha:(aC 4294967296 a).length≤17592186044416) (hb:(aC 4294967296 b).length≤17592186044416):TC 171 [bC a,bC b] (bC (Nat.gcd a b)):=by
 refine TC.walk ⟨true,false⟩ E3 rfl (Nat.le_of_ble_eq_true rfl) (by simp[aK,bK]) (nX _) ?_
 simp only[BH,xZ,VX,Nat.reduceEqDiff,Nat.reduceAdd]
 refine bB (fun(t:Nat×Nat) ρ H=>H=[]∧Nat.gcd t.1 t.2=Nat.gcd a b∧(aC 4294967296 t.1).length≤17592186044416∧(aC 4294967296 t.2).length≤17592186044416∧ρ 0=bC t.1∧ρ 1=bC t.2) (fun t=>t.2) (a,b) ⟨rfl,rfl,ha,hb,rfl,rfl⟩ ?_
 rintro⟨x,y⟩ ρ H ⟨rfl,hg,hx,hy,g0,g1⟩
 simp only at hg hx hy g0 g1
 have c1:=yE x hx
 have c2:=yE y hy
 by_cases XW:y=0
 ·subst XW
  have hl:¬(0:Int)<((aC 4294967296 0).length:Int):=by rw[tH];omega
  rw[Nat.gcd_zero_right] at hg
  simp only[gQ,g0,g1,dB,hl,VX,Nat.reduceEqDiff,Nat.reduceAdd]
  rw[hg]
  exact aI (bK _)
 have hl:(0:Int)<((aC 4294967296 y).length:Int):=tH.2 XW
 by_cases h1:(aC 4294967296 x).length≤2∧(aC 4294967296 y).length≤2
 ·rw[if_pos h1.1] at c1
  rw[if_pos h1.2] at c2
  simp only[gQ,g0,g1,dB,hl,c1,c2,VX,Nat.reduceEqDiff,Nat.reduceAdd]
  refine bB (fun(t:Nat×Nat) ρ H=>H=[]∧Nat.gcd t.1 t.2=Nat.gcd a b∧t.1<18446744073709551616∧t.2<18446744073709551616∧ρ 5=VK .u64 t.1∧ρ 7=VK .u64 t.2) (fun t=>t.2) (x,y) ⟨rfl,hg,Oo h1.1,Oo h1.2,rfl,rfl⟩ ?_
  rintro⟨u,v⟩ Kh H ⟨rfl,hg2,hu,hv,k5,k7⟩
  simp only at hg2 hu hv k5 k7
  by_cases hv0:v=0
  ·subst hv0
   rw[Nat.gcd_zero_right] at hg2
   have hz:¬(0:Int)<((0:Nat):Int):=by omega
   have c3:=kZ u hu
   simp only[qP,k5,k7,hz,c3,VX,Nat.reduceEqDiff,Nat.reduceAdd]
   rw[hg2]
   exact aI (bK _)
  ·have hz:(0:Int)<(v:Int):=by omega
   have r1:=Mc u v (by omega)
   simp only[qP,k5,k7,hz,r1,VX,Nat.reduceEqDiff,Nat.reduceAdd]
   refine⟨(v,u % v),?_,?_,hv,?_,rfl,rfl⟩
   ·exact Nat.mod_lt _ (by omega)
   ·simp only
    rw[←hg2,Nat.gcd_comm u v,Nat.gcd_rec v u,Nat.gcd_comm]
   ·simp only
    have:=Nat.mod_lt u (show 0<v by omega)
    omega
 ·have c3:=uH x y XW hx hy
  have next:∃s':Nat×Nat,s'.2<y∧Nat.gcd s'.1 s'.2=Nat.gcd a b∧(aC 4294967296 s'.1).length≤17592186044416∧(aC 4294967296 s'.2).length≤17592186044416∧bC y=bC s'.1∧bC (x % y)=bC s'.2:=by
   have hm:=Nat.mod_lt x (show 0<y by omega)
   refine⟨(y,x % y),hm,?_,hy,?_,rfl,rfl⟩
   ·simp only
    rw[←hg,Nat.gcd_comm x y,Nat.gcd_rec y x,Nat.gcd_comm]
   ·simp only
    have:=dD (b:=4294967296) (by decide) (Nat.le_of_lt hm)
    omega
  by_cases h2:(aC 4294967296 x).length≤2
  ·have h3:¬(aC 4294967296 y).length≤2:=fun h=>h1 ⟨h2,h⟩
   rw[if_pos h2] at c1
   rw[if_neg h3] at c2
   simp only[gQ,g0,g1,dB,hl,c1,c2,c3,VX,Nat.reduceEqDiff,Nat.reduceAdd]
   exact next
  ·rw[if_neg h2] at c1
   by_cases h3:(aC 4294967296 y).length≤2
   ·rw[if_pos h3] at c2
    simp only[gQ,g0,g1,dB,hl,c1,c2,c3,VX,Nat.reduceEqDiff,Nat.reduceAdd]
    exact next
   ·rw[if_neg h3] at c2
    simp only[gQ,g0,g1,dB,hl,c1,c2,c3,VX,Nat.reduceEqDiff,Nat.reduceAdd]
    exact next
end Go.PM
namespace Go.PM
open Go.Lib
theorem rZ (a b:List UInt8) (h:a.length+b.length≤9223372036854775807):cU .add (.string ⟨a.toArray⟩) (.string ⟨b.toArray⟩)=some (.string ⟨(a++b).toArray⟩):=by
 have h1:(⟨a.toArray⟩:ByteArray).size=a.length:=by simp[ByteArray.size]
 have h2:(⟨b.toArray⟩:ByteArray).size=b.length:=by simp[ByteArray.size]
 have h3:¬(((⟨a.toArray⟩:ByteArray).size+(⟨b.toArray⟩:ByteArray).size:Nat):Int)>IntKind.i64.max:=by
  rw[h1,h2]
  show ¬_>(9223372036854775807:Int)
  omega
 simp only[cU,h3,if_false]
 congr 2
theorem aZ (a:List UInt8):yC (.string ⟨a.toArray⟩)=some (.int .i64 (a.length:Int)):=by simp[yC,ByteArray.size]
theorem YI:∀a:List UInt8,(aA (aR a)).length=1:=fun _=>rfl
theorem Tp {xs:List (List UInt8)} {H:aB} {lo b g n:Nat} (hr:aV H b g=some (xs.map aR,1,true)) (hn:xs.length=n) (gV:lo≤b) (A2:n≤9223372036854775806) :
  vN 185 [.ref b g 0 n n] lo H fun r H'=>r = .eK []∧H'=H.set b (.row g (xs.reverse.map aR) 1 true):=by
 refine vN.walk ⟨true,false⟩ pD (Nat.le_of_ble_eq_true rfl) ?_
 have e0:pE (.ref b g 0 n n) H=some (VI n):=iS hr
 have w0:IntKind.i64.wrap ((n:Int)-1)=(n:Int)-1:=wrap64 (by omega) (by omega)
 simp only[jQ,iX,e0,w0,VX,Nat.reduceEqDiff,Nat.reduceAdd]
 refine bB (fun(t:Nat×List (List UInt8)) ρ K=>t.1≤n∧K=H.set b (.row g (t.2.map aR) 1 true)∧t.2.length=n∧(∀k,k<n→t.2[k]? = if k<t.1∨n≤k+t.1 then xs[n-1-k]? else xs[k]?)∧ρ 0 = .ref b g 0 n n∧ρ 2=VI t.1∧ρ 3=VI ((n:Int)-1-(t.1:Int))) (fun t=>n-t.1) (0,xs) ⟨Nat.zero_le _,(tE hr).symm,hn,fun k hk=>by rw[if_neg (by simp only;omega)],rfl,rfl,by show VI ((n:Int)-1)=VI ((n:Int)-1-((0:Nat):Int));rw[Int.natCast_zero,Int.sub_zero]⟩ ?_
 rintro⟨i,ys⟩ ρ K ⟨hi,rfl,hl,hy,g0,g2,g3⟩
 simp only at hi hl hy g2 g3
 have Y4:aV (H.set b (.row g (ys.map aR) 1 true)) b g=some (ys.map aR,1,true):=lF hr
 by_cases cX:(i:Int)<(n:Int)-1-(i:Int)
 ·have hj:(n:Int)-1-(i:Int)=((n-1-i:Nat):Int):=by omega
  obtain⟨x,hx⟩:∃x,ys[i]? = some x:=⟨_,List.getElem?_eq_getElem (by omega)⟩
  obtain⟨y,hyy⟩:∃y,ys[n-1-i]? = some y:=⟨_,List.getElem?_eq_getElem (by omega)⟩
  rw[hj] at g3 cX
  have a1:∀(zs:List (List UInt8)) (k:Nat),zs.length=n→k<n→bE 1 (.ref b g 0 n n) (VI (k:Int)) (H.set b (.row g (zs.map aR) 1 true))=some (.ptr b g k 0):=fun zs k h1 h2=>by rw[bD (lF hr) h2,Nat.zero_add]
  have l1:gM false 1 (.ptr b g (n-1-i) 0) (H.set b (.row g (ys.map aR) 1 true))=some (aR y):=BU Y4 hyy
  have l2:gM false 1 (.ptr b g i 0) (H.set b (.row g (ys.map aR) 1 true))=some (aR x):=BU Y4 hx
  have s1:dC lo 1 (.ptr b g i 0) (aR y) (H.set b (.row g (ys.map aR) 1 true))=some (H.set b (.row g ((ys.set i y).map aR) 1 true)):=by rw[fX (f:=aR) (e:=1) Y4 (by omega) gV rfl rfl,kL]
  have s2:dC lo 1 (.ptr b g (n-1-i) 0) (aR x) (H.set b (.row g ((ys.set i y).map aR) 1 true))=some (H.set b (.row g (((ys.set i y).set (n-1-i) x).map aR) 1 true)):=by rw[fX (f:=aR) (e:=1) (lF hr) (by rw[List.length_set];omega) gV rfl rfl,kL]
  have w1:IntKind.i64.wrap ((i:Int)+1)=((i+1:Nat):Int):=wrapN _ (by omega) (by omega)
  have w2:IntKind.i64.wrap (((n-1-i:Nat):Int)-1)=(n:Int)-1-((i+1:Nat):Int):=by rw[wrap64 (by omega) (by omega)];omega
  have b1:=a1 ys i hl (by omega)
  have b2:=a1 ys (n-1-i) hl (by omega)
  have b3:=a1 (ys.set i y) (n-1-i) (by rw[List.length_set];exact hl) (by omega)
  simp only[eJ,g0,g2,g3,cX,b1,b2,b3,l1,l2,s1,s2,w1,w2,VX,Nat.reduceEqDiff,Nat.reduceAdd]
  refine⟨(i+1,(ys.set i y).set (n-1-i) x),by simp only;omega,by simp only;omega,rfl,by simp only[List.length_set];exact hl,fun k hk => ?_,by (repeat' apply And.intro)<;>first | rfl | trivial⟩
  simp only
  have hxx:=hy i (by omega)
  rw[if_neg (by omega),hx] at hxx
  have hyx:=hy (n-1-i) (by omega)
  rw[if_neg (by omega),hyy] at hyx
  rw[List.getElem?_set,List.getElem?_set,List.length_set]
  by_cases h1:n-1-i=k
  ·subst h1
   rw[if_pos rfl,if_pos (by omega),if_pos (by omega),show n-1-(n-1-i)=i by omega]
   exact hxx
  ·rw[if_neg h1]
   by_cases h2:i=k
   ·subst h2
    rw[if_pos rfl,if_pos (by omega),if_pos (by omega)]
    exact hyx
   ·rw[if_neg h2,hy k hk]
    by_cases h3:k<i∨n≤k+i
    ·rw[if_pos h3,if_pos (by omega)]
    ·rw[if_neg h3,if_neg (by omega)]
 ·have ajG:ys=xs.reverse:=by
   apply List.ext_getElem?
   intro k
   rcases Nat.lt_or_ge k n with h | h
   ·rw[hy k h,List.getElem?_reverse (by omega),hn]
    split
    ·rfl
    ·rw[show n-1-k=k by omega]
   ·rw[List.getElem?_eq_none (by omega),List.getElem?_eq_none (by rw[List.length_reverse];omega)]
  subst ajG
  simp only[eJ,g0,g2,g3,cX,VX,Nat.reduceEqDiff,Nat.reduceAdd]
  try exact⟨rfl,rfl⟩
theorem Tr (n:Nat):(aC 1000000000 n).length≤2*(aC 4294967296 n).length:=by
 refine kI (by decide) ?_
 have h1:=fN (b:=4294967296) (by decide) n
 have h2:4294967296^(aC 4294967296 n).length≤(1000000000^2)^(aC 4294967296 n).length:=Nat.pow_le_pow_left (by decide) _
 rw[←Nat.pow_mul] at h2
 omega
theorem YZ {n:Nat} (hn:n≠0):(decDigits n).length≤9*(aC 1000000000 n).length:=by
 have h1:=fN (b:=1000000000) (by decide) n
 have h3:(aC 1000000000 n)≠[]:=fun h=>hn ((kE (by decide)).1 h)
 have h4:=List.length_pos_iff.2 h3
 generalize (aC 1000000000 n).length=L at *
 obtain⟨k,hk⟩:∃k,9*L=k+1:=⟨9*L-1,by omega⟩
 have h5:(1000000000:Nat)^L=10^(9*L):=by rw[show (1000000000:Nat)=10^9 by decide,←Nat.pow_mul]
 rw[h5,hk] at h1
 rw[hk]
 exact zM n k h1
def oM (q:Nat):List UInt8:=if q=0 then [] else decDigits q
theorem Al (n:Nat) (hn:(aC 4294967296 n).length≤68719476736):TC 102 [bC n] (aR (decDigits n)):=by
 refine TC.walk ⟨true,false⟩ DK rfl (Nat.le_of_ble_eq_true rfl) (by simp[aK,bK]) rfl ?_
 by_cases h0:n=0
 ·subst h0
  have hl:(((aC 4294967296 0).length:Nat):Int)=0:=by rw[bR];rfl
  simp only[sX,qD,dB,hl,VX,Nat.reduceEqDiff,Nat.reduceAdd]
  rw[gN (by decide)]
  exact aI rfl
 have hl:¬(((aC 4294967296 n).length:Nat):Int)=0:=by have:=tH.2 h0;omega
 have e1:∀lr,qV lr [.string ⟨#[]⟩] 0 [] []=some (.ref 0 0 0 0 0,[.row 0 (([]:List (List UInt8)).map aR) 1 true]):=fun lr=>nR (H:=[]) (lr:=lr) (z:=[.string ⟨#[]⟩]) rfl
 have hTn:=Tr n
 have hdl:=YZ h0
 simp only[sX,qD,dB,hl,e1,VX,Nat.reduceEqDiff,Nat.reduceAdd]
 refine bB (fun(t:Nat×List (List UInt8)) ρ H=>H=[.row t.2.length (t.2.map aR) 1 true]∧t.1≤n∧t.2.length+(aC 1000000000 t.1).length=(aC 1000000000 n).length∧decDigits n=oM t.1++t.2.reverse.flatten∧ρ 0=bC t.1∧ρ 3 = .ref 0 t.2.length 0 t.2.length t.2.length) (fun t=>t.1) (n,[]) ⟨rfl,Nat.le_refl _,by simp,by simp[oM,h0],rfl,rfl⟩ ?_
 rintro⟨q,ps⟩ ρ H ⟨rfl,hq,hlen,Sy,g0,g3⟩
 simp only at hq hlen Sy g0 g3
 by_cases JU:q=0
 ·subst JU
  have hz:¬(0:Int)<((aC 4294967296 0).length:Int):=by rw[tH];omega
  rw[oM,if_pos rfl,List.nil_append] at Sy
  have hr:aV [.row ps.length (ps.map aR) 1 true] 0 ps.length=some (ps.map aR,1,true):=cE
  simp only[kT,g0,g3,dB,hz,VX,Nat.reduceEqDiff,Nat.reduceAdd]
  refine oW rfl ((Tp hr rfl (Nat.le_refl _) (by omega)).mono ?_)
  rintro r H' ⟨rfl,rfl⟩
  have FQ:([.row ps.length (ps.map aR) 1 true]:aB).set 0 (.row ps.length (ps.reverse.map aR) 1 true)=[.row ps.length (ps.reverse.map aR) 1 true]:=rfl
  have Y4:aV [.row ps.length (ps.reverse.map aR) 1 true] 0 ps.length=some (ps.reverse.map aR,1,true):=cE
  have hfl:ps.reverse.flatten.length≤140737488355328:=by rw[←Sy];omega
  have cj:=(abY ps.reverse (by rw[List.length_reverse];omega) hfl).flat (H:=[.row ps.length (ps.reverse.map aR) 1 true]) (args:=[.ref 0 ps.length 0 ps.length ps.length,aR []]) rfl (by simp only[aK,jA (f:=aR) YI (fun _=>rfl),Bool.and_true];rfl) (fz2 (CZ Y4 (by simp) (Nat.le_refl _) (dY fun _=>rfl)) (aI rfl)) rfl
  simp only[FQ,g3,cj,VX,Nat.reduceEqDiff,Nat.reduceAdd]
  rw[←Sy]
  exact aI rfl
 ·have hz:(0:Int)<((aC 4294967296 q).length:Int):=tH.2 JU
  have hql:=dD (b:=4294967296) (by decide) hq
  have c1:TC 183 [bC q,.sc (.int .u32 1000000000)] (.eK [bC (q / 1000000000),uV (q % 1000000000)]):=sY q 1000000000 (by decide) (by decide) (by omega)
  have hm:=Nat.mod_lt q (show 0<1000000000 by decide)
  have c2:=abQ (q % 1000000000) (by omega)
  have wm:IntKind.u64.wrap ((q % 1000000000:Nat):Int)=((q % 1000000000:Nat):Int):=eH _ (by omega)
  have hdq:=hC (b:=1000000000) (by decide) JU
  have arW:(aC 1000000000 q).length=(aC 1000000000 (q / 1000000000)).length+1:=by rw[hdq];rfl
  have Ta:=zM (q % 1000000000) 8 hm
  have hqq:=Nat.mod_add_div q 1000000000
  have e2:∀x:List UInt8,qV false [.string ⟨#[]⟩] 1 [(0,aR x)] [.row ps.length (ps.map aR) 1 true]=some (.tree [aR x] (.cl 1),[.row ps.length (ps.map aR) 1 true]):=fun x=>sL (z:=[.string ⟨#[]⟩]) rfl rfl rfl
  have e3:∀x:List UInt8,eY 1 (.tree [aR x] (.cl 1)) [.row ps.length (ps.map aR) 1 true]=some [aR x]:=fun x=>pB rfl rfl
  have e4:∀x:List UInt8,gF 0 1 16 (.ref 0 ps.length 0 ps.length ps.length) [aR x] [.row ps.length (ps.map aR) 1 true]=some (.ref 0 (ps.length+1) 0 (ps.length+1) (ps.length+1),[.row (ps.length+1) ((ps++[x]).map aR) 1 true]):=fun x=>by
   rw[oX (f:=aR) (x:=x) cE rfl (Nat.le_refl _) (by decide) (by decide) (by omega)]
   rfl
  have hle:q / 1000000000<q:=Nat.div_lt_self (by omega) (by decide)
  by_cases hqz:q / 1000000000=0
  ·have Pq:¬(0:Int)<((aC 4294967296 (q / 1000000000)).length:Int):=by rw[tH];omega
   simp only[kT,g0,g3,dB,hz,c1,c2,wm,Pq,e2,e3,e4,VX,Nat.reduceEqDiff,Nat.reduceAdd]
   refine⟨(q / 1000000000,ps++[decDigits (q % 1000000000)]),hle,by simp,by simp only;omega,by simp only[List.length_append,List.length_singleton];omega,?_,rfl,by simp⟩
   rw[Sy,oM,if_neg JU,oM,if_pos hqz,List.reverse_append,List.nil_append,List.reverse_singleton,List.singleton_append,List.flatten_cons,show q % 1000000000=q by omega]
  ·have Pq:(0:Int)<((aC 4294967296 (q / 1000000000)).length:Int):=tH.2 hqz
   have ws:IntKind.i64.wrap ((9:Int)-((decDigits (q % 1000000000)).length:Int))=((9-(decDigits (q % 1000000000)).length:Nat):Int):=wrapN _ (by omega) (by omega)
   have c3:=Vj [48] (9-(decDigits (q % 1000000000)).length) (by simp;omega) (by omega)
   have We:repeatL [48] (9-(decDigits (q % 1000000000)).length)++decDigits (q % 1000000000)=AH 9 (q % 1000000000):=by
    rw[Z9 8 _ hm]
    congr 1
    have:=repeatL_replicate 48 1 (9-(decDigits (q % 1000000000)).length)
    rw[Nat.mul_one] at this
    exact this
   have c4:=rZ (repeatL [48] (9-(decDigits (q % 1000000000)).length)) (decDigits (q % 1000000000)) (by rw[←List.length_append,We,YB];decide)
   rw[We] at c4
   simp only[kT,g0,g3,dB,hz,c1,c2,wm,Pq,aZ,ws,c3,c4,e2,e3,e4,VX,Nat.reduceEqDiff,Nat.reduceAdd]
   refine⟨(q / 1000000000,ps++[AH 9 (q % 1000000000)]),hle,by simp,by simp only;omega,by simp only[List.length_append,List.length_singleton];omega,?_,rfl,by simp⟩
   rw[Sy,oM,if_neg JU,oM,if_neg hqz,List.reverse_append,List.reverse_singleton,List.singleton_append,List.flatten_cons,←List.append_assoc,←Fx (by omega) hm]
   congr 2
   omega
end Go.PM
namespace Go.PM
def bl (n:Nat):Nat:=(aC 2 n).length
theorem KN (n:Nat):n<2^bl n:=fN (by decide) n
theorem Cv {n k:Nat} (h:n<2^k):bl n≤k:=kI (by decide) h
theorem jM {m n:Nat} (h:m≤n):bl m≤bl n:=dD (by decide) h
theorem lP (m n:Nat):bl (m*n)≤bl m+bl n:=by
 refine Cv ?_
 rw[Nat.pow_add]
 exact Nat.mul_lt_mul'' (KN m) (KN n)
theorem D8 {n k:Nat} (h:bl n≤k):n<2^k:=Nat.lt_of_lt_of_le (KN n) (Nat.pow_le_pow_right (by decide) h)
theorem PK {m n k:Nat} (hm:bl m≤k) (hn:bl n≤k):bl (m+n)≤k+1:=by
 refine Cv ?_
 have h1:=D8 hm
 have h2:=D8 hn
 rw[Nat.pow_succ]
 omega
theorem Q7:bl 0=0:=by simp[bl,bR]
theorem Ip:bl 1=1:=by simp[bl,hC (b:=2) (by decide) (n:=1) (by decide),bR]
theorem WQ {n:Nat} (h:n≠0):1≤bl n:=by
 have:=jM (m:=1) (n:=n) (by omega)
 rwa [Ip] at this
theorem Zh (n:Nat):32*(aC 4294967296 n).length≤bl n+31:=by
 by_cases h:n=0
 ·subst h;rw[bR];simp
 ·have h1:=Hq (b:=4294967296) (by decide) h
  have h2:=KN n
  have e:(4294967296:Nat)=2^32:=by decide
  rw[e] at h1 ⊢
  rw[←Nat.pow_mul] at h1
  have h3:2^(32*((aC (2^32) n).length-1))<2^bl n:=by omega
  have h4:=(Nat.pow_lt_pow_iff_right (by decide)).1 h3
  omega
theorem Zb (n:Nat):29*(aC 1000000000 n).length≤bl n+28:=by
 by_cases h:n=0
 ·subst h;rw[bR];simp
 ·have h1:=Hq (b:=1000000000) (by decide) h
  have h2:=KN n
  have h5:(2^29)^((aC 1000000000 n).length-1)≤1000000000^((aC 1000000000 n).length-1):=Nat.pow_le_pow_left (by decide) _
  rw[←Nat.pow_mul] at h5
  have h3:2^(29*((aC 1000000000 n).length-1))<2^bl n:=by omega
  have h4:=(Nat.pow_lt_pow_iff_right (by decide)).1 h3
  omega
def cC (q:Rat):Nat:=max (bl q.num.natAbs) (bl q.den)
theorem rE {q:Rat}:bl q.num.natAbs≤cC q:=Nat.le_max_left _ _
theorem oY {q:Rat}:bl q.den≤cC q:=Nat.le_max_right _ _
theorem Ts {q:Rat}:1≤cC q:=Nat.le_trans (WQ q.den_nz) oY
theorem Ow {q:Rat} {k:Nat} (h1:bl q.num.natAbs≤k) (h2:bl q.den≤k):cC q≤k:=Nat.max_le.2 ⟨h1,h2⟩
theorem D9 {n:Int} {d k:Nat} (h1:bl n.natAbs≤k) (h2:bl d≤k) (hk:1≤k):cC (mkRat n d)≤k:=by
 refine Ow ?_ ?_
 ·rw[Rat.num_mkRat]
  split
  ·rw[Int.natAbs_zero,Q7];omega
  ·exact Nat.le_trans (jM (Int.natAbs_ediv_le_natAbs _ _)) h1
 ·rw[Rat.den_mkRat]
  split
  ·rw[Ip];exact hk
  ·exact Nat.le_trans (jM (Nat.div_le_self _ _)) h2
theorem Kp (a b:Rat):cC (a+b)≤cC a+cC b+1:=by
 rw[Rat.add_def']
 have h1 := @rE a
 have h2 := @rE b
 have h3 := @oY a
 have h4 := @oY b
 have h5:=lP a.num.natAbs b.den
 have h6:=lP b.num.natAbs a.den
 have h7:=lP a.den b.den
 refine D9 ?_ (by omega) (by omega)
 have h8:(a.num*b.den+b.num*a.den).natAbs≤a.num.natAbs*b.den+b.num.natAbs*a.den:=by
  refine Nat.le_trans (Int.natAbs_add_le _ _) ?_
  rw[Int.natAbs_mul,Int.natAbs_mul,Int.natAbs_natCast,Int.natAbs_natCast]
  exact Nat.le_refl _
 exact Nat.le_trans (jM h8) (PK (by omega) (by omega))
theorem BM (a b:Rat):cC (a*b)≤cC a+cC b:=by
 rw[Rat.mul_def']
 have h1 := @rE a
 have h2 := @rE b
 have h3 := @oY a
 have h4 := @oY b
 have h5:=lP a.num.natAbs b.num.natAbs
 have h7:=lP a.den b.den
 have h8 := @Ts a
 refine D9 ?_ (by omega) (by omega)
 rw[Int.natAbs_mul]
 omega
theorem S0 (n:Int):cC (n:Rat)≤max (bl n.natAbs) 1:=by
 refine Ow ?_ ?_
 ·rw[Rat.num_intCast];exact Nat.le_max_left _ _
 ·rw[Rat.den_intCast,Ip];exact Nat.le_max_right _ _
theorem IE:cC 0=1:=by simp[cC,Q7,Ip]
theorem EN:cC 1=1:=by simp[cC,Ip]
theorem B9 (a:Rat):∀n:Nat,cC (a^n)≤n*cC a+1
 | 0=>by rw[Rat.pow_zero,EN];omega
 |
  n+1=>by
  rw[Rat.pow_succ]
  have h1:=BM (a^n) a
  have h2:=B9 a n
  rw[Nat.add_mul]
  omega
def iY (neg:Bool) (t:Nat):Int:=if neg then -(t:Int) else t
theorem lT (neg:Bool) (t:Nat):(iY neg t).natAbs=t:=by cases neg<;>simp[iY]
theorem Mr {neg:Bool} {t:Nat}:iY neg t<0↔neg=true∧t≠0:=by cases neg<;>simp[iY]<;>omega
theorem vM (neg:Bool):iY neg 0=0:=by cases neg<;>rfl
theorem Et (z:Int):iY (decide (z<0)) z.natAbs=z:=by
 by_cases h:z<0<;>simp[iY,h]<;>omega
theorem X9 {neg:Bool} {t g:Nat}:(iY neg t) / (g:Int)=iY neg (t / g)∨¬g ∣ t:=by
 by_cases h:g ∣ t
 ·left
  obtain⟨k,rfl⟩:=h
  by_cases hg:g=0
  ·subst hg;simp[vM]
  ·rw[Nat.mul_div_cancel_left _ (by omega)]
   cases neg
   ·simp only[iY]
    simp only[Bool.false_eq_true,if_false]
    rw[Int.natCast_mul,Int.mul_ediv_cancel_left _ (by omega)]
   ·simp only[iY,if_true]
    rw[Int.natCast_mul,←Int.mul_neg,Int.mul_ediv_cancel_left _ (by omega)]
 ·exact .inr h
theorem C1 {neg:Bool} {t b:Nat} (hb:b≠0):(mkRat (iY neg t) b).num=iY neg (t / Nat.gcd t b):=by
 rw[Rat.num_mkRat,if_neg hb,lT,Nat.gcd_comm]
 rcases X9 (neg:=neg) (t:=t) (g:=Nat.gcd t b) with h | h
 ·exact h
 ·exact absurd (Nat.gcd_dvd_left _ _) h
theorem Mt {neg:Bool} {t b:Nat} (hb:b≠0):(mkRat (iY neg t) b).den=b / Nat.gcd t b:=by
 rw[Rat.den_mkRat,if_neg hb,lT,Nat.gcd_comm]
theorem Hw (q:Rat):mkRat (iY (decide (q.num<0)) q.num.natAbs) q.den=q:=by rw[Et,Rat.mkRat_self]
end Go.PM
namespace Go.PM
theorem Yq (neg:Bool) (t d:Nat):iY neg (t*d)=iY neg t*(d:Int):=by cases neg<;>simp[iY,Int.neg_mul]
theorem B4 (q:Rat) {d:Nat} (hd:d≠0):mkRat (iY (decide (q.num<0)) (q.num.natAbs*d)) (q.den*d)=q:=by
 rw[Yq,Rat.mkRat_mul_right hd,Hw]
theorem Bq (X Y:Int) {B:Nat} (hB:B≠0):mkRat X B+mkRat Y B=mkRat (X+Y) B:=by
 rw[Rat.mkRat_add_mkRat _ _ hB hB,←Int.add_mul,Rat.mkRat_mul_right hB]
theorem MH (n:Bool) (x y:Nat):iY n x+iY n y=iY n (x+y):=by cases n<;>simp[iY]<;>omega
theorem Qu {m n:Bool} (h:m≠n) {x y:Nat} (hx:y≤x):iY m x+iY n y=iY m (x-y):=by
 cases m<;>cases n<;>simp_all [iY]<;>omega
theorem PY {m n:Bool} (h:m≠n) {x y:Nat} (hx:x≤y):iY m x+iY n y=iY n (y-x):=by
 cases m<;>cases n<;>simp_all [iY]<;>omega
theorem L9 (n:Int) {d:Nat} (hd:d≠0):(mkRat n d).num.natAbs=n.natAbs / Nat.gcd n.natAbs d:=by
 have:=C1 (neg:=decide (n<0)) (t:=n.natAbs) (b:=d) hd
 rw[Et] at this
 rw[this,lT]
theorem Hu (n:Int) {d:Nat} (hd:d≠0):(mkRat n d).den=d / Nat.gcd n.natAbs d:=by
 have:=Mt (neg:=decide (n<0)) (t:=n.natAbs) (b:=d) hd
 rwa [Et] at this
theorem acO (n:Int) {d:Nat} (hd:d≠0):(mkRat n d).num<0↔n<0:=by
 have:=C1 (neg:=decide (n<0)) (t:=n.natAbs) (b:=d) hd
 rw[Et] at this
 rw[this,Mr]
 have h:n<0→n.natAbs / Nat.gcd n.natAbs d≠0:=fun h=>by
  have:=Nat.div_pos (Nat.le_of_dvd (by omega) (Nat.gcd_dvd_left n.natAbs d)) (Nat.gcd_pos_of_pos_left d (show 0<n.natAbs by omega))
  omega
 constructor
 ·rintro⟨h1,_⟩;simpa using h1
 ·intro h1;exact⟨by simpa using h1,h h1⟩
theorem Aa (t:Nat) {d:Nat} (hd:d≠0):(mkRat (iY false t) d).num.natAbs ∣ t∧(mkRat (iY false t) d).den ∣ d:=by
 rw[L9 _ hd,Hu _ hd,lT]
 exact⟨Nat.div_dvd_of_dvd (Nat.gcd_dvd_left _ _),Nat.div_dvd_of_dvd (Nat.gcd_dvd_right _ _)⟩
theorem Ua (a b:Rat):(a*b).num.natAbs=(mkRat (iY false a.num.natAbs) b.den).num.natAbs*(mkRat (iY false b.num.natAbs) a.den).num.natAbs ∧
  (a*b).den=(mkRat (iY false a.num.natAbs) b.den).den*(mkRat (iY false b.num.natAbs) a.den).den:=by
 have ha:=a.den_nz
 have hb:=b.den_nz
 have Dw:a.den*b.den≠0:=Nat.mul_ne_zero ha hb
 obtain⟨u1,u2⟩:=Aa a.num.natAbs hb
 obtain⟨v1,v2⟩:=Aa b.num.natAbs ha
 have e:(mkRat (iY false a.num.natAbs) b.den)*(mkRat (iY false b.num.natAbs) a.den)=mkRat (iY false a.num.natAbs*iY false b.num.natAbs) (b.den*a.den):=Rat.mkRat_mul_mkRat _ _ _ _
 have en:((mkRat (iY false a.num.natAbs) b.den)*(mkRat (iY false b.num.natAbs) a.den)).num.natAbs=(a*b).num.natAbs:=by
  rw[e,Rat.mul_def',L9 _ Dw,L9 _ (Nat.mul_ne_zero hb ha),Int.natAbs_mul,Int.natAbs_mul,lT,lT,Nat.mul_comm b.den]
 have ed:((mkRat (iY false a.num.natAbs) b.den)*(mkRat (iY false b.num.natAbs) a.den)).den=(a*b).den:=by
  rw[e,Rat.mul_def',Hu _ Dw,Hu _ (Nat.mul_ne_zero hb ha),Int.natAbs_mul,Int.natAbs_mul,lT,lT,Nat.mul_comm b.den]
 rw[←en,←ed]
 generalize hu:mkRat (iY false a.num.natAbs) b.den=u at *
 generalize hv:mkRat (iY false b.num.natAbs) a.den=v at *
 have c1:Nat.Coprime u.num.natAbs u.den:=u.reduced
 have c2:Nat.Coprime v.num.natAbs v.den:=v.reduced
 have c3:Nat.Coprime u.num.natAbs v.den:=Nat.Coprime.coprime_dvd_left u1 (Nat.Coprime.coprime_dvd_right v2 a.reduced)
 have c4:Nat.Coprime v.num.natAbs u.den:=Nat.Coprime.coprime_dvd_left v1 (Nat.Coprime.coprime_dvd_right u2 b.reduced)
 have c:Nat.gcd (u.num*v.num).natAbs (u.den*v.den)=1:=by
  rw[Int.natAbs_mul]
  exact Nat.Coprime.mul_left (Nat.Coprime.mul_right c1 c3) (Nat.Coprime.mul_right c4 c2)
 rw[Rat.mul_def',L9 _ (Nat.mul_ne_zero u.den_nz v.den_nz),Hu _ (Nat.mul_ne_zero u.den_nz v.den_nz),c,Nat.div_one,Nat.div_one,Int.natAbs_mul]
 exact⟨rfl,rfl⟩
theorem OB {a b:Rat} (ha:a.num≠0) (hb:b.num≠0):(a*b).num<0↔(decide (a.num<0) != decide (b.num<0))=true:=by
 rw[Rat.mul_def',acO _ (Nat.mul_ne_zero a.den_nz b.den_nz)]
 rcases Int.lt_or_gt_of_ne ha with h1 | h1<;>rcases Int.lt_or_gt_of_ne hb with h2 | h2
 ·have:=Int.mul_pos_of_neg_of_neg h1 h2
  rw[decide_eq_true h1,decide_eq_true h2]
  simp;omega
 ·have:=Int.mul_neg_of_neg_of_pos h1 h2
  rw[decide_eq_true h1,decide_eq_false (show ¬b.num<0 by omega)]
  simp[this]
 ·have:=Int.mul_neg_of_pos_of_neg h1 h2
  rw[decide_eq_false (show ¬a.num<0 by omega),decide_eq_true h2]
  simp[this]
 ·have:=Int.mul_pos h1 h2
  rw[decide_eq_false (show ¬a.num<0 by omega),decide_eq_false (show ¬b.num<0 by omega)]
  simp;omega
def jH (q:Rat):Int:=if q.num=0 then 0 else if q.num<0 then -1 else 1
def JK (a b:Rat):Int:=if jH a=jH b then (if a.num<0 then -dX (a.num.natAbs*b.den) (b.num.natAbs*a.den) else dX (a.num.natAbs*b.den) (b.num.natAbs*a.den)) else jH a-jH b
theorem tO {m n:Nat}:dX m n<0↔m<n:=by
 unfold dX
 split
 ·omega
 ·split<;>omega
theorem YA {m n:Nat}:0<dX m n↔n<m:=by
 unfold dX
 split
 ·omega
 ·split<;>omega
theorem uA {m n:Nat}:dX m n=0↔m=n:=by
 unfold dX
 split
 ·omega
 ·split<;>omega
theorem mW {q:Rat} (h:q.num<0):jH q = -1:=by unfold jH;rw[if_neg (by omega),if_pos h]
theorem jJ {q:Rat} (h:q.num=0):jH q=0:=by unfold jH;rw[if_pos h]
theorem nG {q:Rat} (h:0<q.num):jH q=1:=by unfold jH;rw[if_neg (by omega),if_neg (by omega)]
theorem Rv {a b:Rat}:JK a b<0↔a<b:=by
 rw[Rat.lt_iff]
 have hA:(0:Int)<a.den:=by have:=a.den_nz;omega
 have hB:(0:Int)<b.den:=by have:=b.den_nz;omega
 have eA:((a.num.natAbs*b.den:Nat):Int)=(a.num.natAbs:Int)*b.den:=by simp
 have eB:((b.num.natAbs*a.den:Nat):Int)=(b.num.natAbs:Int)*a.den:=by simp
 unfold JK
 rcases Int.lt_trichotomy a.num 0 with h1 | h1 | h1<;>rcases Int.lt_trichotomy b.num 0 with h2 | h2 | h2
 ·rw[mW h1,mW h2,if_pos rfl,if_pos h1]
  have f1:(a.num.natAbs:Int) = -a.num:=by omega
  have f2:(b.num.natAbs:Int) = -b.num:=by omega
  rw[f1,Int.neg_mul] at eA
  rw[f2,Int.neg_mul] at eB
  have := @YA (a.num.natAbs*b.den) (b.num.natAbs*a.den)
  omega
 ·rw[mW h1,jJ h2,if_neg (by decide),h2,Int.zero_mul]
  have:=Int.mul_neg_of_neg_of_pos h1 hB
  omega
 ·rw[mW h1,nG h2,if_neg (by decide)]
  have:=Int.mul_neg_of_neg_of_pos h1 hB
  have:=Int.mul_pos h2 hA
  omega
 ·rw[jJ h1,mW h2,if_neg (by decide),h1,Int.zero_mul]
  have:=Int.mul_neg_of_neg_of_pos h2 hA
  omega
 ·rw[jJ h1,jJ h2,if_pos rfl,h1,h2];simp[dX]
 ·rw[jJ h1,nG h2,if_neg (by decide),h1,Int.zero_mul]
  have:=Int.mul_pos h2 hA
  omega
 ·rw[nG h1,mW h2,if_neg (by decide)]
  have:=Int.mul_neg_of_neg_of_pos h2 hA
  have:=Int.mul_pos h1 hB
  omega
 ·rw[nG h1,jJ h2,if_neg (by decide),h2,Int.zero_mul]
  have:=Int.mul_pos h1 hB
  omega
 ·rw[nG h1,nG h2,if_pos rfl,if_neg (by omega)]
  have f1:(a.num.natAbs:Int)=a.num:=by omega
  have f2:(b.num.natAbs:Int)=b.num:=by omega
  rw[f1] at eA
  rw[f2] at eB
  have := @tO (a.num.natAbs*b.den) (b.num.natAbs*a.den)
  omega
theorem UZ (m n:Nat):dX n m = -dX m n:=by
 rcases Nat.lt_trichotomy m n with h | h | h
 ·rw[dX,dX,if_neg (by omega),if_neg (by omega),if_pos h];rfl
 ·subst h;rw[dX,if_neg (by omega),if_pos rfl];rfl
 ·rw[dX,dX,if_pos h,if_neg (by omega),if_neg (by omega)]
theorem Pl (a b:Rat):JK b a = -JK a b:=by
 unfold JK
 by_cases h:jH a=jH b
 ·have h2:b.num<0↔a.num<0:=by
   rcases Int.lt_trichotomy a.num 0 with h1 | h1 | h1<;>rcases Int.lt_trichotomy b.num 0 with h2 | h2 | h2
   ·simp[h1,h2]
   ·rw[mW h1,jJ h2] at h;omega
   ·rw[mW h1,nG h2] at h;omega
   ·rw[jJ h1,mW h2] at h;omega
   ·omega
   ·rw[jJ h1,nG h2] at h;omega
   ·rw[nG h1,mW h2] at h;omega
   ·rw[nG h1,jJ h2] at h;omega
   ·omega
  rw[if_pos h,if_pos h.symm,UZ]
  by_cases h3:a.num<0
  ·rw[if_pos h3,if_pos (h2.2 h3)]
  ·rw[if_neg h3,if_neg (mt h2.1 h3)]
 ·rw[if_neg h,if_neg (fun h'=>h h'.symm)];omega
theorem YO {a b:Rat}:0<JK a b↔b<a:=by
 rw[←Rv,Pl a b];omega
theorem KY {a b:Rat}:JK a b=0↔a=b:=by
 constructor
 ·intro h
  refine Rat.le_antisymm ?_ ?_
  ·rw[←Rat.not_lt,←YO];omega
  ·rw[←Rat.not_lt,←Rv];omega
 ·rintro rfl
  have:=Pl a a
  omega
theorem zZ {q:Rat}:jH q=0↔q=0:=by
 rw[←Rat.num_eq_zero]
 rcases Int.lt_trichotomy q.num 0 with h | h | h
 ·rw[mW h];omega
 ·rw[jJ h];omega
 ·rw[nG h];omega
end Go.PM
namespace Go.PM
open Go.Lib
def cF (q:Rat):VV := .agg [VB (decide (q.num<0)),bC q.num.natAbs,bC q.den]
theorem eT (q:Rat):aW (cF q)=true:=by simp[cF,aW,aK,bK,lL]
theorem pP (q:Rat):gH (cF q)=true:=by simp[cF,gH,pF,nX,lL]
theorem DS {q:Rat} {neg:Bool} {t b:Nat} (h0:q.num<0↔neg=true) (h1:q.num.natAbs=t) (h2:q.den=b):cF q = .agg [VB neg,bC t,bC b]:=by
 subst h1 h2
 unfold cF
 congr 4
 cases neg<;>simp_all
theorem XY {neg:Bool} {t b:Nat} (hb:b≠0) (ht:t≠0):cF (mkRat (iY neg t) b) = .agg [VB neg,bC (t / Nat.gcd t b),bC (b / Nat.gcd t b)]:=by
 refine DS ?_ ?_ (Mt hb)
 ·rw[C1 hb,Mr]
  have h1:t / Nat.gcd t b≠0:=by
   have:=Nat.div_pos (Nat.le_of_dvd (by omega) (Nat.gcd_dvd_left t b)) (Nat.gcd_pos_of_pos_left b (by omega))
   omega
  simp[h1]
 ·rw[C1 hb,lT]
theorem TF:cF 0 = .agg [VB false,.tree [] .op,bC 1]:=by
 rw[DS (q:=0) (neg:=false) (t:=0) (b:=1) (by simp) rfl rfl,Cb]
theorem aO (n:Nat):cJ (bC n)=true:=rfl
theorem aN (n:Nat):isAny (bC n)=false:=rfl
theorem aG (n:Nat):aA (bC n)=[bC n]:=rfl
theorem bJ (q:Rat):isAny (cF q)=false:=rfl
theorem aE (q:Rat):aA (cF q)=[VB (decide (q.num<0)),bC q.num.natAbs,bC q.den]:=rfl
theorem dM (q:Rat):eX true 3 (cF q) 0=some (cF q):=rfl
theorem kQ (q:Rat):eX false 1 (cF q) 0=some (VB (decide (q.num<0))):=rfl
theorem kU (q:Rat):eX false 1 (cF q) 1=some (bC q.num.natAbs):=rfl
theorem oA (q:Rat):eX false 1 (cF q) 2=some (bC q.den):=rfl
theorem oF {d:Nat} {H:aB} {u u' v v' w w':VV} (h1:fz (d+1) H u=some u') (h2:fz (d+1) H v=some v') (h3:fz (d+1) H w=some w'):fz (d+2) H (.agg [u,v,w])=some (.agg [u',v',w']):=by
 have e:fz (d+2) H (.agg [u,v,w])=if aW (.agg [u,v,w])=true then some (.agg [u,v,w]) else ([u,v,w].mapM (fz (d+1) H)).map .agg:=rfl
 rw[e]
 by_cases hp:aW (.agg [u,v,w])=true
 ·rw[if_pos hp]
  simp only[aW,aK,Bool.and_eq_true,and_true] at hp
  rw[aJ hp.1] at h1
  rw[aJ hp.2.1] at h2
  rw[aJ hp.2.2] at h3
  cases h1
  cases h2
  cases h3
  rfl
 ·rw[if_neg hp,List.mapM_cons,h1,List.mapM_cons,h2,List.mapM_cons,h3]
  rfl
theorem WR {d:Nat} {H:aB} {v:Value} (h:lL v=true):fz (d+1) H (.sc v)=some (.sc v):=aJ h
theorem A3 {H:aB} {neg:Bool} {t b:Nat}:fz depth H (.agg [VB neg,bC t,bC b])=some (.agg [VB neg,bC t,bC b]):=aI (by simp[aW,aK,bK,lL])
theorem rR {H:aB} (q:Rat):fz depth H (cF q)=some (cF q):=aI (eT q)
theorem agR {n:Nat} (h:bl n≤2199023255552):(aC 4294967296 n).length≤68719476736:=by
 have:=Zh n
 omega
theorem eG {n:Nat} (h:bl n≤4398046511104):(aC 4294967296 n).length≤17592186044416:=by
 have:=Zh n
 omega
theorem nT (neg:Bool) (t b:Nat) (hb:b≠0) (ht:bl t≤4398046511104) (sO:bl b≤4398046511104):TC 100 [VB neg,bC t,bC b] (cF (mkRat (iY neg t) b)):=by
 refine TC.walk ⟨true,false⟩ J3 rfl (Nat.le_of_ble_eq_true rfl) (by simp[aK,bK,aW,lL]) (pP _) ?_
 by_cases h0:t=0
 ·subst h0
  have hl:(((aC 4294967296 0).length:Nat):Int)=0:=by rw[bR];rfl
  have c1:TC 101 [.sc (.int .u64 1)] (bC 1):=kZ 1 (by decide)
  rw[vM,Rat.zero_mkRat,TF,←Cb]
  simp only[sK,nS,dB,hl,c1,aO,aN,aG,gG,Nat.reduceLeDiff,Nat.reduceLT,Nat.reduceSub,VX,Nat.reduceEqDiff,Nat.reduceAdd]
  exact oF (WR rfl) tG (aJ (bK _))
 ·have hl:¬(((aC 4294967296 t).length:Nat):Int)=0:=by have:=tH.2 h0;omega
  have c1:=AK t b (eG ht) (eG sO)
  have hg0:Nat.gcd t b≠0:=Nat.gcd_ne_zero_right hb
  have WT:bl (Nat.gcd t b)≤4398046511104:=Nat.le_trans (jM (Nat.gcd_le_right t (by omega))) sO
  have c2:=uH t _ hg0 (eG ht) (eG WT)
  have c3:=uH b _ hg0 (eG sO) (eG WT)
  rw[XY hb h0]
  by_cases h1:((aC 4294967296 (Nat.gcd t b)).length:Int)=1
  ·obtain⟨d,hd⟩:∃d,aC 4294967296 (Nat.gcd t b)=[d]:=List.length_eq_one_iff.1 (by omega)
   obtain⟨Zz,_,_⟩:=NC hd
   have e1:bE 1 (bC (Nat.gcd t b)) (.sc (.int .i64 0)) [.row 0 [.agg [VB false,.tree [] .nil,.tree [] .nil]] 3 true]=some (.cO (uV d) 0):=aP (f:=uV) (xs:=aC 4294967296 (Nat.gcd t b)) (i:=0) (k := .i64) (by rw[hd];rfl) rfl
   by_cases h2:(d:Int)=1
   ·have Za:Nat.gcd t b=1:=by omega
    simp only[sK,nS,dB,hl,c1,h1,h2,e1,aO,aN,aG,gG,Nat.reduceLeDiff,Nat.reduceLT,Nat.reduceSub,VX,Nat.reduceEqDiff,Nat.reduceAdd]
    rw[Za,Nat.div_one,Nat.div_one]
    exact A3
   ·simp only[sK,nS,dB,hl,c1,c2,c3,h1,h2,e1,aO,aN,aG,gG,Nat.reduceLeDiff,Nat.reduceLT,Nat.reduceSub,VX,Nat.reduceEqDiff,Nat.reduceAdd]
    exact A3
  ·simp only[sK,nS,dB,hl,c1,c2,c3,h1,aO,aN,aG,gG,Nat.reduceLeDiff,Nat.reduceLT,Nat.reduceSub,VX,Nat.reduceEqDiff,Nat.reduceAdd]
   exact A3
theorem SH {n:Int} (h0 : -9223372036854775808≤n) (h:n<0):IntKind.u64.wrap (0-IntKind.u64.wrap n)=(n.natAbs:Int):=by
 rw[wrap_u64,wrap_u64]
 omega
theorem E9 (n:Int) (h0 : -9223372036854775808≤n) (h1:n≤9223372036854775807):TC 107 [VI n] (VK .u64 (n.natAbs:Int)):=by
 refine TC.walk ⟨true,false⟩ Ff rfl (Nat.le_of_ble_eq_true rfl) rfl rfl ?_
 by_cases h:n<0
 ·simp only[uT,rJ,h,SH h0 h,VX,Nat.reduceEqDiff,Nat.reduceAdd]
  exact aI rfl
 ·have w:IntKind.u64.wrap n=(n.natAbs:Int):=by rw[wrap_u64];omega
  simp only[uT,rJ,h,w,VX,Nat.reduceEqDiff,Nat.reduceAdd]
  exact aI rfl
theorem VM (n:Int):cF (n:Rat) = .agg [VB (decide (n<0)),bC n.natAbs,bC 1]:=DS (by simp) (by simp) (by simp)
theorem nA (n:Int) (h0 : -9223372036854775808≤n) (h1:n≤9223372036854775807):TC 97 [VI n] (cF (n:Rat)):=by
 refine TC.walk ⟨true,false⟩ MB rfl (Nat.le_of_ble_eq_true rfl) rfl (pP _) ?_
 have c1:=E9 n h0 h1
 have c2:=kZ n.natAbs (by omega)
 have c3:TC 101 [.sc (.int .u64 1)] (bC 1):=kZ 1 (by decide)
 rw[VM]
 simp only[Ix,Es,c1,c2,c3,aO,aN,aG,gG,Nat.reduceLeDiff,Nat.reduceLT,Nat.reduceSub,VX,Nat.reduceEqDiff,Nat.reduceAdd]
 exact A3
theorem RG {q:Rat}:(((aC 4294967296 q.num.natAbs).length:Nat):Int)=0↔q.num=0:=by
 have:=tH (n:=q.num.natAbs)
 omega
theorem gU (q:Rat):TC 104 [cF q] (VI (jH q)):=by
 refine TC.walk ⟨true,false⟩ D0 rfl (Nat.le_of_ble_eq_true rfl) (by simp[aK,eT]) rfl ?_
 unfold jH
 by_cases h0:q.num=0
 ·have hl:=RG.2 h0
  rw[if_pos h0]
  simp only[oD,lW,dB,hl,aE,kQ,kU,aO,aN,aG,gG,Nat.reduceLeDiff,Nat.reduceLT,Nat.reduceSub,VX,Nat.reduceEqDiff,Nat.reduceAdd]
  exact aI rfl
 ·have hl:¬(((aC 4294967296 q.num.natAbs).length:Nat):Int)=0:=fun h=>h0 (RG.1 h)
  rw[if_neg h0]
  by_cases h1:q.num<0
  ·simp only[oD,lW,dB,hl,h1,aE,kQ,kU,aO,aN,aG,gG,Nat.reduceLeDiff,Nat.reduceLT,Nat.reduceSub,VX,Nat.reduceEqDiff,Nat.reduceAdd]
   exact aI rfl
  ·simp only[oD,lW,dB,hl,h1,aE,kQ,kU,aO,aN,aG,gG,Nat.reduceLeDiff,Nat.reduceLT,Nat.reduceSub,VX,Nat.reduceEqDiff,Nat.reduceAdd]
   exact aI rfl
end Go.PM
namespace Go.PM
open Go.Lib
theorem qT (a b:Bool):MF false (.bool a) (.bool b)=some (.bool (a == b)):=by
 show some (Value.bool ((a == b) != false))=_
 rw[Bool.bne_false]
theorem vU (a b:Bool):MF true (.bool a) (.bool b)=some (.bool (a != b)):=by
 show some (Value.bool ((a == b) != true))=_
 cases a<;>cases b<;>rfl
theorem rQ {q:Rat} {k:Nat} (h:cC q≤k):bl q.num.natAbs≤k:=Nat.le_trans rE h
theorem rO {q:Rat} {k:Nat} (h:cC q≤k):bl q.den≤k:=Nat.le_trans oY h
theorem EG {X Y B:Nat} {a b:Rat} (hB:B≠0) (ha:mkRat (iY (decide (a.num<0)) X) B=a) (hb:mkRat (iY (decide (b.num<0)) Y) B=b) :
  ((decide (a.num<0))=(decide (b.num<0))→mkRat (iY (decide (a.num<0)) (X+Y)) B=a+b) ∧
  ((decide (a.num<0))≠(decide (b.num<0))→Y≤X→mkRat (iY (decide (a.num<0)) (X-Y)) B=a+b) ∧
  ((decide (a.num<0))≠(decide (b.num<0))→X≤Y→mkRat (iY (decide (b.num<0)) (Y-X)) B=a+b):=by
 refine⟨fun h => ?_,fun h hx => ?_,fun h hx => ?_⟩
 ·conv=>rhs;rw[←ha,←hb,Bq _ _ hB,←h,MH]
 ·conv=>rhs;rw[←ha,←hb,Bq _ _ hB,Qu h hx]
 ·conv=>rhs;rw[←ha,←hb,Bq _ _ hB,PY h hx]
theorem Bo (a b:Rat) (Oz:cC a≤1099511627776) (Jy:cC b≤1099511627776):TC 99 [cF a,cF b] (cF (a+b)):=by
 refine TC.walk ⟨true,false⟩ Fv rfl (Nat.le_of_ble_eq_true rfl) (by simp[aK,eT]) (pP _) ?_
 have ca:=gU a
 have cb:=gU b
 by_cases WX:a.num=0
 ·have:a=0:=Rat.num_eq_zero.1 WX
  rw[jJ WX] at ca
  rw[this,Rat.zero_add,←this]
  simp only[fH,dK,ca,cb,aE,dM,bJ,aO,aN,aG,gG,Nat.reduceLeDiff,Nat.reduceLT,Nat.reduceSub,VX,Nat.reduceEqDiff,Nat.reduceAdd]
  exact rR _
 have XA:¬jH a=0:=fun h=>WX (Rat.num_eq_zero.2 (zZ.1 h))
 by_cases Uw:b.num=0
 ·have:b=0:=Rat.num_eq_zero.1 Uw
  rw[jJ Uw] at cb
  rw[this,Rat.add_zero,←this]
  simp only[fH,dK,ca,cb,XA,aE,dM,bJ,aO,aN,aG,gG,Nat.reduceLeDiff,Nat.reduceLT,Nat.reduceSub,VX,Nat.reduceEqDiff,Nat.reduceAdd]
  exact rR _
 have Ut:¬jH b=0:=fun h=>Uw (Rat.num_eq_zero.2 (zZ.1 h))
 have la:=rQ Oz
 have lb:=rQ Jy
 have lda:=rO Oz
 have ldb:=rO Jy
 have fin:∀(X Y B:Nat),bl X≤2199023255552→bl Y≤2199023255552→bl B≤2199023255552→B≠0→mkRat (iY (decide (a.num<0)) X) B=a→mkRat (iY (decide (b.num<0)) Y) B=b →
   TC 174 [bC X,bC Y] (bC (X+Y))∧TC 170 [bC X,bC Y] (VI (dX X Y)) ∧
   (Y≤X→TC 181 [bC X,bC Y] (bC (X-Y)))∧(X≤Y→TC 181 [bC Y,bC X] (bC (Y-X))) ∧
   (∀neg,TC 100 [VB neg,bC (X+Y),bC B] (cF (mkRat (iY neg (X+Y)) B))) ∧
   (∀neg,TC 100 [VB neg,bC (X-Y),bC B] (cF (mkRat (iY neg (X-Y)) B))) ∧
   (∀neg,TC 100 [VB neg,bC (Y-X),bC B] (cF (mkRat (iY neg (Y-X)) B))):=by
  intro X Y B hX hY hB hB0 _ _
  refine⟨Bb X Y (eG (by omega)) (eG (by omega)),iP X Y (eG (by omega)) (eG (by omega)),fun h=>AP X Y h (eG (by omega)),fun h=>AP Y X h (eG (by omega)),fun neg=>nT neg _ _ hB0 ?_ (by omega),fun neg=>nT neg _ _ hB0 ?_ (by omega),fun neg=>nT neg _ _ hB0 ?_ (by omega)⟩
  ·exact Nat.le_trans (PK hX hY) (by omega)
  ·exact Nat.le_trans (jM (Nat.sub_le _ _)) (by omega)
  ·exact Nat.le_trans (jM (Nat.sub_le _ _)) (by omega)
 by_cases hd:a.den=b.den
 ·have XG:=a.den_nz
  have cc:=iP a.den b.den (eG (by omega)) (eG (by omega))
  rw[show dX a.den b.den=0 from uA.2 hd] at cc
  have eb:mkRat (iY (decide (b.num<0)) b.num.natAbs) a.den=b:=by rw[hd,Hw]
  obtain⟨f1,f2,f3,f4,f5,f6,f7⟩:=fin a.num.natAbs b.num.natAbs a.den (by omega) (by omega) (by omega) XG (Hw a) eb
  obtain⟨p1,p2,p3⟩:=EG XG (Hw a) eb
  by_cases hn:decide (a.num<0)=decide (b.num<0)
  ·have Ps:(decide (a.num<0) == decide (b.num<0))=true:=by simpa using hn
   rw[←p1 hn]
   simp only[fH,dK,ca,cb,XA,Ut,cc,f1,f5,qT,vU,Ps,aE,dM,kQ,kU,oA,bJ,aO,aN,aG,gG,Nat.reduceLeDiff,Nat.reduceLT,Nat.reduceSub,VX,Nat.reduceEqDiff,Nat.reduceAdd]
   exact rR _
  ·have Ps:(decide (a.num<0) == decide (b.num<0))=false:=by simpa using hn
   by_cases hx:(0:Int)≤dX a.num.natAbs b.num.natAbs
   ·have hle:b.num.natAbs≤a.num.natAbs:=by have := @tO a.num.natAbs b.num.natAbs;omega
    have c3:=f3 hle
    rw[←p2 hn hle]
    simp only[fH,dK,ca,cb,XA,Ut,cc,f2,c3,f6,hx,qT,vU,Ps,aE,dM,kQ,kU,oA,bJ,aO,aN,aG,gG,Nat.reduceLeDiff,Nat.reduceLT,Nat.reduceSub,VX,Nat.reduceEqDiff,Nat.reduceAdd]
    exact rR _
   ·have hle:a.num.natAbs≤b.num.natAbs:=by have := @tO a.num.natAbs b.num.natAbs;omega
    have c3:=f4 hle
    rw[←p3 hn hle]
    simp only[fH,dK,ca,cb,XA,Ut,cc,f2,c3,f7,hx,qT,vU,Ps,aE,dM,kQ,kU,oA,bJ,aO,aN,aG,gG,Nat.reduceLeDiff,Nat.reduceLT,Nat.reduceSub,VX,Nat.reduceEqDiff,Nat.reduceAdd]
    exact rR _
 ·have XG:=Nat.mul_ne_zero a.den_nz b.den_nz
  have cc:=iP a.den b.den (eG (by omega)) (eG (by omega))
  have MT:¬dX a.den b.den=0:=fun h=>hd (uA.1 h)
  have m1:=gJ a.num.natAbs b.den (eG (by omega)) (eG (by omega))
  have m2:=gJ b.num.natAbs a.den (eG (by omega)) (eG (by omega))
  have m3:=gJ a.den b.den (eG (by omega)) (eG (by omega))
  have ea:mkRat (iY (decide (a.num<0)) (a.num.natAbs*b.den)) (a.den*b.den)=a:=B4 a b.den_nz
  have eb:mkRat (iY (decide (b.num<0)) (b.num.natAbs*a.den)) (a.den*b.den)=b:=by rw[Nat.mul_comm a.den];exact B4 b a.den_nz
  have k1:=lP a.num.natAbs b.den
  have k2:=lP b.num.natAbs a.den
  have k3:=lP a.den b.den
  obtain⟨f1,f2,f3,f4,f5,f6,f7⟩:=fin _ _ _ (by omega) (by omega) (by omega) XG ea eb
  obtain⟨p1,p2,p3⟩:=EG XG ea eb
  by_cases hn:decide (a.num<0)=decide (b.num<0)
  ·have Ps:(decide (a.num<0) == decide (b.num<0))=true:=by simpa using hn
   rw[←p1 hn]
   simp only[fH,dK,ca,cb,XA,Ut,cc,MT,m1,m2,m3,f1,f5,qT,vU,Ps,aE,dM,kQ,kU,oA,bJ,aO,aN,aG,gG,Nat.reduceLeDiff,Nat.reduceLT,Nat.reduceSub,VX,Nat.reduceEqDiff,Nat.reduceAdd]
   exact rR _
  ·have Ps:(decide (a.num<0) == decide (b.num<0))=false:=by simpa using hn
   by_cases hx:(0:Int)≤dX (a.num.natAbs*b.den) (b.num.natAbs*a.den)
   ·have hle:b.num.natAbs*a.den≤a.num.natAbs*b.den:=by have := @tO (a.num.natAbs*b.den) (b.num.natAbs*a.den);omega
    have c3:=f3 hle
    rw[←p2 hn hle]
    simp only[fH,dK,ca,cb,XA,Ut,cc,MT,m1,m2,m3,f2,c3,f6,hx,qT,vU,Ps,aE,dM,kQ,kU,oA,bJ,aO,aN,aG,gG,Nat.reduceLeDiff,Nat.reduceLT,Nat.reduceSub,VX,Nat.reduceEqDiff,Nat.reduceAdd]
    exact rR _
   ·have hle:a.num.natAbs*b.den≤b.num.natAbs*a.den:=by have := @tO (a.num.natAbs*b.den) (b.num.natAbs*a.den);omega
    have c3:=f4 hle
    rw[←p3 hn hle]
    simp only[fH,dK,ca,cb,XA,Ut,cc,MT,m1,m2,m3,f2,c3,f7,hx,qT,vU,Ps,aE,dM,kQ,kU,oA,bJ,aO,aN,aG,gG,Nat.reduceLeDiff,Nat.reduceLT,Nat.reduceSub,VX,Nat.reduceEqDiff,Nat.reduceAdd]
    exact rR _
theorem AS (a b:Rat) (Oz:cC a≤1099511627776) (Jy:cC b≤1099511627776):TC 96 [cF a,cF b] (cF (a*b)):=by
 refine TC.walk ⟨true,false⟩ E7 rfl (Nat.le_of_ble_eq_true rfl) (by simp[aK,eT]) (pP _) ?_
 have ca:=gU a
 have cb:=gU b
 have c0:TC 97 [VI 0] (cF 0):=nA 0 (by decide) (by decide)
 by_cases WX:a.num=0
 ·have:a=0:=Rat.num_eq_zero.1 WX
  rw[jJ WX] at ca
  rw[show a*b=0 by rw[this,Rat.zero_mul]]
  simp only[qE,nB,ca,cb,c0,aE,dM,bJ,aO,aN,aG,gG,Nat.reduceLeDiff,Nat.reduceLT,Nat.reduceSub,VX,Nat.reduceEqDiff,Nat.reduceAdd]
  exact rR _
 have XA:¬jH a=0:=fun h=>WX (Rat.num_eq_zero.2 (zZ.1 h))
 by_cases Uw:b.num=0
 ·have:b=0:=Rat.num_eq_zero.1 Uw
  rw[jJ Uw] at cb
  rw[show a*b=0 by rw[this,Rat.mul_zero]]
  simp only[qE,nB,ca,cb,XA,c0,aE,dM,bJ,aO,aN,aG,gG,Nat.reduceLeDiff,Nat.reduceLT,Nat.reduceSub,VX,Nat.reduceEqDiff,Nat.reduceAdd]
  exact rR _
 have Ut:¬jH b=0:=fun h=>Uw (Rat.num_eq_zero.2 (zZ.1 h))
 have la:=rQ Oz
 have lb:=rQ Jy
 have lda:=rO Oz
 have ldb:=rO Jy
 have l1:=nT false a.num.natAbs b.den b.den_nz (by omega) (by omega)
 have l2:=nT false b.num.natAbs a.den a.den_nz (by omega) (by omega)
 obtain⟨d1,d2⟩:=Aa a.num.natAbs b.den_nz
 obtain⟨d3,d4⟩:=Aa b.num.natAbs a.den_nz
 have b1:=jM (Nat.le_of_dvd (by omega) d1)
 have b2:=jM (Nat.le_of_dvd (Nat.pos_of_ne_zero b.den_nz) d2)
 have b3:=jM (Nat.le_of_dvd (by omega) d3)
 have b4:=jM (Nat.le_of_dvd (Nat.pos_of_ne_zero a.den_nz) d4)
 obtain⟨e1,e2⟩:=Ua a b
 have e3:=OB WX Uw
 generalize mkRat (iY false a.num.natAbs) b.den=u at *
 generalize mkRat (iY false b.num.natAbs) a.den=v at *
 have m1:=gJ u.num.natAbs v.num.natAbs (eG (by omega)) (eG (by omega))
 have m2:=gJ u.den v.den (eG (by omega)) (eG (by omega))
 rw[DS e3 e1 e2]
 simp only[qE,nB,ca,cb,XA,Ut,l1,l2,m1,m2,qT,vU,aE,dM,kQ,kU,oA,bJ,aO,aN,aG,gG,Nat.reduceLeDiff,Nat.reduceLT,Nat.reduceSub,VX,Nat.reduceEqDiff,Nat.reduceAdd]
 exact A3
theorem Gi (q:Rat) : -1≤jH q∧jH q≤1:=by
 rcases Int.lt_trichotomy q.num 0 with h | h | h
 ·rw[mW h];omega
 ·rw[jJ h];omega
 ·rw[nG h];omega
theorem Qb (m n:Nat) : -1≤dX m n∧dX m n≤1:=by
 rcases Nat.lt_trichotomy m n with h | h | h
 ·rw[dX,if_pos h];omega
 ·subst h;rw[dX,if_neg (by omega),if_pos rfl];omega
 ·rw[dX,if_neg (by omega),if_neg (by omega)];omega
theorem HZ (a b:Rat) (Oz:cC a≤1099511627776) (Jy:cC b≤1099511627776):TC 206 [cF a,cF b] (VI (JK a b)):=by
 refine TC.walk ⟨true,false⟩ FB rfl (Nat.le_of_ble_eq_true rfl) (by simp[aK,eT]) rfl ?_
 have ca:=gU a
 have cb:=gU b
 have la:=rQ Oz
 have lb:=rQ Jy
 have lda:=rO Oz
 have ldb:=rO Jy
 have k1:=lP a.num.natAbs b.den
 have k2:=lP b.num.natAbs a.den
 have m1:=gJ a.num.natAbs b.den (eG (by omega)) (eG (by omega))
 have m2:=gJ b.num.natAbs a.den (eG (by omega)) (eG (by omega))
 have c1:=iP (a.num.natAbs*b.den) (b.num.natAbs*a.den) (eG (by omega)) (eG (by omega))
 have ra:=Gi a
 have rb:=Gi b
 have rc:=Qb (a.num.natAbs*b.den) (b.num.natAbs*a.den)
 unfold JK
 by_cases hs:jH a=jH b
 ·rw[if_pos hs]
  have w:IntKind.i64.wrap (0-dX (a.num.natAbs*b.den) (b.num.natAbs*a.den)) = -dX (a.num.natAbs*b.den) (b.num.natAbs*a.den):=by rw[wrap64 (by omega) (by omega)];omega
  by_cases hn:a.num<0
  ·rw[if_pos hn]
   simp only[qG,mZ,ca,cb,hs,m1,m2,c1,hn,w,aE,dM,kQ,kU,oA,bJ,aO,aN,aG,gG,Nat.reduceLeDiff,Nat.reduceLT,Nat.reduceSub,VX,Nat.reduceEqDiff,Nat.reduceAdd]
   exact aI rfl
  ·rw[if_neg hn]
   simp only[qG,mZ,ca,cb,hs,m1,m2,c1,hn,aE,dM,kQ,kU,oA,bJ,aO,aN,aG,gG,Nat.reduceLeDiff,Nat.reduceLT,Nat.reduceSub,VX,Nat.reduceEqDiff,Nat.reduceAdd]
   exact aI rfl
 ·rw[if_neg hs]
  have w:IntKind.i64.wrap (jH a-jH b)=jH a-jH b:=wrap64 (by omega) (by omega)
  simp only[qG,mZ,ca,cb,hs,w,aE,dM,kQ,kU,oA,bJ,aO,aN,aG,gG,Nat.reduceLeDiff,Nat.reduceLT,Nat.reduceSub,VX,Nat.reduceEqDiff,Nat.reduceAdd]
  exact aI rfl
theorem FD (a:Rat) (Oz:cC a≤1099511627776):TC 196 [cF a] (VB (decide (a=1))):=by
 refine TC.walk ⟨true,false⟩ C8 rfl (Nat.le_of_ble_eq_true rfl) (by simp[aK,eT]) rfl ?_
 have c1:=HZ a 1 Oz (by rw[EN];decide)
 have c2:TC 97 [VI 1] (cF 1):=nA 1 (by decide) (by decide)
 by_cases h:JK a 1=0
 ·rw[decide_eq_true (KY.1 h)]
  simp only[qZ,oQ,c1,c2,h,aE,dM,bJ,aO,aN,aG,gG,Nat.reduceLeDiff,Nat.reduceLT,Nat.reduceSub,VX,Nat.reduceEqDiff,Nat.reduceAdd]
  exact aI rfl
 ·rw[decide_eq_false (mt KY.2 h)]
  simp only[qZ,oQ,c1,c2,h,aE,dM,bJ,aO,aN,aG,gG,Nat.reduceLeDiff,Nat.reduceLT,Nat.reduceSub,VX,Nat.reduceEqDiff,Nat.reduceAdd]
  exact aI rfl
end Go.PM
namespace Go.PM
open Go.Lib
theorem XU {m n:Nat} (h:decDigits m=decDigits n):m=n:=by
 have key:∀k m n:Nat,m<10^(k+1)→decDigits m=decDigits n→m=n:=by
  intro k
  induction k with
  |
   zero =>
   intro m n hm h
   rw[gN (by omega)] at h
   by_cases hn:n<10
   ·rw[gN hn] at h
    have h1:=List.singleton_inj.1 h
    unfold d10 at h1
    have:=congrArg UInt8.toNat h1
    simp at this
    omega
   ·rw[wS hn] at h
    have:=congrArg List.length h
    have h2:=List.length_pos_iff.2 (Mf (n / 10))
    simp only[List.length_append,List.length_cons,List.length_nil] at this
    omega
  |
   succ k ih =>
   intro m n hm h
   by_cases h1:m<10
   ·rw[gN h1] at h
    by_cases hn:n<10
    ·rw[gN hn] at h
     have h1:=List.singleton_inj.1 h
     unfold d10 at h1
     have:=congrArg UInt8.toNat h1
     simp at this
     omega
    ·rw[wS hn] at h
     have:=congrArg List.length h
     have h2:=List.length_pos_iff.2 (Mf (n / 10))
     simp only[List.length_append,List.length_cons,List.length_nil] at this
     omega
   ·rw[wS h1] at h
    by_cases hn:n<10
    ·rw[gN hn] at h
     have:=congrArg List.length h
     have h2:=List.length_pos_iff.2 (Mf (m / 10))
     simp only[List.length_append,List.length_cons,List.length_nil] at this
     omega
    ·rw[wS hn] at h
     obtain⟨h2,h3⟩:=List.append_inj' h rfl
     have h4:=ih (m / 10) (n / 10) (by rw[Nat.pow_succ] at hm;omega) h2
     have h5:=List.singleton_inj.1 h3
     unfold d10 at h5
     have:=congrArg UInt8.toNat h5
     simp at this
     omega
 exact key m m n (Nat.lt_trans (Nat.lt_pow_self (by decide)) (Nat.pow_lt_pow_right (by decide) (Nat.lt_succ_self m))) h
def IB (q:Rat):List UInt8:=(if q.num<0 then [45] else [])++decDigits q.num.natAbs++(if q.den=1 then [] else 47::decDigits q.den)
def BK (q:Rat):Bool:=decide ((decDigits q.num.natAbs).length≤200)&&decide ((decDigits q.den).length≤200)
theorem yB (n:Nat):(decDigits n).length≤bl n+1:=by
 by_cases h:n=0
 ·subst h;rw[gN (by decide)];simp
 ·have h1:=WQ h
  obtain⟨k,hk⟩:∃k,bl n=k+1:=⟨bl n-1,by omega⟩
  have h2:=KN n
  rw[hk] at h2 ⊢
  have h3:2^(k+1)≤10^(k+1):=Nat.pow_le_pow_left (by decide) _
  have:=zM n k (by omega)
  omega
end Go.PM
namespace Go.PM
open Go.Lib
theorem Mz (a b:List UInt8):cU .neq (.string ⟨a.toArray⟩) (.string ⟨b.toArray⟩)=some (.bool (!decide (a=b))):=by
 have h:∀l:List UInt8,(ByteArray.toList ⟨l.toArray⟩)=l:=fun l=>by rw[ByteArray.toList_eq]
 show some (Value.bool (!(ByteArray.toList ⟨a.toArray⟩ == ByteArray.toList ⟨b.toArray⟩)))=_
 rw[h,h]
 congr 3
 cases h2:a == b
 ·rw[decide_eq_false (by simpa using h2)]
 ·rw[decide_eq_true (by simpa using h2)]
theorem R2 (a b:List UInt8):cU .eql (.string ⟨a.toArray⟩) (.string ⟨b.toArray⟩)=some (.bool (decide (a=b))):=by
 have h:∀l:List UInt8,(ByteArray.toList ⟨l.toArray⟩)=l:=fun l=>by rw[ByteArray.toList_eq]
 show some (Value.bool (ByteArray.toList ⟨a.toArray⟩ == ByteArray.toList ⟨b.toArray⟩))=_
 rw[h,h]
 congr 2
 cases h2:a == b
 ·rw[decide_eq_false (by simpa using h2)]
 ·rw[decide_eq_true (by simpa using h2)]
theorem Jg {n:Nat}:(decDigits n=[49])↔n=1:=by
 have e:decDigits 1=[49]:=by rw[gN (by decide)];rfl
 rw[←e]
 exact⟨XU,fun h=>by rw[h]⟩
theorem G4 (q:Rat) (hk:cC q≤1099511627776):TC 172 [cF q] (.eK [aR (IB q),VB (BK q)]):=by
 refine TC.walk ⟨true,false⟩ EA rfl (Nat.le_of_ble_eq_true rfl) (by simp[aK,eT]) rfl ?_
 have la:=rQ hk
 have lb:=rO hk
 have t1:=Al q.num.natAbs (agR (by omega))
 have t2:=Al q.den (agR (by omega))
 have d1:=yB q.num.natAbs
 have d2:=yB q.den
 have a1:cU .add (.string ⟨#[45]⟩) (.string ⟨(decDigits q.num.natAbs).toArray⟩)=some (.string ⟨(45::decDigits q.num.natAbs).toArray⟩):=rZ [45] _ (by simp only[List.length_cons,List.length_nil];omega)
 have a2:cU .add (.string ⟨#[47]⟩) (.string ⟨(decDigits q.den).toArray⟩)=some (.string ⟨(47::decDigits q.den).toArray⟩):=rZ [47] (decDigits q.den) (by simp only[List.length_cons,List.length_nil];omega)
 have a3:=rZ (45::decDigits q.num.natAbs) (47::decDigits q.den) (by simp only[List.length_cons];omega)
 have a4:=rZ (decDigits q.num.natAbs) (47::decDigits q.den) (by simp only[List.length_cons];omega)
 have ne:cU .neq (.string ⟨(decDigits q.den).toArray⟩) (.string ⟨#[49]⟩)=_:=Mz (decDigits q.den) [49]
 have hf:BK q=(decide (((decDigits q.num.natAbs).length:Int)≤200)&&decide (((decDigits q.den).length:Int)≤200)):=by
  unfold BK
  congr 1<;>exact decide_eq_decide.2 (by omega)
 rw[hf]
 have hs:IB q=(if q.num<0 then (45::decDigits q.num.natAbs) else decDigits q.num.natAbs)++(if q.den=1 then [] else 47::decDigits q.den):=by
  unfold IB
  by_cases hn:q.num<0
  ·rw[if_pos hn,if_pos hn];rfl
  ·rw[if_neg hn,if_neg hn];rfl
 rw[hs]
 by_cases hd:q.den=1
 ·rw[decide_eq_true (Jg.2 hd)] at ne
  rw[if_pos hd,List.append_nil]
  by_cases hn:q.num<0<;>by_cases hl:((decDigits q.num.natAbs).length:Int)≤200
  all_goals
   simp only[sS,qK,t1,t2,a1,a2,a3,a4,ne,hn,hl,aZ,aE,dM,kQ,kU,oA,bJ,aO,aN,aG,gG,Nat.reduceLeDiff,Nat.reduceLT,Nat.reduceSub,VX,Nat.reduceEqDiff,Nat.reduceAdd]
   exact aI rfl
 ·rw[decide_eq_false (mt Jg.1 hd)] at ne
  rw[if_neg hd]
  by_cases hn:q.num<0<;>by_cases hl:((decDigits q.num.natAbs).length:Int)≤200
  all_goals
   simp only[sS,qK,t1,t2,a1,a2,a3,a4,ne,hn,hl,aZ,aE,dM,kQ,kU,oA,bJ,aO,aN,aG,gG,Nat.reduceLeDiff,Nat.reduceLT,Nat.reduceSub,VX,Nat.reduceEqDiff,Nat.reduceAdd]
   exact aI rfl
def Ew (q:Rat):VV:=if BK q=true then .eK [aR (IB q),VB true] else .eK [aR [],VB false]
theorem Ft (q:Rat):gH (Ew q)=true:=by unfold Ew;split<;>rfl
theorem Oc (q:Rat) (hk:cC q≤1099511627776):TC 90 [cF q] (Ew q):=by
 refine TC.walk ⟨true,false⟩ OY rfl (Nat.le_of_ble_eq_true rfl) (by simp[aK,eT]) (Ft q) ?_
 have t1:=G4 q hk
 unfold Ew
 by_cases h:BK q=true
 ·rw[h] at t1
  rw[if_pos h]
  simp only[FF,Bh,t1,aE,dM,bJ,aO,aN,aG,gG,Nat.reduceLeDiff,Nat.reduceLT,Nat.reduceSub,VX,Nat.reduceEqDiff,Nat.reduceAdd]
  exact aI rfl
 ·have h':BK q=false:=by simpa using h
  rw[h'] at t1
  rw[if_neg h]
  simp only[FF,Bh,t1,aE,dM,bJ,aO,aN,aG,gG,Nat.reduceLeDiff,Nat.reduceLT,Nat.reduceSub,VX,Nat.reduceEqDiff,Nat.reduceAdd]
  exact aI rfl
end Go.PM
namespace Go.PM
open Go.Lib
def gK (c:UInt8):Bool:=decide (48≤c.toNat)&&decide (c.toNat≤57)
def dv (c:UInt8):Nat:=c.toNat-48
def HY (a:Nat) (l:List UInt8):Nat:=l.foldl (fun a c=>a*10+dv c) a
def bM (l:List UInt8):Nat:=HY 0 l
theorem R5 (l:List UInt8):∀a,HY a l=a*10^l.length+bM l:=by
 induction l with
 | nil=>intro a;simp[HY,bM]
 |
  cons c l ih =>
  intro a
  have h1:HY a (c::l)=HY (a*10+dv c) l:=rfl
  have h2:bM (c::l)=HY (0*10+dv c) l:=rfl
  rw[h1,h2,ih,ih (0*10+dv c),List.length_cons,Nat.pow_succ]
  grind
theorem HK (a b:List UInt8):bM (a++b)=bM a*10^b.length+bM b:=by
 have:bM (a++b)=HY (bM a) b:=by unfold bM HY;rw[List.foldl_append]
 rw[this,R5]
theorem It:bM []=0:=rfl
theorem TO (a:List UInt8) (c:UInt8):bM (a++[c])=bM a*10+dv c:=by
 rw[HK]
 simp[bM,HY]
theorem ZL {c:UInt8} (h:gK c=true):dv c<10:=by
 simp only[gK,Bool.and_eq_true,decide_eq_true_eq] at h
 unfold dv
 omega
theorem Eo:∀ {l:List UInt8},l.all gK=true→bM l<10^l.length:=by
 intro l
 induction l with
 | nil=>intro _;decide
 |
  cons c l ih =>
  intro h
  rw[List.all_cons,Bool.and_eq_true] at h
  have h1:=ZL h.1
  have h2:=ih h.2
  have h3:bM (c::l)=HY (0*10+dv c) l:=rfl
  rw[h3,R5,List.length_cons,Nat.pow_succ]
  have h4:(0*10+dv c)*10^l.length≤9*10^l.length:=Nat.mul_le_mul_right _ (by omega)
  omega
theorem abR {M:Nat} (hM:1000000000000000000≤M):∀(l:List UInt8) (k acc:Nat),l.all gK=true→acc<10^k→k+l.length≤18→parseUintM M acc l = .ok (HY acc l):=by
 intro l
 induction l with
 | nil=>intro k acc _ _ _;rfl
 |
  cons c l ih =>
  intro k acc h hk hl
  rw[List.all_cons,Bool.and_eq_true] at h
  have h1:=ZL h.1
  have h0:=h.1
  simp only[gK,Bool.and_eq_true,decide_eq_true_eq] at h0
  rw[List.length_cons] at hl
  have h18:acc<10^17:=Nat.lt_of_lt_of_le hk (Nat.pow_le_pow_right (by decide) (by omega))
  have e17:(10:Nat)^17=100000000000000000:=by decide
  rw[e17] at h18
  have hd:c.toNat-48=dv c:=rfl
  rw[parseUintM,if_pos h0,if_neg (by omega),hd,if_neg (by omega),ih (k+1) _ h.2 (by rw[Nat.pow_succ];omega) (by omega)]
  rfl
theorem aaX {l:List UInt8} (h:l.all gK=true) (h0:l≠[]) (hl:l.length≤18):parseUintB 64 l = .ok (bM l):=by
 unfold parseUintB
 rw[if_neg h0]
 exact abR (by decide) l 0 0 h (by decide) (by omega)
def gC (l:List UInt8):Bool:=l.all gK&&decide (1≤l.length)&&decide (l.length≤200)&&(decide (l.length=1) || !decide (l.getD 0 0=48))
theorem iL {l:List UInt8}:gC l=true↔l.all gK=true∧1≤l.length∧l.length≤200∧(l.length=1∨l.getD 0 0≠48):=by
 unfold gC
 simp only[Bool.and_eq_true,Bool.or_eq_true,Bool.not_eq_true',decide_eq_true_eq,decide_eq_false_iff_not,ne_eq,and_assoc]
theorem uD {l:List UInt8} (h:gC l=true):bl (bM l)≤665:=by
 obtain⟨h1,h2,h3,_⟩:=iL.1 h
 refine Cv (Nat.lt_of_lt_of_le (Eo h1) ?_)
 exact Nat.le_trans (Nat.pow_le_pow_right (by decide) h3) (by decide +kernel)
def kH (c:UInt8):List UInt8→List UInt8×Option (List UInt8)
 | []=>([],none)
 | x::r=>if x=c then ([],some r) else (x::(kH c r).1,(kH c r).2)
theorem yR {c:UInt8}:∀ {l:List UInt8},(kH c l).2=none→indexByte l c = -1∧(kH c l).1=l∧c∉l:=by
 intro l
 induction l with
 | nil=>intro _;exact⟨rfl,rfl,by simp⟩
 |
  cons x l ih =>
  intro h
  unfold kH at h ⊢
  by_cases hx:x=c
  ·rw[if_pos hx] at h
   cases h
  ·rw[if_neg hx] at h ⊢
   obtain⟨h1,h2,h3⟩:=ih h
   refine⟨?_,by rw[h2],?_⟩
   ·rw[indexByte,if_neg (by simpa using hx),h1]
    rfl
   ·rw[List.mem_cons,not_or]
    exact⟨fun h=>hx h.symm,h3⟩
theorem EO {c:UInt8}:∀ {l r:List UInt8},(kH c l).2=some r→indexByte l c=((kH c l).1.length:Int)∧l=(kH c l).1++c::r∧c∉(kH c l).1:=by
 intro l
 induction l with
 | nil=>intro r h;cases h
 |
  cons x l ih =>
  intro r h
  unfold kH at h ⊢
  by_cases hx:x=c
  ·rw[if_pos hx] at h ⊢
   cases h
   subst hx
   refine⟨?_,rfl,by simp⟩
   rw[indexByte,if_pos (by simp)]
   rfl
  ·rw[if_neg hx] at h ⊢
   obtain⟨h1,h2,h3⟩:=ih h
   refine⟨?_,?_,?_⟩
   ·rw[indexByte,if_neg (by simpa using hx),h1,if_neg]
    ·simp
    ·simp
   ·conv=>lhs;rw[h2]
    rfl
   ·rw[List.mem_cons,not_or]
    exact⟨fun h=>hx h.symm,h3⟩
def mE (neg:Bool) (d:List UInt8) (s:Option (List UInt8)):Option Rat :=
 if gC d=false∨(neg=true∧bM d=0) then none else
 match s with
 | none=>some (mkRat (iY neg (bM d)) 1)
 | some t=>if gC t=true∧1<bM t∧Nat.gcd (bM d) (bM t)=1 then some (mkRat (iY neg (bM d)) (bM t)) else none
def isNeg (l:List UInt8):Bool:=decide (1≤l.length)&&decide (l.getD 0 0=45)
def uE (l:List UInt8):Option Rat:=mE (isNeg l) ((kH 47 (if isNeg l then l.drop 1 else l)).1) ((kH 47 (if isNeg l then l.drop 1 else l)).2)
theorem QA {neg:Bool} {d:List UInt8} {s:Option (List UInt8)} {q:Rat} (h:mE neg d s=some q):gC d=true∧¬(neg=true∧bM d=0)∧((s=none∧q=mkRat (iY neg (bM d)) 1)∨∃t,s=some t∧gC t=true∧1<bM t∧Nat.gcd (bM d) (bM t)=1∧q=mkRat (iY neg (bM d)) (bM t)):=by
 unfold mE at h
 split at h
 ·cases h
 ·rename_i hc
  rw[not_or] at hc
  refine⟨by simpa using hc.1,hc.2,?_⟩
  split at h
  ·exact .inl ⟨rfl,(Option.some.inj h).symm⟩
  ·rename_i t
   split at h
   ·rename_i ht
    exact .inr ⟨t,rfl,ht.1,ht.2.1,ht.2.2,(Option.some.inj h).symm⟩
   ·cases h
theorem Nc {neg:Bool} {d:List UInt8} {s:Option (List UInt8)} {q:Rat} (h:mE neg d s=some q):cC q≤665:=by
 obtain⟨h1,_,h3⟩:=QA h
 have hb:=uD h1
 rcases h3 with⟨_,rfl⟩ | ⟨t,_,h4,h5,_,rfl⟩
 ·exact D9 (by rw[lT];exact hb) (Cv (by decide +kernel)) (by decide)
 ·exact D9 (by rw[lT];exact hb) (uD h4) (by omega)
theorem QQ {l:List UInt8} {q:Rat} (h:uE l=some q):cC q≤665:=Nc h
theorem Gz {neg:Bool} {t b:Nat} (hb:b≠0) (hg:Nat.gcd t b=1):(mkRat (iY neg t) b).num=iY neg t∧(mkRat (iY neg t) b).den=b:=by
 rw[C1 hb,Mt hb,hg,Nat.div_one,Nat.div_one]
 exact⟨rfl,rfl⟩
theorem Ds {c:UInt8} {l:List UInt8}:isNeg (c::l)=decide (c=45):=by simp[isNeg]
theorem WI {l:List UInt8} (h:l.all gK=true):(47:UInt8)∉l:=by
 intro hm
 have:=List.all_eq_true.1 h _ hm
 exact absurd this (by decide)
end Go.PM