/- Texts of a claim, in one: part 8. -/
import Derived.Test.YtjmflicajplclaaGreatDoorKAg
open And renaming intro → aMk
open Int renaming natCast_add → aMP,natCast_zero → aMJ,tdiv_eq_ediv_of_nonneg → aMF,tmod_eq_emod_of_nonneg → aMG,toNat_natCast → aL0
open List renaming append_assoc → aMq,append_nil → aLM,drop_eq_getElem_cons → aKJ,drop_length → aMO,drop_of_length_le → aMx,drop_replicate → aMZ,drop_zero → aLQ,getD_eq_getElem?_getD → aKB,getElem?_eq_getElem → aKL,getElem?_eq_none → aK4,getElem?_eq_none_iff → aMV,getElem?_eq_some_iff → aKD,getElem?_set_ne → aK3,length_append → aKP,length_cons → aKO,length_eq_zero_iff → aMM,length_nil → aMh,length_replicate → aMt,length_set → aMC,length_singleton → aMT,length_take → aMd,map_append → aM1,mem_of_getElem? → aLy,mem_of_mem_take → aLB,replicate → aLu,take_append_drop → aLN,take_left' → aM2,take_length → aLR,take_of_length_le → aLx,take_replicate → aMW
open Nat renaming add_mul → aK9,add_zero → aML,div_div_eq_div_mul → aMR,div_eq_of_lt → aMb,div_lt_iff_lt_mul → aM0,div_lt_of_lt_mul → aMY,eq_zero_or_pos → aMI,le_of_ble_eq_true → aMs,le_refl → aKE,lt_or_ge → aKH,mod_add_div → aMN,mod_eq_of_lt → aL8,mod_lt → aK6,mul_assoc → aMU,mul_comm → aL6,mul_le_mul → aMX,mul_le_mul_right → aK5,mul_zero → aMK,pow_add → aMS,pow_le_pow_right → aMH,pow_succ → aL5,pow_zero → aMQ,zero_add → aMc,zero_le → aK8
set_option linter.unusedSimpArgs false
set_option linter.unusedVariables false
namespace Go.PM
abbrev uV (d:Nat):VV := .sc (.int .u32 (d:Int))
abbrev Dw (ds:List Nat):VV:=aC uV ds
def bR (n:Nat):VV:=Dw (aD 4294967296 n)
theorem YW:∀d:Nat,(aB (uV d)).length=1:=fun _=>rfl
theorem afE (ds:List Nat):aY (Dw ds)=true:=mR YW fun _=>rfl
theorem amM (ds:List Nat):gU (Dw ds)=true:=Aa YW (fun _=>rfl) fun _=>rfl
theorem bU (n:Nat):aY (bR n)=true:=afE _
theorem uA (n:Nat):gU (bR n)=true:=amM _
theorem GZ:bR 0 = .tree [] .op:=by rw[bR,cE];rfl
theorem ZZ (a b:Nat) (ha:a<18446744073709551616) (hb:0<b):dK .quo (.int .u64 (a:Int)) (.int .u64 (b:Int))=some (.int .u64 ((a / b:Nat):Int)):=by
 have h1:¬((b:Int)=0):=by omega
 have h2:(a:Int).tdiv (b:Int)=((a / b:Nat):Int):=by rw[aMF (by omega)];simp
 have h3:a / b≤a:=Nat.div_le_self _ _
 simp only[dK,if_true,h1,if_false,h2]
 rw[eT _ (by omega)]
theorem S6 (a b:Nat) (hb:0<b):dK .rem (.int .u64 (a:Int)) (.int .u64 (b:Int))=some (.int .u64 ((a % b:Nat):Int)):=by
 have h1:¬((b:Int)=0):=by omega
 have h2:(a:Int).tmod (b:Int)=((a % b:Nat):Int):=by rw[aMG (by omega)];simp
 simp only[dK,if_true,h1,if_false,h2]
theorem azW (n s:Nat) (hn:n<4294967296) (hs:s≤31):dK .shl (.int .u64 (n:Int)) (.int .i64 (s:Int))=some (.int .u64 ((n*2^s:Nat):Int)):=by
 have h1:¬((s:Int)<0):=by omega
 have h2:Nat.min (Int.toNat (s:Int)) IntKind.u64.bits=s:=by
  rw[aL0]
  exact Nat.min_eq_left (by show s≤64;omega)
 have h3:2^s≤2^31:=aMH (by decide) hs
 have h4:n*2^s≤n*2^31:=Nat.mul_le_mul_left _ h3
 simp only[dK,h1,if_false,h2]
 congr 2
 have e:(n:Int)*2^s=((n*2^s:Nat):Int):=by simp
 rw[e]
 exact eT _ (by omega)
theorem amD (n s:Nat) (hs:s≤31):dK .shr (.int .u64 (n:Int)) (.int .i64 (s:Int))=some (.int .u64 ((n / 2^s:Nat):Int)):=by
 have h1:¬((s:Int)<0):=by omega
 have h2:Nat.min (Int.toNat (s:Int)) IntKind.u64.bits=s:=by
  rw[aL0]
  exact Nat.min_eq_left (by show s≤64;omega)
 simp only[dK,h1,if_false,h2]
 congr 2
 rw[Int.fdiv_eq_ediv_of_nonneg _ (by exact Int.le_of_lt (Int.pow_pos (by decide)))]
 simp
theorem awX (a m s:Nat) (ha:a<2^s) (hm:m*2^s+a<4294967296):dK .or (.int .u32 (a:Int)) (.int .u32 ((m*2^s:Nat):Int))=some (.int .u32 ((a+m*2^s:Nat):Int)):=by
 have e:a ||| (m*2^s)=a+m*2^s:=by
  have:=Nat.shiftLeft_add_eq_or_of_lt ha m
  rw[Nat.shiftLeft_eq] at this
  rw[Nat.or_comm,←this,Nat.add_comm]
 have e1:(BitVec.ofInt IntKind.u32.bits (a:Int) ||| BitVec.ofInt IntKind.u32.bits ((m*2^s:Nat):Int)).toNat=a+m*2^s:=by
  show (BitVec.ofInt 32 (a:Int) ||| BitVec.ofInt 32 ((m*2^s:Nat):Int)).toNat=a+m*2^s
  rw[BitVec.toNat_or,BitVec.ofInt_natCast,BitVec.ofInt_natCast,BitVec.toNat_ofNat,BitVec.toNat_ofNat,aL8 (by omega),aL8 (by omega),e]
 simp only[dK,if_true,e1]
 rw[wrap32,aL8 (by omega)]
section
variable {rows:List Nat} {b g c n e:Nat} {w:Bool} {H:aA}
theorem NN {m d:Nat} (hr:aG H b g=some (rows.map uV,1,w)) (hn:n≤rows.length) (hc:n≤c) (he:rows.take n=aD 4294967296 m):fz (d+2) H (.ref b g 0 n c)=some (bR m):=by
 have:aY (.ref b g 0 n c)=false:=rfl
 unfold fz
 simp only[this,hr,Bool.false_eq_true,if_false]
 have BY:aO ((rows.map uV).take n)=true:=by rw[←List.map_take];exact fN fun _=>rfl
 rw[if_pos ⟨by simpa using hn,hc⟩,aLQ,mapM_pure BY,←List.map_take,he]
 rfl
theorem SP {m:Nat} (hr:aG H b g=some (rows.map uV,1,w)) (hn:n≤rows.length) (hc:n≤c) (he:rows.take n=aD 4294967296 m):fz depth H (.ref b g 0 n c)=some (bR m):=NN (d:=6) hr hn hc he
theorem bN {d:Nat} {u u' v v':VV} (h1:fz (d+1) H u=some u') (h2:fz (d+1) H v=some v'):fz (d+2) H (.dW [u,v])=some (.dW [u',v']):=by
 have e:fz (d+2) H (.dW [u,v])=if aY (.dW [u,v])=true then some (.dW [u,v]) else ([u,v].mapM (fz (d+1) H)).map .dW:=rfl
 rw[e]
 by_cases hp:aY (.dW [u,v])=true
 ·rw[if_pos hp]
  simp only[aY,aO,Bool.and_eq_true,and_true] at hp
  rw[aM hp.1] at h1
  rw[aM hp.2] at h2
  cases h1
  cases h2
  rfl
 ·rw[if_neg hp,List.mapM_cons,h1,List.mapM_cons,h2]
  rfl
theorem kB {j d:Nat} (hr:aG H b g=some (rows.map uV,1,w)) (hj:rows[j]? = some d):bF false 1 (.ptr b g j 0) H=some (uV d):=qB hr hj
theorem Sw {xs:List Nat} {m d:Nat} (hm:xs.length=m+1) (hd:xs[m]? = some d) (h:d≠0):xs.getLast? ≠ some 0:=by
 rw[List.getLast?_eq_getElem?,hm,Nat.add_sub_cancel,hd]
 simpa using h
end
theorem aiT {rows:List Nat} {b g n c:Nat} {w:Bool} {H:aA} {lo:Nat} (hr:aG H b g=some (rows.map uV,1,w)) (hn:n≤rows.length) (hc:n≤c) (FH:n≤70368744177664) (hd:∀d∈rows.take n,d<4294967296) :
  jD 182 [.ref b g 0 n c] lo H fun r H'=>H'=H∧∃k,k≤n∧r = .ref b g 0 k c∧rows.take k=aD 4294967296 (val 4294967296 (rows.take n)):=by
 refine jD.walk ⟨true,false⟩ Ch (aMs rfl) ?_
 simp only[Af,vM,VX,Nat.reduceEqDiff,Nat.reduceAdd]
 refine aP (fun(k:Nat) ρ H'=>k≤n∧H'=H∧val 4294967296 (rows.take k)=val 4294967296 (rows.take n)∧ρ 0 = .ref b g 0 k c) (fun k=>k) n ⟨aKE _,rfl,rfl,rfl⟩ ?_
 rintro k ρ H' ⟨hk,rfl,hv,h0⟩
 have e0:sE (.ref b g 0 k c) H'=some (VI k):=eI hr
 have done:(rows.take k).getLast? ≠ some 0→rows.take k=aD 4294967296 (val 4294967296 (rows.take n)):=fun gF=>by
  rw[←hv,PH (by decide) (fun d h=>hd d ?_) gF]
  exact(List.take_sublist_take_left hk).mem h
 rcases aMI k with hz | hp
 ·subst hz
  simp only[gM,h0,e0,Int.reduceLT,aMJ,VX,Nat.reduceEqDiff,Nat.reduceAdd]
  exact⟨0,hk,rfl,done (by simp)⟩
 ·obtain⟨m,rfl⟩:∃m,k=m+1:=⟨k-1,by omega⟩
  obtain⟨d,hdd⟩:∃d,rows[m]? = some d:=⟨_,aKL (by omega)⟩
  have BY:(0:Int)<((m+1:Nat):Int):=by omega
  have w1:IntKind.i64.wrap (((m+1:Nat):Int)-1)=(m:Int):=by rw[wrap64 (by omega) (by omega)];omega
  have e1:bJ 1 (.ref b g 0 (m+1) c) (VI m) H'=some (.ptr b g m 0):=by rw[bB hr (by omega),aMc]
  have e2:=kB hr hdd
  by_cases FD:(d:Int)=0
  ·have hd1:d=0:=by omega
   subst hd1
   have e3:Hl 1 (.ref b g 0 (m+1) c) none (some (VI m)) none H'=some (.ref b g 0 m c):=rM hr (by omega)
   simp only[gM,h0,e0,BY,w1,e1,e2,e3,FD,VX,Nat.reduceEqDiff,Nat.reduceAdd]
   refine⟨m,by omega,by omega,?_,rfl⟩
   rw[←hv,bE hdd,aMK,aML]
  ·simp only[gM,h0,e0,BY,w1,e1,e2,FD,VX,Nat.reduceEqDiff,Nat.reduceAdd]
   refine⟨m+1,hk,rfl,done (Sw (m:=m) (d:=d) (by rw[aMd];omega) ?_ (by omega))⟩
   rw[List.getElem?_take_of_lt (by omega)]
   exact hdd
theorem acW (ds:List Nat) (t:TK) {lo:Nat} {H:aA} (h:∀d∈ds,d<4294967296) (hlen:ds.length≤70368744177664) :
  jD 182 [.tree (ds.map uV) t] lo H fun r H'=>H'=H∧∃t',(t'=t∨t' = .op)∧r = .tree ((aD 4294967296 (val 4294967296 ds)).map uV) t':=by
 refine jD.walk ⟨true,false⟩ Ch (aMs rfl) ?_
 simp only[Af,vM,VX,Nat.reduceEqDiff,Nat.reduceAdd]
 refine aP (fun(s:List Nat×TK) ρ H'=>(∀d∈s.1,d<4294967296)∧val 4294967296 s.1=val 4294967296 ds∧s.1.length≤ds.length∧H'=H∧(s.2=t∨s.2 = .op)∧ρ 0 = .tree (s.1.map uV) s.2) (fun s=>s.1.length) (ds,t) ⟨h,rfl,aKE _,rfl,.inl rfl,rfl⟩ ?_
 rintro⟨xs,t'⟩ ρ H' ⟨hx,hv,hl,rfl,ht,h0⟩
 simp only at hx hv hl ht h0
 have done:xs.getLast? ≠ some 0→xs=aD 4294967296 (val 4294967296 ds):=fun gF=>by rw[←hv,PH (by decide) hx gF]
 rcases aMI xs.length with hz | hp
 ·have hxn:xs=[]:=aMM.1 hz
  subst hxn
  simp only[gM,h0,Int.reduceLT,aMJ,VX,Nat.reduceEqDiff,Nat.reduceAdd]
  exact⟨t',ht,by rw[←done (by simp)];rfl⟩
 ·obtain⟨m,hm⟩:∃m,xs.length=m+1:=⟨xs.length-1,by omega⟩
  obtain⟨d,hd⟩:∃d,xs[m]? = some d:=⟨_,aKL (by omega)⟩
  have BY:(0:Int)<((m+1:Nat):Int):=by omega
  have w1:IntKind.i64.wrap (((m+1:Nat):Int)-1)=(m:Int):=by rw[wrap64 (by omega) (by omega)];omega
  have e1:=aH (f:=uV) (t:=t') (H:=H') (size:=1) (k := .i64) hd rfl
  by_cases FD:(d:Int)=0
  ·have hd1:d=0:=by omega
   subst hd1
   have e2:=LP (f:=uV) (size:=1) (t:=t') (H:=H') (k2 := .i64) (xs:=xs) (h:=m) YW (by omega) (by omega)
   have Ud:xs=xs.take m++[0]:=by
    have:=aLN m xs
    have h3:=(aKD.1 hd)
    rw[aKJ h3.1,h3.2,aMx (by omega)] at this
    exact this.symm
   simp only[gM,h0,hm,BY,w1,e1,e2,FD,VX,Nat.reduceEqDiff,Nat.reduceAdd]
   refine⟨(xs.take m,.op),by simp only[aMd];omega,fun d hd=>hx d (aLB hd),?_,by simp only[aMd];omega,.inr rfl,rfl⟩
   rw[←hv]
   conv=>rhs;rw[Ud]
   rw[vO]
   simp
  ·simp only[gM,h0,hm,BY,w1,e1,FD,VX,Nat.reduceEqDiff,Nat.reduceAdd]
   exact⟨t',ht,by rw[←done (Sw hm hd (by omega))]⟩
theorem vF {rows:List Nat} {b g n c:Nat} {w:Bool} {H:aA} {K:VV→aA→Prop} {m lo:Nat} (hr:aG H b g=some (rows.map uV,1,w)) (hn:n≤rows.length) (hc:n≤c) (FH:n≤70368744177664) (hd:∀d∈rows.take n,d<4294967296) (hm:val 4294967296 (rows.take n)=m)
  (hk:∀k,k≤n→rows.take k=aD 4294967296 m→K (.ref b g 0 k c) H):dH 182 [.ref b g 0 n c] lo H K:=by
 refine fU rfl ((aiT hr hn hc FH hd).mono ?_)
 rintro r H' ⟨rfl,k,h1,rfl,h2⟩
 rw[hm] at h2
 exact hk k h1 h2
theorem Pk {ds:List Nat} {t:TK} {lo:Nat} {H:aA} {K:VV→aA→Prop} {m:Nat} (h:∀d∈ds,d<4294967296) (hlen:ds.length≤70368744177664) (hm:val 4294967296 ds=m) (hk:∀t',(t'=t∨t' = .op)→K (.tree ((aD 4294967296 m).map uV) t') H):dH 182 [.tree (ds.map uV) t] lo H K:=by
 refine fU rfl ((acW ds t h hlen).mono ?_)
 rintro r H' ⟨rfl,t',h1,rfl⟩
 rw[hm]
 exact hk t' h1
theorem asH {H:aA} {m:Nat} {t:TK} (ht:t = .cl 1∨t = .op):fz depth H (.tree ((aD 4294967296 m).map uV) t)=some (bR m):=by
 rcases ht with rfl | rfl
 ·exact avO (fN fun _=>rfl)
 ·exact aJ (bU m)
end Go.PM
namespace Go.PM
theorem oS (n:Nat) (h:n<18446744073709551616):TC 139 [VK .u64 n] (bR n):=by
 refine TC.walk ⟨true,false⟩ Ss rfl (aMs rfl) rfl (uA _) ?_
 have e1:=alS (H:=[]) (z:=[.int .u32 0]) (u:=uV (n % 4294967296)) (v:=uV (n / 4294967296 % 4294967296)) rfl rfl rfl rfl rfl
 have hm:∀d∈[n % 4294967296,n / 4294967296 % 4294967296],d<4294967296:=by
  intro d hd
  simp only[List.mem_cons,List.not_mem_nil,or_false] at hd
  rcases hd with rfl | rfl<;>exact aK6 _ (by decide)
 have hv:val 4294967296 [n % 4294967296,n / 4294967296 % 4294967296]=n:=by
  simp only[val]
  have:=aMN n 4294967296
  rw[aL8 (show n / 4294967296<4294967296 by omega)]
  omega
 simp only[Oh,Jf,wrap32,qX,e1,VX,Nat.reduceEqDiff,Nat.reduceAdd]
 refine Pk (ds:=[n % 4294967296,n / 4294967296 % 4294967296]) (t := .cl 1) hm (by show 2≤70368744177664;decide) hv fun t' ht => ?_
 simp only[VX,Nat.reduceEqDiff,Nat.reduceAdd]
 exact asH ht
theorem Dt (n:Nat) (hn:(aD 4294967296 n).length≤17592186044416):TC 193 [bR n] (if (aD 4294967296 n).length≤2 then .dW [VK .u64 n,VB true] else .dW [VK .u64 0,VB false]):=by
 refine TC.walk ⟨true,false⟩ H9 rfl (aMs rfl) (by simp[aO,bU]) (by split<;>rfl) ?_
 have hv:=cL (b:=4294967296) (by decide) n
 have hl:=gH (b:=4294967296) (by decide) n
 unfold bR Dw
 generalize aD 4294967296 n=ds at *
 have w1:IntKind.i64.wrap ((ds.length:Int)-1)=(ds.length:Int)-1:=wrap64 (by omega) (by omega)
 simp only[DC,Ba,w1,VX,Nat.reduceEqDiff,Nat.reduceAdd]
 by_cases h2:ds.length≤2
 ·rw[if_pos h2]
  have c2:(ds.length:Int)≤2:=by omega
  refine aP (fun(j:Nat) ρ H=>j≤ds.length∧H=[]∧ρ 0=aC uV ds∧ρ 4=VK .u64 (val 4294967296 (ds.drop j):Nat)∧ρ 5=VI ((j:Int)-1)) (fun j=>j) ds.length ⟨aKE _,rfl,rfl,by rw[aMO];rfl,rfl⟩ ?_
  rintro j ρ H ⟨hj,rfl,g0,g4,g5⟩
  by_cases hz:(0:Int)≤(j:Int)-1
  ·obtain⟨i,rfl⟩:∃i,j=i+1:=⟨j-1,by omega⟩
   obtain⟨x,hx⟩:∃x,ds[i]? = some x:=⟨_,aKL (by omega)⟩
   have Ee:((i+1:Nat):Int)-1=(i:Int):=by omega
   rw[Ee] at g5 hz
   have e1:=aH (f:=uV) (t := .op) (H:=[]) (size:=1) (k := .i64) hx rfl
   have lx:=hl x (aLy hx)
   have ld:=sH (b:=4294967296) (xs:=ds.drop (i+1)) fun d hd=>hl d (List.mem_of_mem_drop hd)
   have hle:(ds.drop (i+1)).length≤1:=by rw[List.length_drop];omega
   have hpw:4294967296^(ds.drop (i+1)).length≤4294967296^1:=aMH (by decide) hle
   rw[Nat.pow_one] at hpw
   have w2:IntKind.i64.wrap ((i:Int)-1)=(i:Int)-1:=wrap64 (by omega) (by omega)
   have w3:IntKind.u64.wrap (x:Int)=(x:Int):=eT _ (by omega)
   have w4:IntKind.u64.wrap (((val 4294967296 (ds.drop (i+1))*4294967296:Nat):Int)+(x:Int))=((val 4294967296 (ds.drop i):Nat):Int):=by
    rw[wD hx,←aMP,eT _ (by omega)]
    congr 1
    omega
   have w5:=Gv (val 4294967296 (ds.drop (i+1))) .u64 (by omega)
   simp only[nT,g0,g4,g5,hz,c2,e1,w2,w3,w4,w5,VX,Nat.reduceEqDiff,Nat.reduceAdd]
   exact⟨i,by omega,by omega,by (repeat' apply aMk)<;>first | rfl | trivial⟩
  ·have Xv:j=0:=by omega
   subst Xv
   rw[aLQ,hv] at g4
   simp only[nT,g0,g4,g5,hz,c2,VX,Nat.reduceEqDiff,Nat.reduceAdd]
   exact aJ rfl
 ·rw[if_neg h2]
  have c2:¬(ds.length:Int)≤2:=by omega
  have c3:(0:Int)≤(ds.length:Int)-1:=by omega
  refine aP (fun(j:Nat) ρ H=>H=[]∧ρ 0=aC uV ds∧ρ 4=VK .u64 0∧ρ 5=VI ((ds.length:Int)-1)) (fun j=>j) 0 ⟨rfl,rfl,rfl,rfl⟩ ?_
  rintro j ρ H ⟨rfl,g0,g4,g5⟩
  simp only[nT,g0,g4,g5,c2,c3,VX,Nat.reduceEqDiff,Nat.reduceAdd]
  exact aJ rfl
theorem lQ (a b:Nat) (ha:(aD 4294967296 a).length≤17592186044416) (hb:(aD 4294967296 b).length≤17592186044416):TC 142 [bR a,bR b] (VI (gC a b)):=by
 refine TC.walk ⟨true,false⟩ Ku rfl (aMs rfl) (by simp[aO,bU]) rfl ?_
 have fin:∀ {x:Int},x=gC a b→fz depth [] (VI x)=some (VI (gC a b)):=fun h=>by rw[h];exact aJ rfl
 unfold bR Dw
 by_cases hl:(((aD 4294967296 a).length:Nat):Int)=(((aD 4294967296 b).length:Nat):Int)
 ·have Gd:(aD 4294967296 a).length=(aD 4294967296 b).length:=by omega
  have w1:IntKind.i64.wrap ((((aD 4294967296 b).length:Nat):Int)-1)=(((aD 4294967296 b).length:Nat):Int)-1:=wrap64 (by omega) (by omega)
  simp only[xD,sS,hl,w1,VX,Nat.reduceEqDiff,Nat.reduceAdd]
  refine aP (fun(j:Nat) ρ H=>j≤(aD 4294967296 b).length∧H=[]∧(aD 4294967296 a).drop j=(aD 4294967296 b).drop j∧ρ 0=aC uV (aD 4294967296 a)∧ρ 1=aC uV (aD 4294967296 b)∧ρ 5=VI ((j:Int)-1)) (fun j=>j) (aD 4294967296 b).length ⟨aKE _,rfl,by rw[aMO,←Gd,aMO],rfl,rfl,rfl⟩ ?_
  rintro j ρ H ⟨hj,rfl,hd,h0,h1,h5⟩
  by_cases hz:(0:Int)≤(j:Int)-1
  ·obtain⟨i,rfl⟩:∃i,j=i+1:=⟨j-1,by omega⟩
   obtain⟨x,hx⟩:∃x,(aD 4294967296 a)[i]? = some x:=⟨_,aKL (by omega)⟩
   obtain⟨y,hy⟩:∃y,(aD 4294967296 b)[i]? = some y:=⟨_,aKL (by omega)⟩
   have Ee:((i+1:Nat):Int)-1=(i:Int):=by omega
   have e1:=aH (f:=uV) (t := .op) (H:=[]) (size:=1) (k := .i64) hx rfl
   have e2:=aH (f:=uV) (t := .op) (H:=[]) (size:=1) (k := .i64) hy rfl
   rw[Ee] at h5 hz
   have w2:IntKind.i64.wrap ((i:Int)-1)=(i:Int)-1:=wrap64 (by omega) (by omega)
   by_cases CQ:(x:Int)=(y:Int)
   ·simp only[nC,h0,h1,h5,hz,e1,e2,CQ,w2,VX,Nat.reduceEqDiff,Nat.reduceAdd]
    have axC:x=y:=by omega
    subst axC
    refine⟨i,by omega,by omega,?_⟩
    obtain⟨g1,g2⟩:=aKD.1 hx
    obtain⟨g3,g4⟩:=aKD.1 hy
    rw[aKJ g1,aKJ g3,g2,g4,hd]
    exact⟨rfl,rfl⟩
   ·by_cases bI:(x:Int)<(y:Int)
    ·simp only[nC,h0,h1,h5,hz,e1,e2,CQ,bI,VX,Nat.reduceEqDiff,Nat.reduceAdd]
     refine fin ?_
     have:=Hf (gH (by decide) a) Gd hx hy hd (by omega)
     rw[cL (by decide),cL (by decide)] at this
     simp[gC,this]
    ·simp only[nC,h0,h1,h5,hz,e1,e2,CQ,bI,VX,Nat.reduceEqDiff,Nat.reduceAdd]
     refine fin ?_
     have:=Hf (gH (by decide) b) Gd.symm hy hx hd.symm (by omega)
     rw[cL (by decide),cL (by decide)] at this
     rw[gC,if_neg (by omega),if_neg (by omega)]
  ·have Xv:j=0:=by omega
   subst Xv
   simp only[nC,h0,h1,h5,hz,VX,Nat.reduceEqDiff,Nat.reduceAdd]
   refine fin ?_
   have:=Ut (b:=4294967296) (by decide) (by simpa using hd)
   subst this
   simp[gC]
 ·by_cases bI:(((aD 4294967296 a).length:Nat):Int)<(((aD 4294967296 b).length:Nat):Int)
  ·simp only[xD,sS,hl,bI,VX,Nat.reduceEqDiff,Nat.reduceAdd]
   refine fin ?_
   have:=GG (b:=4294967296) (by decide) (m:=a) (n:=b) (by omega)
   simp[gC,this]
  ·simp only[xD,sS,hl,bI,VX,Nat.reduceEqDiff,Nat.reduceAdd]
   refine fin ?_
   have:=GG (b:=4294967296) (by decide) (m:=b) (n:=a) (by omega)
   rw[gC,if_neg (by omega),if_neg (by omega)]
end Go.PM
namespace Go.PM
section
variable {b:Nat}
theorem K1 (hb:2≤b) (n i:Nat):(aD b n).getD i 0=n / b^i % b:=by
 induction i generalizing n with
 |
  zero =>
  by_cases h:n=0
  ·subst h;simp[cE]
  ·rw[kU hb h,List.getD_cons_zero,aMQ,Nat.div_one]
 |
  succ i ih =>
  by_cases h:n=0
  ·subst h;simp[cE]
  ·rw[kU hb h,List.getD_cons_succ,ih,aMR,aL5,aL6 b]
theorem G2 (hb:2≤b) {n i:Nat}:i<(aD b n).length↔n / b^i≠0:=by
 induction i generalizing n with
 |
  zero =>
  rw[aMQ,Nat.div_one,List.length_pos_iff]
  exact not_congr (nU hb)
 |
  succ i ih =>
  by_cases h:n=0
  ·subst h;simp[cE]
  ·rw[kU hb h,aKO,Nat.add_lt_add_iff_right,ih,aMR,aL5,aL6 b]
theorem O5 (hb:2≤b) {n i:Nat} (h:i<(aD b n).length):(aD b n)[i]? = some (n / b^i % b):=by
 rw[←K1 hb,aKB,aKL h]
 rfl
theorem aeI (hb:2≤b) (n i:Nat):(aD b n).drop i=aD b (n / b^i):=by
 induction i generalizing n with
 | zero=>simp
 |
  succ i ih =>
  by_cases h:n=0
  ·subst h;simp[cE]
  ·rw[kU hb h,List.drop_succ_cons,ih,aMR,aL5,aL6 b]
theorem vN (n i:Nat):n / b^(i+1)=n / b^i / b:=by rw[aMR,aL5]
theorem Hy (xs:List Nat) (i:Nat):val b (xs.take (i+1))=val b (xs.take i)+b^i*xs.getD i 0:=by
 by_cases h:i<xs.length
 ·rw[bE (aKL h),aKB,aKL h]
  rfl
 ·rw[lD (by omega),lD (by omega),aKB,aK4 (by omega)]
  simp
theorem Rk (hb:2≤b) {n d q:Nat} (hn:n≠0) (h:n=d+b*q) (hd:d<b):aD b n=d::aD b q:=by
 rw[kU hb hn,h,Nat.add_mul_mod_self_left,aL8 hd,Nat.add_mul_div_left _ _ (by omega),aMb hd,aMc]
theorem aeJ (hb:2≤b) {x y c:Nat} (h:x+y+c≠0):aD b (x+y+c)=(x % b+y % b+c) % b::aD b (x / b+y / b+(x % b+y % b+c) / b):=by
 refine Rk hb h ?_ (aK6 _ (by omega))
 have h1:=aMN x b
 have h2:=aMN y b
 have h3:=aMN (x % b+y % b+c) b
 have e:b*(x / b+y / b+(x % b+y % b+c) / b)=b*(x / b)+b*(y / b)+b*((x % b+y % b+c) / b):=by grind
 omega
theorem acU (hb:2≤b) {x d c:Nat} (h:x*d+c≠0):aD b (x*d+c)=(x % b*d+c) % b::aD b (x / b*d+(x % b*d+c) / b):=by
 refine Rk hb h ?_ (aK6 _ (by omega))
 have h1:=aMN x b
 have h3:=aMN (x % b*d+c) b
 have e:b*(x / b*d+(x % b*d+c) / b)=b*(x / b)*d+b*((x % b*d+c) / b):=by grind
 have e2:x*d=x % b*d+b*(x / b)*d:=by
  conv=>lhs;rw[←h1,aK9]
 omega
theorem SG (hb:2≤b) {m n k:Nat} (hm:(aD b m).length≤k) (hn:(aD b n).length≤k):(aD b (m+n)).length≤k+1:=by
 refine oP hb ?_
 have y1:=iN hb m
 have y2:=iN hb n
 have y3:b^(aD b m).length≤b^k:=aMH (by omega) hm
 have y4:b^(aD b n).length≤b^k:=aMH (by omega) hn
 have y5:b^k*2≤b^k*b:=Nat.mul_le_mul_left _ hb
 rw[aL5]
 omega
theorem SH (hb:2≤b) (m n:Nat):(aD b (m*n)).length≤(aD b m).length+(aD b n).length:=by
 refine oP hb ?_
 rw[aMS]
 exact Nat.mul_lt_mul'' (iN hb m) (iN hb n)
theorem FE (hb:2≤b) {c:Nat} (h:c≠0) (hc:c<b):aD b c=[c]:=by
 rw[kU hb h,aL8 hc,aMb hc,cE]
end
end Go.PM
namespace Go.PM
abbrev tV (d:Nat):VV:=VI (d:Int)
abbrev jJ (ds:List Nat):VV:=aC tV ds
def cA (n:Nat):VV:=jJ (aD 1000000000 n)
theorem Iu:∀d:Nat,(aB (tV d)).length=1:=fun _=>rfl
theorem AX (ds:List Nat):aY (jJ ds)=true:=mR Iu fun _=>rfl
theorem aeV (ds:List Nat):gU (jJ ds)=true:=Aa Iu (fun _=>rfl) fun _=>rfl
theorem cK (n:Nat):aY (cA n)=true:=AX _
theorem pW (n:Nat):gU (cA n)=true:=aeV _
theorem Lb:cA 0 = .tree [] .op:=by rw[cA,cE];rfl
theorem ahO:cA 1=jJ [1]:=by rw[cA,kU (by decide) (by decide),cE]
theorem cN (n:Nat) {H:aA}:sE (cA n) H=some (VI (aD 1000000000 n).length):=eR
section
variable {α:Type} {f:α→VV} {xs:List α} {x:α} {H:aA}
theorem Nw {g e:Nat} {es:List VV} {w:Bool}:aG [.row g es e w] 0 g=some (es,e,w):=aU
theorem aDU {e bytes:Nat} (he:1≤e) (hb:1≤bytes) (E7:(xs.length+1)*bytes≤140737488355328):dO 0 e bytes (.ref 0 xs.length 0 xs.length xs.length) [f x] [.row xs.length (xs.map f) e true]=some (.ref 0 (xs.length+1) 0 (xs.length+1) (xs.length+1),[.row (xs.length+1) ((xs++[x]).map f) e true]):=by
 rw[jV (f:=f) (x:=x) aU rfl (aKE _) he hb E7]
 rfl
theorem WG {n g e:Nat} {w:Bool} (hp:∀x,aY (f x)=true) (hn:n=xs.length):fz depth [.row g (xs.map f) e w] (.ref 0 g 0 n n)=some (aC f xs):=IA aU (by simpa using hn) (aKE _) (fN hp)
end
theorem Pj {lr:Bool}:mV lr [.int .i64 0] 0 [] []=some (.ref 0 0 0 0 0,[.row 0 (([]:List Nat).map tV) 1 true]):=mX (H:=[]) rfl
theorem wZ {d:Int} {H:aA}:mV false [.int .i64 0] 1 [(0,VI d)] H=some (.tree [VI d] (.cl 1),H):=iU rfl rfl rfl
theorem zP {d:Int} {H:aA} {t:TK}:cW 1 (.tree [VI d] t) H=some [VI d]:=eU rfl rfl
theorem apP {ds:List Nat} {d:Nat} (h:ds.length<17592186044416):dO 0 1 8 (.ref 0 ds.length 0 ds.length ds.length) [VI (d:Int)] [.row ds.length (ds.map tV) 1 true]=some (.ref 0 (ds.length+1) 0 (ds.length+1) (ds.length+1),[.row (ds.length+1) ((ds++[d]).map tV) 1 true]):=aDU (f:=tV) (by decide) (by decide) (by omega)
theorem QK (n:Nat):dK .rem (.int .i64 (n:Int)) (.int .i64 1000000000)=some (.int .i64 ((n % 1000000000:Nat):Int)):=by
 have h2:(n:Int).tmod 1000000000=((n % 1000000000:Nat):Int):=by rw[aMG (by omega)];simp
 simp only[dK,if_true,h2]
 rfl
theorem Rz (n:Nat) (h:n≤9223372036854775807):dK .quo (.int .i64 (n:Int)) (.int .i64 1000000000)=some (.int .i64 ((n / 1000000000:Nat):Int)):=by
 have h2:(n:Int).tdiv 1000000000=((n / 1000000000:Nat):Int):=by rw[aMF (by omega)];simp
 simp only[dK,if_true,h2]
 rw[wrap64 (by omega) (by omega)]
 rfl
theorem wT (ds:List Nat) (h:∀d∈ds,d<1000000000) (hlen:ds.length≤70368744177664):TC 184 [jJ ds] (cA (val 1000000000 ds)):=by
 refine TC.walk ⟨true,false⟩ PB rfl (aMs rfl) (by simp[aO,AX]) (pW _) ?_
 simp only[J0,F2,VX,Nat.reduceEqDiff,Nat.reduceAdd]
 refine aP (fun(xs:List Nat) ρ H'=>(∀d∈xs,d<1000000000)∧val 1000000000 xs=val 1000000000 ds∧xs.length≤ds.length∧H'=[]∧ρ 0=jJ xs) (fun s=>s.length) ds ⟨h,rfl,aKE _,rfl,rfl⟩ ?_
 rintro xs ρ H' ⟨hx,hv,hl,rfl,h0⟩
 have done:xs.getLast? ≠ some 0→fz depth [] (jJ xs)=some (cA (val 1000000000 ds)):=fun gF=>by rw[cA,←hv,PH (by decide) hx gF];exact aJ (AX _)
 rcases aMI xs.length with hz | hp
 ·have hxn:xs=[]:=aMM.1 hz
  subst hxn
  simp only[uI,h0,Int.reduceLT,aMJ,eR,aMh,VX,Nat.reduceEqDiff,Nat.reduceAdd]
  exact done (by simp)
 ·obtain⟨m,hm⟩:∃m,xs.length=m+1:=⟨xs.length-1,by omega⟩
  obtain⟨d,hd⟩:∃d,xs[m]? = some d:=⟨_,aKL (by omega)⟩
  have BY:(0:Int)<((m+1:Nat):Int):=by omega
  have w1:IntKind.i64.wrap (((m+1:Nat):Int)-1)=(m:Int):=by rw[wrap64 (by omega) (by omega)];omega
  have e1:=aH (f:=tV) (t := .op) (H:=[]) (size:=1) (k := .i64) hd rfl
  by_cases FD:(d:Int)=0
  ·have hd1:d=0:=by omega
   subst hd1
   have e2:=LP (f:=tV) (size:=1) (t := .op) (H:=[]) (k2 := .i64) (xs:=xs) (h:=m) Iu (by omega) (by omega)
   have Ud:xs=xs.take m++[0]:=by
    have:=aLN m xs
    have h3:=(aKD.1 hd)
    rw[aKJ h3.1,h3.2,aMx (by omega)] at this
    exact this.symm
   simp only[uI,h0,hm,BY,w1,e1,e2,FD,eR,VX,Nat.reduceEqDiff,Nat.reduceAdd]
   refine⟨xs.take m,by simp only[aMd];omega,fun d hd=>hx d (aLB hd),?_,by simp only[aMd];omega,by first | rfl | exact⟨rfl,rfl⟩⟩
   rw[←hv]
   conv=>rhs;rw[Ud]
   rw[vO]
   simp
  ·simp only[uI,h0,hm,BY,w1,e1,FD,eR,VX,Nat.reduceEqDiff,Nat.reduceAdd]
   exact done (Sw hm hd (by omega))
theorem Lw {outs:List Nat} {n g m:Nat} {lo:Nat} {w:Bool} {K:VV→aA→Prop} (hd:∀d∈outs,d<1000000000) (hn:n=outs.length) (hlen:outs.length≤70368744177664) (hm:val 1000000000 outs=m) (hk:K (cA m) (dC [.row g (outs.map tV) 1 w] [0])) :
  dH 184 [.ref 0 g 0 n n] lo [.row g (outs.map tV) 1 w] K:=by
 subst hm
 rw[TC.aqF (f:=tV) (wT outs hd hlen) aU hn (aKE _) Iu (fun _=>rfl) rfl rfl]
 exact hk
theorem T7 {H:aA} (n:Nat):fz depth H (cA n)=some (cA n):=aJ (cK n)
theorem tN (n:Int) (h1:n≤9223372036854775807):TC 178 [VI n] (cA n.toNat):=by
 refine TC.walk ⟨true,false⟩ Qq rfl (aMs rfl) rfl (pW _) ?_
 simp only[LR,HG,Pj,VX,Nat.reduceEqDiff,Nat.reduceAdd]
 refine aP (fun(s:Int×List Nat) ρ H=>s.1≤9223372036854775807∧H=[.row s.2.length (s.2.map tV) 1 true]∧s.2.length≤63∧s.1.toNat*2^s.2.length≤9223372036854775807∧aD 1000000000 n.toNat=s.2++aD 1000000000 s.1.toNat∧ρ 0=VI s.1∧ρ 3 = .ref 0 s.2.length 0 s.2.length s.2.length) (fun s=>s.1.toNat) (n,[]) ⟨h1,rfl,by simp,by simp only[aMh,aMQ,Nat.mul_one];omega,rfl,rfl,rfl⟩ ?_
 rintro⟨m,ds⟩ ρ H ⟨hm,rfl,hl,bI,hd,g0,g3⟩
 simp only at hm hl bI hd g0 g3
 by_cases hp:(0:Int)<m
 ·obtain⟨k,rfl⟩:∃k:Nat,m=(k:Int):=⟨m.toNat,by omega⟩
  rw[aL0] at bI hd
  have hk0:k≠0:=by omega
  have Jl:ds.length<63:=by
   rcases aKH ds.length 63 with h | h
   ·exact h
   ·have e:2^ds.length=9223372036854775808:=by rw[show ds.length=63 by omega]
    rw[e] at bI
    omega
  have r1:=QK k
  have q1:=Rz k (by omega)
  have a1:=apP (ds:=ds) (d:=k % 1000000000) (by omega)
  simp only[BS,g0,g3,hp,r1,q1,wZ,zP,a1,VX,Nat.reduceEqDiff,Nat.reduceAdd]
  refine⟨(((k / 1000000000:Nat):Int),ds++[k % 1000000000]),?_,by simp only;omega,by simp,by simp;omega,?_,?_,rfl,by simp⟩
  ·simp only[aL0];exact Nat.div_lt_self (by omega) (by decide)
  ·simp only[aL0,aKP,aMT,aL5]
   have h1:k / 1000000000*2≤k:=by omega
   have:=aK5 (2^ds.length) h1
   rw[aMU,aL6 2] at this
   omega
  ·simp only[aL0]
   rw[hd,kU (by decide) hk0,aMq]
   rfl
 ·have hz:m.toNat=0:=by omega
  rw[hz,cE,aLM] at hd
  simp only[BS,g0,g3,hp,VX,Nat.reduceEqDiff,Nat.reduceAdd]
  rw[cA,hd]
  exact WG (fun _=>rfl) rfl
theorem yY (a b:Nat) (ha:(aD 1000000000 a).length≤17592186044416) (hb:(aD 1000000000 b).length≤17592186044416):TC 155 [cA a,cA b] (VI (gC a b)):=by
 refine TC.walk ⟨true,false⟩ Qk rfl (aMs rfl) (by simp[aO,cK]) rfl ?_
 have fin:∀ {x:Int},x=gC a b→fz depth [] (VI x)=some (VI (gC a b)):=fun h=>by rw[h];exact aJ rfl
 unfold cA jJ
 by_cases hl:(((aD 1000000000 a).length:Nat):Int)=(((aD 1000000000 b).length:Nat):Int)
 ·have Gd:(aD 1000000000 a).length=(aD 1000000000 b).length:=by omega
  have w1:IntKind.i64.wrap ((((aD 1000000000 b).length:Nat):Int)-1)=(((aD 1000000000 b).length:Nat):Int)-1:=wrap64 (by omega) (by omega)
  simp only[B7,yV,hl,w1,VX,Nat.reduceEqDiff,Nat.reduceAdd]
  refine aP (fun(j:Nat) ρ H=>j≤(aD 1000000000 b).length∧H=[]∧(aD 1000000000 a).drop j=(aD 1000000000 b).drop j∧ρ 0=aC tV (aD 1000000000 a)∧ρ 1=aC tV (aD 1000000000 b)∧ρ 5=VI ((j:Int)-1)) (fun j=>j) (aD 1000000000 b).length ⟨aKE _,rfl,by rw[aMO,←Gd,aMO],rfl,rfl,rfl⟩ ?_
  rintro j ρ H ⟨hj,rfl,hd,h0,h1,h5⟩
  by_cases hz:(0:Int)≤(j:Int)-1
  ·obtain⟨i,rfl⟩:∃i,j=i+1:=⟨j-1,by omega⟩
   obtain⟨x,hx⟩:∃x,(aD 1000000000 a)[i]? = some x:=⟨_,aKL (by omega)⟩
   obtain⟨y,hy⟩:∃y,(aD 1000000000 b)[i]? = some y:=⟨_,aKL (by omega)⟩
   have Ee:((i+1:Nat):Int)-1=(i:Int):=by omega
   have e1:=aH (f:=tV) (t := .op) (H:=[]) (size:=1) (k := .i64) hx rfl
   have e2:=aH (f:=tV) (t := .op) (H:=[]) (size:=1) (k := .i64) hy rfl
   rw[Ee] at h5 hz
   have w2:IntKind.i64.wrap ((i:Int)-1)=(i:Int)-1:=wrap64 (by omega) (by omega)
   by_cases CQ:(x:Int)=(y:Int)
   ·simp only[rC,h0,h1,h5,hz,e1,e2,CQ,w2,VX,Nat.reduceEqDiff,Nat.reduceAdd]
    have axC:x=y:=by omega
    subst axC
    refine⟨i,by omega,by omega,?_⟩
    obtain⟨g1,g2⟩:=aKD.1 hx
    obtain⟨g3,g4⟩:=aKD.1 hy
    rw[aKJ g1,aKJ g3,g2,g4,hd]
    exact⟨rfl,rfl⟩
   ·by_cases bI:(x:Int)<(y:Int)
    ·simp only[rC,h0,h1,h5,hz,e1,e2,CQ,bI,VX,Nat.reduceEqDiff,Nat.reduceAdd]
     refine fin ?_
     have:=Hf (gH (by decide) a) Gd hx hy hd (by omega)
     rw[cL (by decide),cL (by decide)] at this
     simp[gC,this]
    ·simp only[rC,h0,h1,h5,hz,e1,e2,CQ,bI,VX,Nat.reduceEqDiff,Nat.reduceAdd]
     refine fin ?_
     have:=Hf (gH (by decide) b) Gd.symm hy hx hd.symm (by omega)
     rw[cL (by decide),cL (by decide)] at this
     rw[gC,if_neg (by omega),if_neg (by omega)]
  ·have Xv:j=0:=by omega
   subst Xv
   simp only[rC,h0,h1,h5,hz,VX,Nat.reduceEqDiff,Nat.reduceAdd]
   refine fin ?_
   have:=Ut (b:=1000000000) (by decide) (by simpa using hd)
   subst this
   simp[gC]
 ·by_cases bI:(((aD 1000000000 a).length:Nat):Int)<(((aD 1000000000 b).length:Nat):Int)
  ·simp only[B7,yV,hl,bI,VX,Nat.reduceEqDiff,Nat.reduceAdd]
   refine fin ?_
   have:=GG (b:=1000000000) (by decide) (m:=a) (n:=b) (by omega)
   simp[gC,this]
  ·simp only[B7,yV,hl,bI,VX,Nat.reduceEqDiff,Nat.reduceAdd]
   refine fin ?_
   have:=GG (b:=1000000000) (by decide) (m:=b) (n:=a) (by omega)
   rw[gC,if_neg (by omega),if_neg (by omega)]
theorem MO (ds:List Nat) (i:Nat):TC 186 [jJ ds,VI (i:Int)] (tV (ds.getD i 0)):=by
 refine TC.walk ⟨true,false⟩ Nf rfl (aMs rfl) (by simp[aO,AX];rfl) rfl ?_
 by_cases h:(i:Int)<(ds.length:Int)
 ·obtain⟨d,hd⟩:∃d,ds[i]? = some d:=⟨_,aKL (by omega)⟩
  have e1:=aH (f:=tV) (t := .op) (H:=[]) (size:=1) (k := .i64) hd rfl
  simp only[CM,An,eR,h,e1,VX,Nat.reduceEqDiff,Nat.reduceAdd]
  rw[aKB,hd]
  exact aJ rfl
 ·simp only[CM,An,eR,h,VX,Nat.reduceEqDiff,Nat.reduceAdd]
  rw[aKB,aK4 (by omega)]
  exact aJ rfl
theorem Gk (n i:Nat):TC 186 [cA n,VI (i:Int)] (tV (n / 1000000000^i % 1000000000)):=by
 have:=MO (aD 1000000000 n) i
 rwa [K1 (by decide)] at this
theorem Lf (a b:Nat) (ha:(aD 1000000000 a).length<17592186044416) (hb:(aD 1000000000 b).length<17592186044416):TC 154 [cA a,cA b] (cA (a+b)):=by
 refine TC.walk ⟨true,false⟩ KC rfl (aMs rfl) (by simp[aO,cK]) (pW _) ?_
 simp only[Fh,Dg,Pj,VX,Nat.reduceEqDiff,Nat.reduceAdd]
 have hL:=SG (b:=1000000000) (by decide) (m:=a) (n:=b) (k:=17592186044416-1) (by omega) (by omega)
 refine aP (fun(s:Nat×List Nat×Nat) ρ H=>s.1=s.2.1.length∧H=[.row s.2.1.length (s.2.1.map tV) 1 true]∧s.2.2≤1∧aD 1000000000 (a+b)=s.2.1++aD 1000000000 (a / 1000000000^s.1+b / 1000000000^s.1+s.2.2)∧ρ 0=cA a∧ρ 1=cA b∧ρ 5 = .ref 0 s.2.1.length 0 s.2.1.length s.2.1.length∧ρ 6=VI s.2.2∧ρ 7=VI s.1)
  (fun s=>(aD 1000000000 (a+b)).length-s.1) (0,[],0) ⟨rfl,rfl,by simp,by simp,rfl,rfl,rfl,rfl,rfl⟩ ?_
 rintro⟨i,ds,c⟩ ρ H ⟨hi,rfl,hc,hd,g0,g1,g5,g6,g7⟩
 simp only at hi hc hd g5 g6 g7
 have la:=G2 (b:=1000000000) (by decide) (n:=a) (i:=i)
 have lb:=G2 (b:=1000000000) (by decide) (n:=b) (i:=i)
 have c1:=Gk a i
 have c2:=Gk b i
 have m1:=aK6 (a / 1000000000^i) (show 0<1000000000 by decide)
 have m2:=aK6 (b / 1000000000^i) (show 0<1000000000 by decide)
 have hd':a / 1000000000^i+b / 1000000000^i+c≠0→aD 1000000000 (a+b)=ds++(a / 1000000000^i % 1000000000+b / 1000000000^i % 1000000000+c) % 1000000000::aD 1000000000 (a / 1000000000^(i+1)+b / 1000000000^(i+1)+(a / 1000000000^i % 1000000000+b / 1000000000^i % 1000000000+c) / 1000000000):=fun h=>by
  rw[hd,aeJ (by decide) h,vN,vN]
 generalize a / 1000000000^i=A at *
 generalize b / 1000000000^i=B at *
 by_cases Ok:A+B+c=0
 ·have h1:¬(i:Int)<((aD 1000000000 a).length:Int):=by omega
  have h2:¬(i:Int)<((aD 1000000000 b).length:Int):=by omega
  have h3:¬(0:Int)<(c:Int):=by omega
  simp only[mY,g0,g1,g5,g6,g7,cN,h1,h2,h3,VX,Nat.reduceEqDiff,Nat.reduceAdd]
  rw[Ok,cE,aLM] at hd
  rw[cA,hd]
  exact WG (fun _=>rfl) rfl
 ·have hdn:=hd' Ok
  have bI:i<(aD 1000000000 (a+b)).length:=by
   rw[hdn,aKP,aKO]
   omega
  have w1:IntKind.i64.wrap (((A % 1000000000:Nat):Int)+((B % 1000000000:Nat):Int))=((A % 1000000000+B % 1000000000:Nat):Int):=wrapN _ (by omega) (by omega)
  have w2:IntKind.i64.wrap (((A % 1000000000+B % 1000000000:Nat):Int)+(c:Int))=((A % 1000000000+B % 1000000000+c:Nat):Int):=wrapN _ (by omega) (by omega)
  have wi:IntKind.i64.wrap ((i:Int)+1)=((i+1:Nat):Int):=wrapN (i+1) (by omega) (by omega)
  have r1:=QK (A % 1000000000+B % 1000000000+c)
  have q1:=Rz (A % 1000000000+B % 1000000000+c) (by omega)
  have a1:=apP (ds:=ds) (d:=(A % 1000000000+B % 1000000000+c) % 1000000000) (by omega)
  have ayC:aD 1000000000 (a+b)=(ds++[(A % 1000000000+B % 1000000000+c) % 1000000000])++aD 1000000000 (a / 1000000000^(i+1)+b / 1000000000^(i+1)+(A % 1000000000+B % 1000000000+c) / 1000000000):=by rw[hdn,aMq];rfl
  by_cases h1:(i:Int)<((aD 1000000000 a).length:Int)
  ·simp only[mY,g0,g1,g5,g6,g7,cN,h1,c1,c2,w1,w2,wi,r1,q1,wZ,zP,a1,VX,Nat.reduceEqDiff,Nat.reduceAdd]
   refine⟨(i+1,ds++[(A % 1000000000+B % 1000000000+c) % 1000000000],(A % 1000000000+B % 1000000000+c) / 1000000000),by simp only;omega,by simp;omega,by simp,by simp only;omega,ayC,?_⟩
   simp only[aKP,aMT]
   try (repeat' apply aMk)<;>first | rfl | trivial
  ·by_cases h2:(i:Int)<((aD 1000000000 b).length:Int)
   ·simp only[mY,g0,g1,g5,g6,g7,cN,h1,h2,c1,c2,w1,w2,wi,r1,q1,wZ,zP,a1,VX,Nat.reduceEqDiff,Nat.reduceAdd]
    refine⟨(i+1,ds++[(A % 1000000000+B % 1000000000+c) % 1000000000],(A % 1000000000+B % 1000000000+c) / 1000000000),by simp only;omega,by simp;omega,by simp,by simp only;omega,ayC,?_⟩
    simp only[aKP,aMT]
    try (repeat' apply aMk)<;>first | rfl | trivial
   ·have h3:(0:Int)<(c:Int):=by omega
    simp only[mY,g0,g1,g5,g6,g7,cN,h1,h2,h3,c1,c2,w1,w2,wi,r1,q1,wZ,zP,a1,VX,Nat.reduceEqDiff,Nat.reduceAdd]
    refine⟨(i+1,ds++[(A % 1000000000+B % 1000000000+c) % 1000000000],(A % 1000000000+B % 1000000000+c) / 1000000000),by simp only;omega,by simp;omega,by simp,by simp only;omega,ayC,?_⟩
    simp only[aKP,aMT]
    try (repeat' apply aMk)<;>first | rfl | trivial
end Go.PM
namespace Go.PM
theorem lB {es:List VV} {g e:Nat} {w:Bool}:aG [.row g es e w] 0 g=some (es,e,w):=aU
theorem Ui {x y:Nat} {ρ:cV} {Q:VQ} (hx:(aD 4294967296 x).length≤17592186044416) (hl:(aD 4294967296 y).length≤(aD 4294967296 x).length) (h0:ρ 0=bR x) (h1:ρ 1=bR y) (h5:ρ 5 = .ref 0 0 0 ((aD 4294967296 x).length+1) ((aD 4294967296 x).length+1)) (h6:ρ 6=VK .u64 0) (h20:ρ 20=VI (aD 4294967296 x).length) (h21:ρ 21=VI 0)
  (hQ:∀(aQ:cV) (outs:List Nat) (c:Nat),aQ 0=bR x→aQ 5 = .ref 0 0 0 ((aD 4294967296 x).length+1) ((aD 4294967296 x).length+1)→aQ 6=VK .u64 (c:Nat)→outs.length=(aD 4294967296 x).length+1→(∀d∈outs,d<4294967296)→c≤1→x+y=val 4294967296 (outs.take (aD 4294967296 x).length)+4294967296^(aD 4294967296 x).length*c→Q (.exit 0) aQ [.row 0 (outs.map uV) 1 true]) :
  VW ⟨true,false⟩ 0 (.loop mW) Q ρ [.row 0 ((aLu ((aD 4294967296 x).length+1) 0).map uV) 1 true]:=by
 unfold bR at h0 h1 hQ
 have vx:=cL (b:=4294967296) (by decide) x
 have vy:=cL (b:=4294967296) (by decide) y
 have lx:=gH (b:=4294967296) (by decide) x
 have ly:=gH (b:=4294967296) (by decide) y
 generalize aD 4294967296 x=xs at *
 generalize aD 4294967296 y=ys at *
 refine aP (fun(s:Nat×List Nat×Nat) ρ H=>s.1≤xs.length∧H=[.row 0 (s.2.1.map uV) 1 true]∧s.2.1.length=xs.length+1∧(∀d∈s.2.1,d<4294967296)∧s.2.2≤1∧val 4294967296 (xs.take s.1)+val 4294967296 (ys.take s.1)=val 4294967296 (s.2.1.take s.1)+4294967296^s.1*s.2.2 ∧
  ρ 0=Dw xs∧ρ 1=Dw ys∧ρ 5 = .ref 0 0 0 (xs.length+1) (xs.length+1)∧ρ 6=VK .u64 s.2.2∧ρ 20=VI xs.length∧ρ 21=VI s.1) (fun s=>xs.length-s.1) (0,aLu (xs.length+1) 0,0) ?_ ?_
 ·exact⟨aK8 _,rfl,by simp,CA (by decide) _,by simp,by simp[val],h0,h1,h5,h6,h20,h21⟩
 ·rintro⟨i,outs,c⟩ ρ H ⟨hi,rfl,gZ,nO,hc,hv,g0,g1,g5,g6,g20,g21⟩
  simp only at hi gZ nO hc hv g6 g21
  by_cases bW:(i:Int)<(xs.length:Int)
  ·obtain⟨a,ha⟩:∃a,xs[i]? = some a:=⟨_,aKL (by omega)⟩
   have la:=lx a (aLy ha)
   have e1:=aH (f:=uV) (t := .op) (H:=[.row 0 (outs.map uV) 1 true]) (size:=1) (k := .i64) ha rfl
   have w1:IntKind.u64.wrap (a:Int)=(a:Int):=eT _ (by omega)
   have w2:IntKind.u64.wrap ((c:Int)+(a:Int))=((c+a:Nat):Int):=by rw[←aMP];exact eT _ (by omega)
   have wi:IntKind.i64.wrap ((i:Int)+1)=((i+1:Nat):Int):=wrapN (i+1) (by omega) (by omega)
   have e3:=bB (H:=[.row 0 (outs.map uV) 1 true]) (b:=0) (g:=0) (o:=0) (n:=xs.length+1) (c:=xs.length+1) (i:=i) (k := .i64) lB (by omega)
   have e4:∀s:Nat,bL 0 1 (.ptr 0 0 i 0) (uV s) [.row 0 (outs.map uV) 1 true]=some [.row 0 ((outs.set i s).map uV) 1 true]:=fun s=>by
    rw[dP (f:=uV) (e:=1) lB (by omega) (aKE _) rfl rfl]
    rfl
   have step:∀b,b<4294967296→(∀d,ys[i]? = some d→d=b)→(ys.length≤i→b=0) →
     (i+1≤xs.length∧(outs.set i ((c+a+b) % 4294967296)).length=xs.length+1∧(∀d∈outs.set i ((c+a+b) % 4294967296),d<4294967296)∧(c+a+b) / 4294967296≤1∧val 4294967296 (xs.take (i+1))+val 4294967296 (ys.take (i+1))=val 4294967296 ((outs.set i ((c+a+b) % 4294967296)).take (i+1))+4294967296^(i+1)*((c+a+b) / 4294967296)):=by
    intro b hb h1 h2
    refine⟨by omega,by rw[aMC];exact gZ,nW nO (aK6 _ (by decide)),by omega,?_⟩
    have hy:val 4294967296 (ys.take (i+1))=val 4294967296 (ys.take i)+4294967296^i*b:=by
     cases YC:ys[i]? with
     | some d=>rw[bE YC,h1 d YC]
     |
      none =>
      have hle:=aMV.1 YC
      rw[h2 hle,lD hle,lD (by omega),aMK,aML]
    rw[bE ha,hy,fF (by omega),aL5]
    exact Iw hv rfl (aMN _ _)
   by_cases bI:(i:Int)<(ys.length:Int)
   ·obtain⟨b,hb⟩:∃b,ys[i]? = some b:=⟨_,aKL (by omega)⟩
    have lb:=ly b (aLy hb)
    have e2:=aH (f:=uV) (t := .op) (H:=[.row 0 (outs.map uV) 1 true]) (size:=1) (k := .i64) hb rfl
    have w3:IntKind.u64.wrap (b:Int)=(b:Int):=eT _ (by omega)
    have w4:IntKind.u64.wrap (((c+a:Nat):Int)+(b:Int))=((c+a+b:Nat):Int):=by rw[←aMP];exact eT _ (by omega)
    obtain⟨s1,s2,s3,s4,s5⟩:=step b lb (fun d hd=>by rw[hb] at hd;injection hd with hd;exact hd.symm) (fun h=>by omega)
    simp only[mW,g0,g1,g5,g6,g20,g21,bW,bI,e1,e2,e3,e4,w1,w2,w3,w4,wi,wrap32,qX,VX,Nat.reduceEqDiff,Nat.reduceAdd]
    exact⟨(i+1,outs.set i ((c+a+b) % 4294967296),(c+a+b) / 4294967296),by simp only;omega,s1,rfl,s2,s3,s4,s5,by (repeat' apply aMk)<;>first | rfl | trivial⟩
   ·obtain⟨s1,s2,s3,s4,s5⟩:=step 0 (by decide) (fun d hd=>by have:=(aKD.1 hd).1;omega) (fun _=>rfl)
    simp only[aML] at s2 s3 s4 s5
    simp only[mW,g0,g1,g5,g6,g20,g21,bW,bI,e1,e3,e4,w1,w2,wi,wrap32,qX,VX,Nat.reduceEqDiff,Nat.reduceAdd]
    exact⟨(i+1,outs.set i ((c+a) % 4294967296),(c+a) / 4294967296),by simp only;omega,s1,rfl,s2,s3,s4,s5,by (repeat' apply aMk)<;>first | rfl | trivial⟩
  ·have mH:i=xs.length:=by omega
   subst mH
   simp only[mW,g0,g1,g5,g6,g20,g21,bW,VX,Nat.reduceEqDiff,Nat.reduceAdd]
   refine hQ _ outs c g0 g5 g6 gZ nO hc ?_
   rw[aLR,aLx (l:=ys) hl,vx,vy] at hv
   exact hv
theorem Fu (a b:Nat) (ha:(aD 4294967296 a).length≤17592186044416) (hb:(aD 4294967296 b).length≤17592186044416):TC 145 [bR a,bR b] (bR (a+b)):=by
 refine TC.walk ⟨true,false⟩ KA rfl (aMs rfl) (by simp[aO,bU]) (uA _) ?_
 have mk:∀n:Nat,n≤17592186044416→Bc [.int .u32 0] 4 (VI ((n+1:Nat):Int)) (VI ((n+1:Nat):Int)) []=some (.ref 0 0 0 (n+1) (n+1),[.row 0 ((aLu (n+1) 0).map uV) 1 true]):=fun n hn=>oB (f:=uV) (x:=0) rfl (by omega) (by omega)
 have fin:∀(x y:Nat) (outs:List Nat) (c:Nat),(aD 4294967296 x).length≤17592186044416→x+y=a+b→outs.length=(aD 4294967296 x).length+1→(∀d∈outs,d<4294967296)→c≤1→x+y=val 4294967296 (outs.take (aD 4294967296 x).length)+4294967296^(aD 4294967296 x).length*c →
   bJ 1 (.ref 0 0 0 ((aD 4294967296 x).length+1) ((aD 4294967296 x).length+1)) (VI ((aD 4294967296 x).length:Nat)) [.row 0 (outs.map uV) 1 true]=some (.ptr 0 0 (0+(aD 4294967296 x).length) 0) ∧
   bL 0 1 (.ptr 0 0 (aD 4294967296 x).length 0) (uV (c % 4294967296)) [.row 0 (outs.map uV) 1 true]=some [.row 0 ((outs.set (aD 4294967296 x).length (c % 4294967296)).map uV) 1 true] ∧
   ∀lo K,(∀k,k≤(aD 4294967296 x).length+1→(outs.set (aD 4294967296 x).length (c % 4294967296)).take k=aD 4294967296 (a+b)→K (.ref 0 0 0 k ((aD 4294967296 x).length+1)) [.row 0 ((outs.set (aD 4294967296 x).length (c % 4294967296)).map uV) 1 true]) →
    dH 182 [.ref 0 0 0 ((aD 4294967296 x).length+1) ((aD 4294967296 x).length+1)] lo [.row 0 ((outs.set (aD 4294967296 x).length (c % 4294967296)).map uV) 1 true] K:=by
  intro x y outs c hx CQ gZ nO hc hv
  have Lp:=nW (i:=(aD 4294967296 x).length) nO (show c % 4294967296<4294967296 from aK6 _ (by decide))
  have Gn:val 4294967296 (outs.set (aD 4294967296 x).length (c % 4294967296))=a+b:=by
   have h1:=fF (b:=4294967296) (xs:=outs) (i:=(aD 4294967296 x).length) (d:=c % 4294967296) (by omega)
   rw[aLx (by rw[aMC];omega)] at h1
   rw[h1,aL8 (Nat.lt_of_le_of_lt hc (by decide)),←hv,CQ]
  refine⟨bB lB (by omega),?_,?_⟩
  ·rw[dP (f:=uV) (e:=1) lB (by omega) (aKE _) rfl rfl]
   rfl
  ·intro lo K hk
   have ayY:(outs.set (aD 4294967296 x).length (c % 4294967296)).length=(aD 4294967296 x).length+1:=by rw[aMC];exact gZ
   exact vF lB (by omega) (aKE _) (by omega) (fun d hd=>Lp d (aLB hd)) (by rw[aLx (by omega)];exact Gn) hk
 by_cases hsw:(((aD 4294967296 a).length:Nat):Int)<(((aD 4294967296 b).length:Nat):Int)
 ·have w1:IntKind.i64.wrap (((aD 4294967296 b).length:Int)+1)=(((aD 4294967296 b).length+1:Nat):Int):=wrapN _ (by omega) (by omega)
  simp only[Bm,yI,bR,hsw,w1,mk _ hb,VX,Nat.reduceEqDiff,Nat.reduceAdd]
  refine Ui (x:=b) (y:=a) hb (by omega) rfl rfl rfl rfl rfl rfl ?_
  intro aQ outs c g0 g5 g6 gZ nO hc hv
  obtain⟨e1,e2,e3⟩:=fin b a outs c hb (by omega) gZ nO hc hv
  simp only[g0,g5,g6,bR,wrap32,e1,e2,VX,Nat.reduceEqDiff,Nat.reduceAdd]
  refine e3 _ _ fun k hk he => ?_
  simp only[VX,Nat.reduceEqDiff,Nat.reduceAdd]
  exact SP lB (by rw[aMC];omega) hk he
 ·have w1:IntKind.i64.wrap (((aD 4294967296 a).length:Int)+1)=(((aD 4294967296 a).length+1:Nat):Int):=wrapN _ (by omega) (by omega)
  simp only[Bm,yI,bR,hsw,w1,mk _ ha,VX,Nat.reduceEqDiff,Nat.reduceAdd]
  refine Ui (x:=a) (y:=b) ha (by omega) rfl rfl rfl rfl rfl rfl ?_
  intro aQ outs c g0 g5 g6 gZ nO hc hv
  obtain⟨e1,e2,e3⟩:=fin a b outs c ha rfl gZ nO hc hv
  simp only[g0,g5,g6,bR,wrap32,e1,e2,VX,Nat.reduceEqDiff,Nat.reduceAdd]
  refine e3 _ _ fun k hk he => ?_
  simp only[VX,Nat.reduceEqDiff,Nat.reduceAdd]
  exact SP lB (by rw[aMC];omega) hk he
end Go.PM
namespace Go.PM
theorem PC {x:Int} {r:Nat} (h:x+4294967296=r) (hx:x<0) (hr:0≤x+4294967296):IntKind.u32.wrap x=(r:Int):=by rw[IntKind.wrap_u32];omega
theorem Xw (n:Nat) (hn:n≤70368744177664):Bc [.int .u32 0] 4 (VI (n:Int)) (VI (n:Int)) []=some (.ref 0 0 0 n n,[.row 0 ((aLu n 0).map uV) 1 true]):=oB (f:=uV) (x:=0) rfl (by omega) (by omega)
theorem Sp {outs:List Nat} {i d:Nat} (hi:i<outs.length):bL 0 1 (.ptr 0 0 i 0) (uV d) [.row 0 (outs.map uV) 1 true]=some [.row 0 ((outs.set i d).map uV) 1 true]:=by
 rw[dP (f:=uV) (e:=1) lB hi (aKE _) rfl rfl]
 rfl
theorem Fq (a b:Nat) (IW:b≤a) (ha:(aD 4294967296 a).length≤17592186044416):TC 146 [bR a,bR b] (bR (a-b)):=by
 refine TC.walk ⟨true,false⟩ Le rfl (aMs rfl) (by simp[aO,bU]) (uA _) ?_
 have va:=cL (b:=4294967296) (by decide) a
 have vb:=cL (b:=4294967296) (by decide) b
 have la:=gH (b:=4294967296) (by decide) a
 have lb:=gH (b:=4294967296) (by decide) b
 have hle:=eW (b:=4294967296) (by decide) IW
 unfold bR
 generalize aD 4294967296 a=xs at *
 generalize aD 4294967296 b=ys at *
 simp only[Ge,C8,Xw xs.length (by omega),VX,Nat.reduceEqDiff,Nat.reduceAdd]
 refine aP (fun(s:Nat×List Nat×Nat) ρ H=>s.1≤xs.length∧H=[.row 0 (s.2.1.map uV) 1 true]∧s.2.1.length=xs.length∧(∀d∈s.2.1,d<4294967296)∧s.2.2≤1∧val 4294967296 (xs.take s.1)+4294967296^s.1*s.2.2=val 4294967296 (s.2.1.take s.1)+val 4294967296 (ys.take s.1) ∧
  ρ 0=Dw xs∧ρ 1=Dw ys∧ρ 5 = .ref 0 0 0 xs.length xs.length∧ρ 6=VI s.2.2∧ρ 13=VI xs.length∧ρ 14=VI s.1) (fun s=>xs.length-s.1) (0,aLu xs.length 0,0) ⟨aK8 _,rfl,by simp,CA (by decide) _,by simp,by simp[val],rfl,rfl,rfl,rfl,rfl,rfl⟩ ?_
 rintro⟨i,outs,l⟩ ρ H ⟨hi,rfl,gZ,nO,hc,hv,g0,g1,g5,g6,g13,g14⟩
 simp only at hi gZ nO hc hv g6 g14
 by_cases bW:(i:Int)<(xs.length:Int)
 ·obtain⟨x,hx⟩:∃x,xs[i]? = some x:=⟨_,aKL (by omega)⟩
  have lx:=la x (aLy hx)
  have e1:=aH (f:=uV) (t := .op) (H:=[.row 0 (outs.map uV) 1 true]) (size:=1) (k := .i64) hx rfl
  have w1:IntKind.i64.wrap (x:Int)=(x:Int):=wrapN x rfl (by omega)
  have w2:IntKind.i64.wrap ((x:Int)-(l:Int))=(x:Int)-(l:Int):=wrap64 (by omega) (by omega)
  have wi:IntKind.i64.wrap ((i:Int)+1)=((i+1:Nat):Int):=wrapN (i+1) (by omega) (by omega)
  have e3:bJ 1 (.ref 0 0 0 xs.length xs.length) (VI i) [.row 0 (outs.map uV) 1 true]=some (.ptr 0 0 i 0):=by rw[bB lB (by omega),aMc]
  have e4:∀s:Nat,bL 0 1 (.ptr 0 0 i 0) (uV s) [.row 0 (outs.map uV) 1 true]=some [.row 0 ((outs.set i s).map uV) 1 true]:=fun s=>Sp (by omega)
  have step:∀y r l':Nat,y<4294967296→r<4294967296→l'≤1→(∀d,ys[i]? = some d→d=y)→(ys.length≤i→y=0)→r+y+l=x+4294967296*l' →
    i+1≤xs.length∧(outs.set i r).length=xs.length∧(∀d∈outs.set i r,d<4294967296)∧l'≤1∧val 4294967296 (xs.take (i+1))+4294967296^(i+1)*l'=val 4294967296 ((outs.set i r).take (i+1))+val 4294967296 (ys.take (i+1)):=by
   intro y r l' _ hr Gd h1 h2 hd
   refine⟨by omega,by rw[aMC];exact gZ,nW nO hr,Gd,?_⟩
   have hy:val 4294967296 (ys.take (i+1))=val 4294967296 (ys.take i)+4294967296^i*y:=by
    cases YC:ys[i]? with
    | some d=>rw[bE YC,h1 d YC]
    |
     none =>
     have hle:=aMV.1 YC
     rw[h2 hle,lD hle,lD (by omega),aMK,aML]
   rw[bE hx,hy,fF (by omega),aL5]
   exact Mc hv hd
  by_cases bI:(i:Int)<(ys.length:Int)
  ·obtain⟨y,hy⟩:∃y,ys[i]? = some y:=⟨_,aKL (by omega)⟩
   have ly:=lb y (aLy hy)
   have e2:=aH (f:=uV) (t := .op) (H:=[.row 0 (outs.map uV) 1 true]) (size:=1) (k := .i64) hy rfl
   have w3:IntKind.i64.wrap (y:Int)=(y:Int):=wrapN y rfl (by omega)
   have w4:IntKind.i64.wrap ((x:Int)-(l:Int)-(y:Int))=(x:Int)-(l:Int)-(y:Int):=wrap64 (by omega) (by omega)
   by_cases mK:(x:Int)-(l:Int)-(y:Int)<0
   ·obtain⟨r,hr⟩:∃r:Nat,r+y+l=x+4294967296:=⟨x+4294967296-l-y,by omega⟩
    have w5:IntKind.u32.wrap ((x:Int)-(l:Int)-(y:Int))=(r:Int):=PC (by omega) mK (by omega)
    obtain⟨s1,s2,s3,s4,s5⟩:=step y r 1 ly (by omega) (aKE _) (fun d hd=>by rw[hy] at hd;injection hd with hd;exact hd.symm) (fun h=>by omega) (by omega)
    simp only[kG,g0,g1,g5,g6,g13,g14,bW,bI,mK,e1,e2,e3,e4,w1,w2,w3,w4,w5,wi,VX,Nat.reduceEqDiff,Nat.reduceAdd]
    exact⟨(i+1,outs.set i r,1),by simp only;omega,s1,rfl,s2,s3,s4,s5,by (repeat' apply aMk)<;>first | rfl | trivial⟩
   ·obtain⟨r,hr⟩:∃r:Nat,r+y+l=x:=⟨x-l-y,by omega⟩
    have w5:IntKind.u32.wrap ((x:Int)-(l:Int)-(y:Int))=(r:Int):=by rw[IntKind.wrap_u32];omega
    obtain⟨s1,s2,s3,s4,s5⟩:=step y r 0 ly (by omega) (by omega) (fun d hd=>by rw[hy] at hd;injection hd with hd;exact hd.symm) (fun h=>by omega) (by omega)
    simp only[kG,g0,g1,g5,g6,g13,g14,bW,bI,mK,e1,e2,e3,e4,w1,w2,w3,w4,w5,wi,VX,Nat.reduceEqDiff,Nat.reduceAdd]
    exact⟨(i+1,outs.set i r,0),by simp only;omega,s1,rfl,s2,s3,s4,s5,by (repeat' apply aMk)<;>first | rfl | trivial⟩
  ·by_cases mK:(x:Int)-(l:Int)<0
   ·obtain⟨r,hr⟩:∃r:Nat,r+l=x+4294967296:=⟨x+4294967296-l,by omega⟩
    have w5:IntKind.u32.wrap ((x:Int)-(l:Int))=(r:Int):=PC (by omega) mK (by omega)
    obtain⟨s1,s2,s3,s4,s5⟩:=step 0 r 1 (by decide) (by omega) (aKE _) (fun d hd=>by have:=(aKD.1 hd).1;omega) (fun _=>rfl) (by omega)
    simp only[kG,g0,g1,g5,g6,g13,g14,bW,bI,mK,e1,e3,e4,w1,w2,w5,wi,VX,Nat.reduceEqDiff,Nat.reduceAdd]
    exact⟨(i+1,outs.set i r,1),by simp only;omega,s1,rfl,s2,s3,s4,s5,by (repeat' apply aMk)<;>first | rfl | trivial⟩
   ·obtain⟨r,hr⟩:∃r:Nat,r+l=x:=⟨x-l,by omega⟩
    have w5:IntKind.u32.wrap ((x:Int)-(l:Int))=(r:Int):=by rw[IntKind.wrap_u32];omega
    obtain⟨s1,s2,s3,s4,s5⟩:=step 0 r 0 (by decide) (by omega) (by omega) (fun d hd=>by have:=(aKD.1 hd).1;omega) (fun _=>rfl) (by omega)
    simp only[kG,g0,g1,g5,g6,g13,g14,bW,bI,mK,e1,e3,e4,w1,w2,w5,wi,VX,Nat.reduceEqDiff,Nat.reduceAdd]
    exact⟨(i+1,outs.set i r,0),by simp only;omega,s1,rfl,s2,s3,s4,s5,by (repeat' apply aMk)<;>first | rfl | trivial⟩
 ·have mH:i=xs.length:=by omega
  subst mH
  rw[aLR,aLx (l:=ys) hle,aLx (l:=outs) (by omega),va,vb] at hv
  have dS:=sH nO
  rw[gZ] at dS
  have Gn:val 4294967296 outs=a-b:=by
   rcases aKH l 1 with h | h
   ·have:l=0:=by omega
    subst this
    rw[aMK] at hv
    omega
   ·have:l=1:=by omega
    subst this
    rw[Nat.mul_one] at hv
    omega
  simp only[kG,g0,g1,g5,g6,g13,g14,bW,VX,Nat.reduceEqDiff,Nat.reduceAdd]
  refine vF (m:=a-b) lB (by omega) (aKE _) (by omega) (fun d hd=>nO d (aLB hd)) (by rw[aLx (by omega)];exact Gn) fun k hk he => ?_
  simp only[VX,Nat.reduceEqDiff,Nat.reduceAdd]
  exact SP lB (by omega) hk he
theorem Wy {P Q A B Y x c r q o y W:Nat} (QG:A+P*Q*c=B+P*(x*Y)) (h1:r+W*q=c+(x*y+o)):A+P*Q*r+P*Q*W*q=B+P*Q*o+P*(x*(Y+Q*y)):=by
 have h2:P*Q*(r+W*q)=P*Q*(c+(x*y+o)):=by rw[h1]
 grind
theorem jS (a b:Nat) (ha:(aD 4294967296 a).length≤17592186044416) (hb:(aD 4294967296 b).length≤17592186044416):TC 143 [bR a,bR b] (bR (a*b)):=by
 refine TC.walk ⟨true,false⟩ KV rfl (aMs rfl) (by simp[aO,bU]) (uA _) ?_
 have va:=cL (b:=4294967296) (by decide) a
 have vb:=cL (b:=4294967296) (by decide) b
 have la:=gH (b:=4294967296) (by decide) a
 have lb:=gH (b:=4294967296) (by decide) b
 unfold bR
 generalize aD 4294967296 a=xs at *
 generalize aD 4294967296 b=ys at *
 have w0:IntKind.i64.wrap ((xs.length:Int)+(ys.length:Int))=((xs.length+ys.length:Nat):Int):=wrapN _ (by omega) (by omega)
 simp only[Gq,Dm,w0,Xw (xs.length+ys.length) (by omega),VX,Nat.reduceEqDiff,Nat.reduceAdd]
 generalize hN:xs.length+ys.length=N at *
 refine aP (fun(s:Nat×List Nat) ρ H=>s.1≤xs.length∧H=[.row 0 (s.2.map uV) 1 true]∧s.2.length=N∧(∀d∈s.2,d<4294967296)∧val 4294967296 (s.2.take (s.1+ys.length))=val 4294967296 (xs.take s.1)*b ∧
  ρ 0=Dw xs∧ρ 1=Dw ys∧ρ 5 = .ref 0 0 0 N N∧ρ 17=Dw xs∧ρ 18=VI xs.length∧ρ 19=VI s.1) (fun s=>xs.length-s.1) (0,aLu N 0) ⟨aK8 _,rfl,by simp,CA (by decide) _,by simp[val,aMW,uY],rfl,rfl,rfl,rfl,rfl,rfl⟩ ?_
 rintro⟨i,outs⟩ ρ H ⟨hi,rfl,gZ,nO,hv,g0,g1,g5,g17,g18,g19⟩
 simp only at hi gZ nO hv g19
 by_cases bW:(i:Int)<(xs.length:Int)
 ·obtain⟨x,hx⟩:∃x,xs[i]? = some x:=⟨_,aKL (by omega)⟩
  have lx:=la x (aLy hx)
  have e1:=aH (f:=uV) (t := .op) (H:=[.row 0 (outs.map uV) 1 true]) (size:=1) (k := .i64) hx rfl
  simp only[vV,g0,g1,g5,g17,g18,g19,bW,e1,VX,Nat.reduceEqDiff,Nat.reduceAdd]
  refine aP (fun(s:Nat×List Nat×Nat) ρ H=>s.1≤ys.length∧H=[.row 0 (s.2.1.map uV) 1 true]∧s.2.1.length=N∧(∀d∈s.2.1,d<4294967296)∧s.2.2<4294967296 ∧
   val 4294967296 (s.2.1.take (i+s.1))+4294967296^(i+s.1)*s.2.2=val 4294967296 (outs.take (i+s.1))+4294967296^i*(x*val 4294967296 (ys.take s.1))∧(∀j,i+s.1≤j→s.2.1[j]? = outs[j]?) ∧
   ρ 0=Dw xs∧ρ 1=Dw ys∧ρ 5 = .ref 0 0 0 N N∧ρ 6=VI i∧ρ 7=uV x∧ρ 8=VK .u64 s.2.2∧ρ 17=Dw xs∧ρ 18=VI xs.length∧ρ 19=VI i∧ρ 24=Dw ys∧ρ 25=VI ys.length∧ρ 26=VI s.1) (fun s=>ys.length-s.1) (0,outs,0) ⟨aK8 _,rfl,gZ,nO,by simp,by simp[val],fun _ _=>rfl,by (repeat' apply aMk)<;>first | rfl | trivial⟩ ?_
  rintro⟨k,os,c⟩ tK H ⟨hk,rfl,Td,Sj,hc,QG,IU,k0,k1,k5,k6,k7,k8,IE,W2,k19,k24,k25,k26⟩
  simp only at hk Td Sj hc QG IU k8 k26
  have wi:IntKind.i64.wrap ((i:Int)+1)=((i+1:Nat):Int):=wrapN (i+1) (by omega) (by omega)
  by_cases TT:(k:Int)<(ys.length:Int)
  ·obtain⟨y,hy⟩:∃y,ys[k]? = some y:=⟨_,aKL (by omega)⟩
   have ly:=lb y (aLy hy)
   obtain⟨o,ho⟩:∃o,os[i+k]? = some o:=⟨_,aKL (by omega)⟩
   have lo:=Sj o (aLy ho)
   have ho':outs[i+k]? = some o:=by rw[←IU (i+k) (aKE _)];exact ho
   have f1:=aH (f:=uV) (t := .op) (H:=[.row 0 (os.map uV) 1 true]) (size:=1) (k := .i64) hy rfl
   have w1:IntKind.i64.wrap ((i:Int)+(k:Int))=((i+k:Nat):Int):=wrapN _ (by omega) (by omega)
   have f2:bJ 1 (.ref 0 0 0 N N) (VI ((i+k:Nat):Int)) [.row 0 (os.map uV) 1 true]=some (.ptr 0 0 (i+k) 0):=by rw[bB lB (by omega),aMc]
   have f3:bF false 1 (.ptr 0 0 (i+k) 0) [.row 0 (os.map uV) 1 true]=some (uV o):=kB lB ho
   have f4:∀s:Nat,bL 0 1 (.ptr 0 0 (i+k) 0) (uV s) [.row 0 (os.map uV) 1 true]=some [.row 0 ((os.set (i+k) s).map uV) 1 true]:=fun s=>Sp (by omega)
   have CQ:x*y≤4294967295*4294967295:=aMX (by omega) (by omega)
   have w2:IntKind.u64.wrap (x:Int)=(x:Int):=eT _ (by omega)
   have w3:IntKind.u64.wrap (y:Int)=(y:Int):=eT _ (by omega)
   have w4:IntKind.u64.wrap (o:Int)=(o:Int):=eT _ (by omega)
   have w5:IntKind.u64.wrap ((x:Int)*(y:Int))=((x*y:Nat):Int):=by rw[←Int.natCast_mul];exact eT _ (by omega)
   have w6:IntKind.u64.wrap (((x*y:Nat):Int)+(o:Int))=((x*y+o:Nat):Int):=by rw[←aMP];exact eT _ (by omega)
   have w7:IntKind.u64.wrap ((c:Int)+((x*y+o:Nat):Int))=((c+(x*y+o):Nat):Int):=by rw[←aMP];exact eT _ (by omega)
   have wk:IntKind.i64.wrap ((k:Int)+1)=((k+1:Nat):Int):=wrapN (k+1) (by omega) (by omega)
   simp only[vX,k0,k1,k5,k6,k7,k8,IE,W2,k19,k24,k25,k26,TT,f1,f2,f3,f4,w1,w2,w3,w4,w5,w6,w7,wk,wrap32,qX,VX,Nat.reduceEqDiff,Nat.reduceAdd]
   have hq:(c+(x*y+o)) / 4294967296<4294967296:=aMY (by omega)
   refine⟨(k+1,os.set (i+k) ((c+(x*y+o)) % 4294967296),(c+(x*y+o)) / 4294967296),by simp only;omega,by omega,rfl,by rw[aMC];exact Td,nW Sj (aK6 _ (by decide)),hq,?_,fun j hj => ?_,by (repeat' apply aMk)<;>first | rfl | trivial⟩
   ·have h1:=aMN (c+(x*y+o)) 4294967296
    rw[←Nat.add_assoc,fF (by omega),bE ho',bE hy,aL5]
    rw[aMS] at QG ⊢
    exact Wy QG h1
   ·rw[aK3 (by omega)]
    exact IU j (by omega)
  ·have hke:k=ys.length:=by omega
   subst hke
   rw[aLR,vb,hv] at QG
   have w1:IntKind.i64.wrap ((i:Int)+(ys.length:Int))=((i+ys.length:Nat):Int):=wrapN _ (by omega) (by omega)
   have f2:bJ 1 (.ref 0 0 0 N N) (VI ((i+ys.length:Nat):Int)) [.row 0 (os.map uV) 1 true]=some (.ptr 0 0 (i+ys.length) 0):=by rw[bB lB (by omega),aMc]
   have f4:∀s:Nat,bL 0 1 (.ptr 0 0 (i+ys.length) 0) (uV s) [.row 0 (os.map uV) 1 true]=some [.row 0 ((os.set (i+ys.length) s).map uV) 1 true]:=fun s=>Sp (by omega)
   simp only[vX,k0,k1,k5,k6,k7,k8,IE,W2,k19,k24,k25,k26,TT,f2,f4,w1,wi,wrap32,VX,Nat.reduceEqDiff,Nat.reduceAdd]
   refine⟨(i+1,os.set (i+ys.length) (c % 4294967296)),by simp only;omega,by omega,rfl,by rw[aMC];exact Td,nW Sj (aK6 _ (by decide)),?_,by (repeat' apply aMk)<;>first | rfl | trivial⟩
   rw[show i+1+ys.length=i+ys.length+1 by omega,fF (by omega),aL8 hc,QG,bE hx,aK9,aMU]
 ·have mH:i=xs.length:=by omega
  subst mH
  rw[hN,aLR,va,aLx (by omega)] at hv
  simp only[vV,g0,g1,g5,g17,g18,g19,bW,VX,Nat.reduceEqDiff,Nat.reduceAdd]
  refine vF (m:=a*b) lB (by omega) (aKE _) (by omega) (fun d hd=>nO d (aLB hd)) (by rw[aLx (by omega)];exact hv) fun k hk he => ?_
  simp only[VX,Nat.reduceEqDiff,Nat.reduceAdd]
  exact SP lB (by omega) hk he
end Go.PM
namespace Go.PM
theorem set_drop {xs:List Nat} {i d:Nat} (h:i<xs.length):(xs.set i d).drop i=d::xs.drop (i+1):=by
 rw[aKJ (by rw[aMC];exact h),List.getElem_set_self,Qw h]
theorem ZT (n k:Nat) (hn:n≤70368744177664) {H:aA}:Bc [.int .u32 0] 4 (VI (n:Int)) (VI (n:Int)) H=some (.ref H.length 0 0 n n,H++[.row 0 ((aLu n 0).map uV) 1 true]):=oB (f:=uV) (x:=0) rfl (by omega) (by omega)
theorem VG {A q t r x d W:Nat} (h1:t+d*q=r*W+x):(q+W*A)*d+t=x+W*(A*d+r):=by grind
theorem Xx {A B P S W c m x q:Nat} (hv:A+P*c=B*S) (h1:m*S+W*q=x*S):A+P*(c+m*S)+P*W*q=(B+P*x)*S:=by
 have h2:P*(m*S+W*q)=P*(x*S):=by rw[h1]
 grind
theorem Av (a d:Nat) (FD:0<d) (hdW:d<4294967296) (ha:(aD 4294967296 a).length≤17592186044416):TC 197 [bR a,uV d] (.dW [bR (a / d),uV (a % d)]):=by
 refine TC.walk ⟨true,false⟩ E4 rfl (aMs rfl) (by simp[aO,bU,aY,qH]) (by simp[gU,sO,uA,qH]) ?_
 have va:=cL (b:=4294967296) (by decide) a
 have la:=gH (b:=4294967296) (by decide) a
 unfold bR
 generalize aD 4294967296 a=xs at *
 have w0:IntKind.i64.wrap ((xs.length:Int)-1)=(xs.length:Int)-1:=wrap64 (by omega) (by omega)
 have wd:IntKind.u64.wrap (d:Int)=(d:Int):=eT _ (by omega)
 simp only[Aq,xN,w0,Xw xs.length (by omega),VX,Nat.reduceEqDiff,Nat.reduceAdd]
 refine aP (fun(s:Nat×List Nat×Nat) ρ H=>s.1≤xs.length∧H=[.row 0 (s.2.1.map uV) 1 true]∧s.2.1.length=xs.length∧(∀d∈s.2.1,d<4294967296)∧s.2.2<d∧val 4294967296 (s.2.1.drop s.1)*d+s.2.2=val 4294967296 (xs.drop s.1) ∧
  ρ 0=Dw xs∧ρ 1=uV d∧ρ 6 = .ref 0 0 0 xs.length xs.length∧ρ 7=VK .u64 s.2.2∧ρ 8=VI ((s.1:Int)-1)) (fun s=>s.1) (xs.length,aLu xs.length 0,0) ⟨aKE _,rfl,by simp,CA (by decide) _,FD,by simp[val,aMZ],rfl,rfl,rfl,rfl,rfl⟩ ?_
 rintro⟨j,outs,r⟩ ρ H ⟨hj,rfl,gZ,nO,hr,hv,g0,g1,g6,g7,g8⟩
 simp only at hj gZ nO hr hv g7 g8
 by_cases hz:(0:Int)≤(j:Int)-1
 ·obtain⟨i,rfl⟩:∃i,j=i+1:=⟨j-1,by omega⟩
  obtain⟨x,hx⟩:∃x,xs[i]? = some x:=⟨_,aKL (by omega)⟩
  have lx:=la x (aLy hx)
  have Ee:((i+1:Nat):Int)-1=(i:Int):=by omega
  rw[Ee] at g8 hz
  have e1:=aH (f:=uV) (t := .op) (H:=[.row 0 (outs.map uV) 1 true]) (size:=1) (k := .i64) hx rfl
  have e3:bJ 1 (.ref 0 0 0 xs.length xs.length) (VI i) [.row 0 (outs.map uV) 1 true]=some (.ptr 0 0 i 0):=by rw[bB lB (by omega),aMc]
  have e4:∀s:Nat,bL 0 1 (.ptr 0 0 i 0) (uV s) [.row 0 (outs.map uV) 1 true]=some [.row 0 ((outs.set i s).map uV) 1 true]:=fun s=>Sp (by omega)
  have w2:IntKind.i64.wrap ((i:Int)-1)=(i:Int)-1:=wrap64 (by omega) (by omega)
  have w3:IntKind.u64.wrap (x:Int)=(x:Int):=eT _ (by omega)
  have w4:IntKind.u64.wrap (((r*4294967296:Nat):Int)+(x:Int))=((r*4294967296+x:Nat):Int):=by rw[←aMP];exact eT _ (by omega)
  have w5:=Gv r .u64 (by omega)
  have q1:=ZZ (r*4294967296+x) d (by omega) FD
  have q2:=S6 (r*4294967296+x) d FD
  have hq:(r*4294967296+x) / d<4294967296:=by
   rw[aM0 FD]
   have:(r+1)*4294967296≤d*4294967296:=aK5 _ hr
   rw[aL6 4294967296 d]
   omega
  simp only[oU,g0,g1,g6,g7,g8,hz,e1,e3,e4,w2,w3,w4,w5,wd,q1,q2,wrap32,aL8 hq,VX,Nat.reduceEqDiff,Nat.reduceAdd]
  refine⟨(i,outs.set i ((r*4294967296+x) / d),(r*4294967296+x) % d),by simp only;omega,by omega,rfl,by rw[aMC];exact gZ,nW nO hq,aK6 _ FD,?_,by (repeat' apply aMk)<;>first | rfl | trivial⟩
  have h1:=aMN (r*4294967296+x) d
  rw[set_drop (by omega),vS,wD hx,←hv]
  exact VG h1
 ·have Xv:j=0:=by omega
  subst Xv
  rw[aLQ,aLQ,va] at hv
  have h1:a / d=val 4294967296 outs:=by
   rw[←hv,aL6,Nat.mul_add_div FD,aMb hr,aML]
  have h2:a % d=r:=by
   rw[←hv,aL6,Nat.mul_add_mod,aL8 hr]
  simp only[oU,g0,g1,g6,g7,g8,hz,VX,Nat.reduceEqDiff,Nat.reduceAdd]
  refine vF (m:=a / d) lB (by omega) (aKE _) (by omega) (fun d hd=>nO d (aLB hd)) (by rw[aLx (by omega)];exact h1.symm) fun k hk he => ?_
  simp only[wrap32,aL8 (show r<4294967296 by omega),g7,VX,Nat.reduceEqDiff,Nat.reduceAdd]
  rw[h2]
  exact bN (d:=6) (NN (d:=5) lB (by omega) hk he) (aM rfl)
theorem J2 {n g e:Nat} {es:List VV} {w:Bool}:aG (aLu n fO.dead++[.row g es e w]) n g=some (es,e,w):=by rw[Nv];exact aU
theorem aDx {n:Nat} (xs:List Nat):AF n (xs.map uV)=true:=by
 rw[zZ]
 intro x hx
 obtain⟨y,_,rfl⟩:=List.mem_map.1 hx
 rfl
theorem BO (a s:Nat) (hs:s≤31) (ha:(aD 4294967296 a).length≤17592186044416):FC 199 [bR a,VI s] fun n r L=>∃outs:List Nat,r = .ref n 0 0 ((aD 4294967296 a).length+1) ((aD 4294967296 a).length+1)∧L=[.row 0 (outs.map uV) 1 true]∧outs.length=(aD 4294967296 a).length+1∧(∀d∈outs,d<4294967296)∧val 4294967296 outs=a*2^s∧(∀d,outs[(aD 4294967296 a).length]? = some d→d<2^s):=by
 refine FC.walk ⟨true,false⟩ Fm (aMs rfl) fun n => ?_
 have va:=cL (b:=4294967296) (by decide) a
 have la:=gH (b:=4294967296) (by decide) a
 unfold bR
 generalize aD 4294967296 a=xs at *
 have hS:0<2^s:=Nat.pow_pos (by decide)
 have hSW:2^s*2^(32-s)=4294967296:=by rw[←aMS,show s+(32-s)=32 by omega]
 have w0:IntKind.i64.wrap ((xs.length:Int)+1)=((xs.length+1:Nat):Int):=wrapN _ (by omega) (by omega)
 simp only[A7,zE,w0,ZT (xs.length+1) n (by omega),aMt,VX,Nat.reduceEqDiff,Nat.reduceAdd]
 refine aP (fun(t:Nat×List Nat×Nat) ρ H=>t.1≤xs.length∧H=aLu n .dead++[.row 0 (t.2.1.map uV) 1 true]∧t.2.1.length=xs.length+1∧(∀d∈t.2.1,d<4294967296)∧t.2.1[t.1]? = some t.2.2∧t.2.2<2^s∧val 4294967296 (t.2.1.take t.1)+4294967296^t.1*t.2.2=val 4294967296 (xs.take t.1)*2^s ∧
  ρ 1=VI s∧ρ 5 = .ref n 0 0 (xs.length+1) (xs.length+1)∧ρ 13=Dw xs∧ρ 14=VI xs.length∧ρ 15=VI t.1) (fun t=>xs.length-t.1) (0,aLu (xs.length+1) 0,0) ⟨aK8 _,rfl,by simp,CA (by decide) _,by simp,hS,by simp[val],rfl,rfl,rfl,rfl,rfl⟩ ?_
 rintro⟨i,outs,c⟩ ρ H ⟨hi,rfl,gZ,nO,hoc,hc,hv,g1,g5,g13,g14,g15⟩
 simp only at hi gZ nO hoc hc hv g15
 by_cases bW:(i:Int)<(xs.length:Int)
 ·obtain⟨x,hx⟩:∃x,xs[i]? = some x:=⟨_,aKL (by omega)⟩
  have lx:=la x (aLy hx)
  have e1:=aH (f:=uV) (t := .op) (H:=aLu n .dead++[.row 0 (outs.map uV) 1 true]) (size:=1) (k := .i64) hx rfl
  have wx:IntKind.u64.wrap (x:Int)=(x:Int):=eT _ (by omega)
  have wi:IntKind.i64.wrap ((i:Int)+1)=((i+1:Nat):Int):=wrapN (i+1) (by omega) (by omega)
  have w5:=azW x s lx hs
  obtain⟨m,hm⟩:∃m,(x*2^s) % 4294967296=m*2^s:=by
   refine⟨x % 2^(32-s),?_⟩
   rw[←hSW,aL6 x,Nat.mul_mod_mul_left,aL6]
  have hhi:(x*2^s) / 4294967296<2^s:=by
   rw[aM0 (by decide),aL6 (2^s)]
   exact Nat.mul_lt_mul_of_pos_right lx hS
  have bI:(x*2^s) % 4294967296<4294967296:=aK6 _ (by decide)
  have hmm:m<2^(32-s):=by
   have:m*2^s<2^(32-s)*2^s:=by rw[←hm,aL6 (2^(32-s)) (2^s),hSW];exact bI
   exact Nat.lt_of_mul_lt_mul_right this
  have Xz:m*2^s+c<4294967296:=by
   have:(m+1)*2^s≤2^(32-s)*2^s:=aK5 _ hmm
   rw[aL6 (2^(32-s)),hSW,aK9] at this
   omega
  have or1:=awX c m s hc Xz
  have e3:bJ 1 (.ref n 0 0 (xs.length+1) (xs.length+1)) (VI i) (aLu n .dead++[.row 0 (outs.map uV) 1 true])=some (.ptr n 0 i 0):=by rw[bB J2 (by omega),aMc]
  have e4:bF false 1 (.ptr n 0 i 0) (aLu n .dead++[.row 0 (outs.map uV) 1 true])=some (uV c):=kB J2 hoc
  have e5:∀(os:List Nat) (j t:Nat),j<os.length→bL n 1 (.ptr n 0 j 0) (uV t) (aLu n .dead++[.row 0 (os.map uV) 1 true])=some (aLu n .dead++[.row 0 ((os.set j t).map uV) 1 true]):=fun os j t hj=>by
   rw[dP (f:=uV) (e:=1) J2 hj (aKE _) rfl rfl,aiB]
   rfl
  have e6:bJ 1 (.ref n 0 0 (xs.length+1) (xs.length+1)) (VI ((i+1:Nat):Int)) (aLu n .dead++[.row 0 ((outs.set i (c+m*2^s)).map uV) 1 true])=some (.ptr n 0 (i+1) 0):=by rw[bB J2 (by omega),aMc]
  have e7:=e5 outs i (c+m*2^s) (by omega)
  have e8:=e5 (outs.set i (c+m*2^s)) (i+1) ((x*2^s) / 4294967296) (by rw[aMC];omega)
  have hq:(x*2^s) / 4294967296 % 4294967296=(x*2^s) / 4294967296:=aL8 (by
   have:2^s≤2^31:=aMH (by decide) hs
   omega)
  simp only[qI,g1,g5,g13,g14,g15,bW,e1,e3,e4,e6,e7,e8,wx,wi,w5,wrap32,qX,hm,or1,hq,VX,Nat.reduceEqDiff,Nat.reduceAdd]
  refine⟨(i+1,(outs.set i (c+m*2^s)).set (i+1) ((x*2^s) / 4294967296),(x*2^s) / 4294967296),by simp only;omega,by omega,rfl,by rw[aMC,aMC];exact gZ,
   nW (nW nO (by omega)) (by
    have:2^s≤2^31:=aMH (by decide) hs
    omega),by rw[List.getElem?_set_self (by rw[aMC];omega)],hhi,?_,by (repeat' apply aMk)<;>first | rfl | trivial⟩
  rw[List.take_set_of_le (aKE _),fF (by omega),bE hx,aL5]
  have h1:=aMN (x*2^s) 4294967296
  rw[hm] at h1
  exact Xx hv h1
 ·have mH:i=xs.length:=by omega
  subst mH
  rw[aLR,va] at hv
  have Gn:val 4294967296 outs=a*2^s:=by
   have h1:=bE (b:=4294967296) hoc
   rw[aLx (by omega)] at h1
   rw[h1]
   exact hv
  simp only[qI,g1,g5,g13,g14,g15,bW,VX,Nat.reduceEqDiff,Nat.reduceAdd]
  exact⟨_,rfl,by simp[jW],by simp[mZ,aDx outs],outs,rfl,gZ,nO,Gn,fun d hd=>by rw[hoc] at hd;injection hd with hd;omega⟩
end Go.PM
namespace Go.PM
theorem Ty (n:Nat) (hn:n≤35184372088832):Bc [.int .i64 0] 8 (VI (n:Int)) (VI (n:Int)) []=some (.ref 0 0 0 n n,[.row 0 ((aLu n 0).map tV) 1 true]):=oB (f:=tV) (x:=0) rfl (by omega) (by omega)
theorem SJ {outs:List Nat} {i d:Nat} (hi:i<outs.length):bL 0 1 (.ptr 0 0 i 0) (VI (d:Int)) [.row 0 (outs.map tV) 1 true]=some [.row 0 ((outs.set i d).map tV) 1 true]:=by
 rw[show VI (d:Int)=tV d from rfl,dP (f:=tV) (e:=1) Nw hi (aKE _) rfl rfl]
 rfl
theorem Pp {b g:Nat} {rows:List Nat} {w:Bool} {H:aA} {j d:Nat} (hr:aG H b g=some (rows.map tV,1,w)) (hj:rows[j]? = some d):bF false 1 (.ptr b g j 0) H=some (VI (d:Int)):=qB hr hj
theorem adT {n i:Nat} {outs:List Nat} (h:i<n):bJ 1 (.ref 0 0 0 n n) (VI (i:Int)) [.row 0 (outs.map tV) 1 true]=some (.ptr 0 0 i 0):=by rw[bB Nw h,aMc]
theorem wr {x:Int} (n:Nat) (h:x=n) (hn:n≤9223372036854775807):IntKind.i64.wrap x=(n:Int):=wrapN n h hn
theorem B8 (a b:Nat) (IW:b≤a) (ha:(aD 1000000000 a).length≤17592186044416):TC 156 [cA a,cA b] (cA (a-b)):=by
 refine TC.walk ⟨true,false⟩ Jo rfl (aMs rfl) (by simp[aO,cK]) (pW _) ?_
 have hle:=eW (b:=1000000000) (by decide) IW
 simp only[EK,Cc,Pj,cN,VX,Nat.reduceEqDiff,Nat.reduceAdd]
 refine aP (fun(s:Nat×List Nat×Nat) ρ H=>s.1=s.2.1.length∧s.1≤(aD 1000000000 a).length∧H=[.row s.2.1.length (s.2.1.map tV) 1 true]∧(∀d∈s.2.1,d<1000000000)∧s.2.2≤1∧val 1000000000 ((aD 1000000000 a).take s.1)+1000000000^s.1*s.2.2=val 1000000000 s.2.1+val 1000000000 ((aD 1000000000 b).take s.1) ∧
  ρ 0=cA a∧ρ 1=cA b∧ρ 5 = .ref 0 s.2.1.length 0 s.2.1.length s.2.1.length∧ρ 6=VI s.2.2∧ρ 11=VI (aD 1000000000 a).length∧ρ 12=VI s.1) (fun s=>(aD 1000000000 a).length-s.1) (0,[],0) ⟨rfl,aK8 _,rfl,by simp,by simp,by simp[val],rfl,rfl,rfl,rfl,rfl,rfl⟩ ?_
 rintro⟨i,outs,l⟩ ρ H ⟨hi,vA,rfl,nO,hc,hv,g0,g1,g5,g6,g11,g12⟩
 simp only at hi vA nO hc hv g5 g6 g12
 by_cases bW:(i:Int)<((aD 1000000000 a).length:Int)
 ·have hx:=O5 (b:=1000000000) (by decide) (n:=a) (i:=i) (by omega)
  have e1:bJ 1 (cA a) (VI i) [.row outs.length (outs.map tV) 1 true]=some (.cG (tV (a / 1000000000^i % 1000000000)) 0):=aH (f:=tV) (t := .op) (size:=1) (k := .i64) hx rfl
  have c2:=Gk b i
  have t1:=Hy (b:=1000000000) (aD 1000000000 a) i
  have t2:=Hy (b:=1000000000) (aD 1000000000 b) i
  rw[K1 (by decide)] at t1 t2
  have lx:=aK6 (a / 1000000000^i) (show 0<1000000000 by decide)
  have ly:=aK6 (b / 1000000000^i) (show 0<1000000000 by decide)
  generalize a / 1000000000^i % 1000000000=x at *
  generalize b / 1000000000^i % 1000000000=y at *
  have wi:IntKind.i64.wrap ((i:Int)+1)=((i+1:Nat):Int):=wrapN (i+1) (by omega) (by omega)
  have w1:IntKind.i64.wrap ((x:Int)-(y:Int))=(x:Int)-(y:Int):=wrap64 (by omega) (by omega)
  have w2:IntKind.i64.wrap ((x:Int)-(y:Int)-(l:Int))=(x:Int)-(y:Int)-(l:Int):=wrap64 (by omega) (by omega)
  have step:∀r l':Nat,r<1000000000→l'≤1→r+y+l=x+1000000000*l'→(∀d∈outs++[r],d<1000000000)∧val 1000000000 ((aD 1000000000 a).take (i+1))+1000000000^(i+1)*l'=val 1000000000 (outs++[r])+val 1000000000 ((aD 1000000000 b).take (i+1)):=by
   intro r l' hr _ hd
   refine⟨fun d h => ?_,?_⟩
   ·rcases List.mem_append.1 h with h | h
    ·exact nO d h
    ·rw[List.mem_singleton.1 h];exact hr
   ·rw[t1,t2,vO,←hi,aL5]
    exact Mc hv hd
  by_cases mK:(x:Int)-(y:Int)-(l:Int)<0
  ·obtain⟨r,hr⟩:∃r:Nat,r+y+l=x+1000000000:=⟨x+1000000000-l-y,by omega⟩
   have w3:IntKind.i64.wrap ((x:Int)-(y:Int)-(l:Int)+1000000000)=(r:Int):=wrapN r (by omega) (by omega)
   obtain⟨s1,s2⟩:=step r 1 (by omega) (aKE _) (by omega)
   have a1:=apP (ds:=outs) (d:=r) (by omega)
   simp only[pC,g0,g1,g5,g6,g11,g12,bW,e1,c2,w1,w2,w3,wi,mK,wZ,zP,a1,VX,Nat.reduceEqDiff,Nat.reduceAdd]
   refine⟨(i+1,outs++[r],1),by simp only;omega,by simp;omega,by simp only;omega,by simp,s1,aKE _,s2,?_⟩
   simp only[aKP,aMT]
   try (repeat' apply aMk)<;>first | rfl | trivial
  ·obtain⟨r,hr⟩:∃r:Nat,r+y+l=x:=⟨x-l-y,by omega⟩
   obtain⟨s1,s2⟩:=step r 0 (by omega) (by omega) (by omega)
   have er:(x:Int)-(y:Int)-(l:Int)=(r:Int):=by omega
   have a1:=apP (ds:=outs) (d:=r) (by omega)
   have w3:IntKind.i64.wrap ((x:Int)-(y:Int)-(l:Int))=(r:Int):=wrapN r er (by omega)
   have Kk:¬(r:Int)<0:=by omega
   simp only[pC,g0,g1,g5,g6,g11,g12,bW,e1,c2,w1,w3,wi,Kk,wZ,zP,a1,VX,Nat.reduceEqDiff,Nat.reduceAdd]
   refine⟨(i+1,outs++[r],0),by simp only;omega,by simp;omega,by simp only;omega,by simp,s1,aK8 _,s2,?_⟩
   simp only[aKP,aMT]
   try (repeat' apply aMk)<;>first | rfl | trivial
 ·have mH:i=(aD 1000000000 a).length:=by omega
  rw[mH,aLR,aLx (l:=aD 1000000000 b) hle,cL (by decide),cL (by decide)] at hv
  have dS:=sH nO
  rw[←hi,mH] at dS
  have Gn:val 1000000000 outs=a-b:=by
   rcases aKH l 1 with h | h
   ·have:l=0:=by omega
    subst this
    rw[aMK] at hv
    omega
   ·have:l=1:=by omega
    subst this
    rw[Nat.mul_one] at hv
    omega
  simp only[pC,g0,g1,g5,g6,g11,g12,bW,VX,Nat.reduceEqDiff,Nat.reduceAdd]
  refine Lw nO rfl (by omega) Gn ?_
  simp only[VX,Nat.reduceEqDiff,Nat.reduceAdd]
  exact T7 _
theorem fD (a b:Nat) (ha:(aD 1000000000 a).length≤17592186044416) (hb:(aD 1000000000 b).length≤17592186044416):TC 152 [cA a,cA b] (cA (a*b)):=by
 refine TC.walk ⟨true,false⟩ Ks rfl (aMs rfl) (by simp[aO,cK]) (pW _) ?_
 have va:=cL (b:=1000000000) (by decide) a
 have vb:=cL (b:=1000000000) (by decide) b
 have la:=gH (b:=1000000000) (by decide) a
 have lb:=gH (b:=1000000000) (by decide) b
 unfold cA
 generalize aD 1000000000 a=xs at *
 generalize aD 1000000000 b=ys at *
 have w0:IntKind.i64.wrap ((xs.length:Int)+(ys.length:Int))=((xs.length+ys.length:Nat):Int):=wrapN _ (by omega) (by omega)
 simp only[Fy,CR,eR,w0,Ty (xs.length+ys.length) (by omega),VX,Nat.reduceEqDiff,Nat.reduceAdd]
 generalize hN:xs.length+ys.length=N at *
 refine aP (fun(s:Nat×List Nat) ρ H=>s.1≤xs.length∧H=[.row 0 (s.2.map tV) 1 true]∧s.2.length=N∧(∀d∈s.2,d<1000000000)∧val 1000000000 (s.2.take (s.1+ys.length))=val 1000000000 (xs.take s.1)*b∧(∀j,s.1+ys.length≤j→j<N→s.2[j]? = some 0) ∧
  ρ 0=jJ xs∧ρ 1=jJ ys∧ρ 5 = .ref 0 0 0 N N∧ρ 17=VI xs.length∧ρ 18=VI s.1) (fun s=>xs.length-s.1) (0,aLu N 0) ⟨aK8 _,rfl,by simp,CA (by decide) _,by simp[val,aMW,uY],fun j _ h=>by simp[List.getElem?_replicate,h],rfl,rfl,rfl,rfl,rfl⟩ ?_
 rintro⟨i,outs⟩ ρ H ⟨hi,rfl,gZ,nO,hv,hzr,g0,g1,g5,g17,g18⟩
 simp only at hi gZ nO hv hzr g18
 by_cases bW:(i:Int)<(xs.length:Int)
 ·obtain⟨x,hx⟩:∃x,xs[i]? = some x:=⟨_,aKL (by omega)⟩
  have lx:=la x (aLy hx)
  have e1:∀os:List Nat,bJ 1 (jJ xs) (VI i) [.row 0 (os.map tV) 1 true]=some (.cG (tV x) 0):=fun os=>aH (f:=tV) (t := .op) (size:=1) (k := .i64) hx rfl
  simp only[wL,g0,g1,g5,g17,g18,bW,eR,VX,Nat.reduceEqDiff,Nat.reduceAdd]
  refine aP (fun(s:Nat×List Nat×Nat) ρ H=>s.1≤ys.length∧H=[.row 0 (s.2.1.map tV) 1 true]∧s.2.1.length=N∧(∀d∈s.2.1,d<1000000000)∧s.2.2<1000000000 ∧
   val 1000000000 (s.2.1.take (i+s.1))+1000000000^(i+s.1)*s.2.2=val 1000000000 (outs.take (i+s.1))+1000000000^i*(x*val 1000000000 (ys.take s.1))∧(∀j,i+s.1≤j→s.2.1[j]? = outs[j]?) ∧
   ρ 0=jJ xs∧ρ 1=jJ ys∧ρ 5 = .ref 0 0 0 N N∧ρ 6=VI i∧ρ 7=VI s.2.2∧ρ 17=VI xs.length∧ρ 18=VI i∧ρ 22=VI ys.length∧ρ 23=VI s.1) (fun s=>ys.length-s.1) (0,outs,0) ⟨aK8 _,rfl,gZ,nO,by simp,by simp[val],fun _ _=>rfl,by (repeat' apply aMk)<;>first | rfl | trivial⟩ ?_
  rintro⟨k,os,c⟩ tK H ⟨hk,rfl,Td,Sj,hc,QG,IU,k0,k1,k5,k6,k7,IE,W2,k22,k23⟩
  simp only at hk Td Sj hc QG IU k7 k23
  have wi:IntKind.i64.wrap ((i:Int)+1)=((i+1:Nat):Int):=wrapN (i+1) (by omega) (by omega)
  by_cases TT:(k:Int)<(ys.length:Int)
  ·obtain⟨y,hy⟩:∃y,ys[k]? = some y:=⟨_,aKL (by omega)⟩
   have ly:=lb y (aLy hy)
   obtain⟨o,ho⟩:∃o,os[i+k]? = some o:=⟨_,aKL (by omega)⟩
   have lo:=Sj o (aLy ho)
   have ho':outs[i+k]? = some o:=by rw[←IU (i+k) (aKE _)];exact ho
   have f1:bJ 1 (jJ ys) (VI k) [.row 0 (os.map tV) 1 true]=some (.cG (tV y) 0):=aH (f:=tV) (t := .op) (size:=1) (k := .i64) hy rfl
   have w1:IntKind.i64.wrap ((i:Int)+(k:Int))=((i+k:Nat):Int):=wrapN _ (by omega) (by omega)
   have f2:bJ 1 (.ref 0 0 0 N N) (VI ((i+k:Nat):Int)) [.row 0 (os.map tV) 1 true]=some (.ptr 0 0 (i+k) 0):=adT (by omega)
   have f3:bF false 1 (.ptr 0 0 (i+k) 0) [.row 0 (os.map tV) 1 true]=some (VI (o:Int)):=Pp Nw ho
   have f4:∀s:Nat,bL 0 1 (.ptr 0 0 (i+k) 0) (VI (s:Int)) [.row 0 (os.map tV) 1 true]=some [.row 0 ((os.set (i+k) s).map tV) 1 true]:=fun s=>SJ (by omega)
   have CQ:x*y≤999999999*999999999:=aMX (by omega) (by omega)
   have w5:IntKind.i64.wrap ((x:Int)*(y:Int))=((x*y:Nat):Int):=wrapN _ (by simp) (by omega)
   have w6:IntKind.i64.wrap ((o:Int)+((x*y:Nat):Int))=((o+x*y:Nat):Int):=wrapN _ (by omega) (by omega)
   have w7:IntKind.i64.wrap (((o+x*y:Nat):Int)+(c:Int))=((o+x*y+c:Nat):Int):=wrapN _ (by omega) (by omega)
   have wk:IntKind.i64.wrap ((k:Int)+1)=((k+1:Nat):Int):=wrapN (k+1) (by omega) (by omega)
   have r1:=QK (o+x*y+c)
   have q1:=Rz (o+x*y+c) (by omega)
   simp only[wC,k0,k1,k5,k6,k7,IE,W2,k22,k23,TT,e1,f1,f2,f3,f4,w1,w5,w6,w7,wk,r1,q1,VX,Nat.reduceEqDiff,Nat.reduceAdd]
   have hq:(o+x*y+c) / 1000000000<1000000000:=aMY (by omega)
   refine⟨(k+1,os.set (i+k) ((o+x*y+c) % 1000000000),(o+x*y+c) / 1000000000),by simp only;omega,by omega,rfl,by rw[aMC];exact Td,nW Sj (aK6 _ (by decide)),hq,?_,fun j hj => ?_,by (repeat' apply aMk)<;>first | rfl | trivial⟩
   ·have h1:=aMN (o+x*y+c) 1000000000
    rw[show o+x*y+c=c+(x*y+o) by omega] at h1 ⊢
    rw[←Nat.add_assoc,fF (by omega),bE ho',bE hy,aL5]
    rw[aMS] at QG ⊢
    exact Wy QG h1
   ·rw[aK3 (by omega)]
    exact IU j (by omega)
  ·have hke:k=ys.length:=by omega
   subst hke
   rw[aLR,vb,hv] at QG
   have w1:IntKind.i64.wrap ((i:Int)+(ys.length:Int))=((i+ys.length:Nat):Int):=wrapN _ (by omega) (by omega)
   have CL:os[i+ys.length]? = some 0:=by rw[IU _ (aKE _)];exact hzr _ (aKE _) (by omega)
   have f2:bJ 1 (.ref 0 0 0 N N) (VI ((i+ys.length:Nat):Int)) [.row 0 (os.map tV) 1 true]=some (.ptr 0 0 (i+ys.length) 0):=adT (by omega)
   have f3:bF false 1 (.ptr 0 0 (i+ys.length) 0) [.row 0 (os.map tV) 1 true]=some (VI ((0:Nat):Int)):=Pp Nw CL
   have f4:∀s:Nat,bL 0 1 (.ptr 0 0 (i+ys.length) 0) (VI (s:Int)) [.row 0 (os.map tV) 1 true]=some [.row 0 ((os.set (i+ys.length) s).map tV) 1 true]:=fun s=>SJ (by omega)
   have w2:IntKind.i64.wrap (((0:Nat):Int)+(c:Int))=(c:Int):=wrapN _ (by omega) (by omega)
   simp only[wC,k0,k1,k5,k6,k7,IE,W2,k22,k23,TT,eR,f2,f3,f4,w1,w2,wi,VX,Nat.reduceEqDiff,Nat.reduceAdd]
   refine⟨(i+1,os.set (i+ys.length) c),by simp only;omega,by omega,rfl,by rw[aMC];exact Td,nW Sj hc,?_,fun j hj Hg => ?_,by (repeat' apply aMk)<;>first | rfl | trivial⟩
   ·rw[show i+1+ys.length=i+ys.length+1 by omega,fF (by omega),QG,bE hx,aK9,aMU]
   ·rw[aK3 (by omega),IU j (by omega)]
    exact hzr j (by omega) Hg
 ·have mH:i=xs.length:=by omega
  subst mH
  rw[hN,aLR,va,aLx (by omega)] at hv
  simp only[wL,g0,g1,g5,g17,g18,bW,VX,Nat.reduceEqDiff,Nat.reduceAdd]
  refine Lw (m:=a*b) nO gZ.symm (by omega) hv ?_
  simp only[VX,Nat.reduceEqDiff,Nat.reduceAdd]
  exact T7 _
theorem EE (a:Nat) (ha:(aD 1000000000 a).length≤17592186044416):TC 201 [cA a] (if (aD 1000000000 a).length≤2 then .dW [VI a,VB true] else .dW [VI 0,VB false]):=by
 refine TC.walk ⟨true,false⟩ M8 rfl (aMs rfl) (by simp[aO,cK]) (by split<;>rfl) ?_
 by_cases h2:(aD 1000000000 a).length≤2
 ·rw[if_pos h2]
  have h3:¬(2:Int)<((aD 1000000000 a).length:Int):=by omega
  have c0:TC 186 [cA a,VI 0] (VI ((a % 1000000000:Nat):Int)):=by have:=Gk a 0;rwa [aMQ,Nat.div_one] at this
  have c1:TC 186 [cA a,VI 1] (VI ((a / 1000000000 % 1000000000:Nat):Int)):=by have:=Gk a 1;rwa [Nat.pow_one] at this
  have bI:=iN (b:=1000000000) (by decide) a
  have hp:1000000000^(aD 1000000000 a).length≤1000000000^2:=aMH (by decide) h2
  have hm:a / 1000000000<1000000000:=aMY (by omega)
  rw[aL8 hm] at c1
  have hmd:=aMN a 1000000000
  have w1:IntKind.i64.wrap (1000000000*((a / 1000000000:Nat):Int))=((1000000000*(a / 1000000000):Nat):Int):=wrapN _ (by omega) (by omega)
  have w2:IntKind.i64.wrap (((a % 1000000000:Nat):Int)+((1000000000*(a / 1000000000):Nat):Int))=(a:Int):=wrapN _ (by omega) (by omega)
  simp only[Cu,Am,cN,h3,c0,c1,w1,w2,VX,Nat.reduceEqDiff,Nat.reduceAdd]
  exact aJ rfl
 ·rw[if_neg h2]
  have h3:(2:Int)<((aD 1000000000 a).length:Int):=by omega
  simp only[Cu,Am,cN,h3,VX,Nat.reduceEqDiff,Nat.reduceAdd]
  exact aJ rfl
theorem alP {outs:List Nat} {n cap x:Nat} (hn:n=outs.length) (hc:n<cap):dO 0 1 8 (.ref 0 0 0 n cap) [VI (x:Int)] [.row 0 ((outs++aLu (cap-n) 0).map tV) 1 true]=some (.ref 0 0 0 (n+1) cap,[.row 0 (((outs++[x])++aLu (cap-(n+1)) 0).map tV) 1 true]):=by
 subst hn
 simp only[dO,aU,List.length_map,aKP,aMt,aKO,aMh,aMc]
 rw[if_pos ⟨by decide,by decide⟩,if_pos ⟨trivial,aKE _,by omega⟩,if_pos (by omega),if_neg (by omega),if_pos (by omega)]
 congr 3
 have e:aLu (cap-outs.length) 0=(0:Nat)::aLu (cap-(outs.length+1)) 0:=by
  rw[show cap-outs.length=(cap-(outs.length+1))+1 by omega,List.replicate_succ]
 simp only[dE,List.set_cons_zero,e,aM1,List.map_cons,aKO,aMh,List.map_nil]
 congr 1
 rw[aM2 (by simp),←List.drop_drop,List.drop_left' (by simp)]
 simp
theorem BD (a d:Nat) (FD:0<d) (hd:d<1000000000) (ha:(aD 1000000000 a).length<17592186044416):TC 203 [cA a,VI (d:Int)] (cA (a*d)):=by
 refine TC.walk ⟨true,false⟩ IL rfl (aMs rfl) (by simp[aO,cK];rfl) (pW _) ?_
 have w0:IntKind.i64.wrap (((aD 1000000000 a).length:Int)+1)=(((aD 1000000000 a).length+1:Nat):Int):=wrapN _ (by omega) (by omega)
 have mk:Bc [.int .i64 0] 8 (VI 0) (VI (((aD 1000000000 a).length+1:Nat):Int)) []=some (.ref 0 0 0 0 ((aD 1000000000 a).length+1),[.row 0 ((([]:List Nat)++aLu ((aD 1000000000 a).length+1-0) 0).map tV) 1 true]):=by
  simp only[Bc]
  rw[if_pos ⟨by omega,by omega,by omega,by omega⟩]
  simp
  rfl
 simp only[Dy,Bo,cN,w0,mk,VX,Nat.reduceEqDiff,Nat.reduceAdd]
 refine aP (fun(s:Nat×List Nat×Nat) ρ H=>s.1=s.2.1.length∧s.1≤(aD 1000000000 a).length∧H=[.row 0 ((s.2.1++aLu ((aD 1000000000 a).length+1-s.1) 0).map tV) 1 true]∧s.2.2<d∧aD 1000000000 (a*d)=s.2.1++aD 1000000000 (a / 1000000000^s.1*d+s.2.2) ∧
  ρ 1=VI d∧ρ 5 = .ref 0 0 0 s.1 ((aD 1000000000 a).length+1)∧ρ 6=VI s.2.2∧ρ 14=cA a∧ρ 15=VI (aD 1000000000 a).length∧ρ 16=VI s.1) (fun s=>(aD 1000000000 a).length-s.1) (0,[],0) ⟨rfl,aK8 _,rfl,FD,by simp,rfl,rfl,rfl,rfl,rfl,rfl⟩ ?_
 rintro⟨i,outs,c⟩ ρ H ⟨hi,vA,rfl,hc,hv,g1,g5,g6,g14,g15,g16⟩
 simp only at hi vA hc hv g5 g6 g16
 by_cases bW:(i:Int)<((aD 1000000000 a).length:Int)
 ·have hx:=O5 (b:=1000000000) (by decide) (n:=a) (i:=i) (by omega)
  have hA:=(G2 (b:=1000000000) (by decide) (n:=a) (i:=i)).1 (by omega)
  have e1:∀H,bJ 1 (cA a) (VI i) H=some (.cG (tV (a / 1000000000^i % 1000000000)) 0):=fun H=>aH (f:=tV) (t := .op) (size:=1) (k := .i64) hx rfl
  have lx:=aK6 (a / 1000000000^i) (show 0<1000000000 by decide)
  have gF:a / 1000000000^i*d+c≠0:=by
   have:=Nat.mul_ne_zero hA (show d≠0 by omega)
   omega
  rw[acU (by decide) gF,←vN] at hv
  generalize a / 1000000000^i % 1000000000=x at *
  have hxd:x*d≤999999999*999999999:=aMX (by omega) (by omega)
  have w1:IntKind.i64.wrap ((x:Int)*(d:Int))=((x*d:Nat):Int):=wrapN _ (by simp) (by omega)
  have w2:IntKind.i64.wrap (((x*d:Nat):Int)+(c:Int))=((x*d+c:Nat):Int):=wrapN _ (by omega) (by omega)
  have wi:IntKind.i64.wrap ((i:Int)+1)=((i+1:Nat):Int):=wrapN (i+1) (by omega) (by omega)
  have r1:=QK (x*d+c)
  have q1:=Rz (x*d+c) (by omega)
  have a1:=alP (outs:=outs) (n:=i) (cap:=(aD 1000000000 a).length+1) (x:=(x*d+c) % 1000000000) hi (by omega)
  have hq:(x*d+c) / 1000000000<d:=by
   rw[aM0 (by decide)]
   have h1:x*d≤999999999*d:=aK5 _ (by omega)
   omega
  simp only[nS,g1,g5,g6,g14,g15,g16,bW,e1,w1,w2,wi,r1,q1,wZ,zP,a1,VX,Nat.reduceEqDiff,Nat.reduceAdd]
  refine⟨(i+1,outs++[(x*d+c) % 1000000000],(x*d+c) / 1000000000),by simp only;omega,by simp;omega,by simp only;omega,rfl,hq,by rw[hv,aMq];rfl,?_⟩
  try (repeat' apply aMk)<;>first | rfl | trivial
 ·have mH:i=(aD 1000000000 a).length:=by omega
  have hz:a / 1000000000^i=0:=by
   have:=mt (G2 (b:=1000000000) (by decide) (n:=a) (i:=i)).2
   omega
  rw[hz,Nat.zero_mul,aMc] at hv
  by_cases hcp:(0:Int)<(c:Int)
  ·rw[FE (b:=1000000000) (by decide) (show c≠0 by omega) (show c<1000000000 by omega)] at hv
   have a1:=alP (outs:=outs) (n:=i) (cap:=(aD 1000000000 a).length+1) (x:=c) hi (by omega)
   simp only[nS,g1,g5,g6,g14,g15,g16,bW,hcp,wZ,zP,a1,VX,Nat.reduceEqDiff,Nat.reduceAdd]
   rw[cA,hv]
   rw[ZN aU (by simp;omega) (by omega) (fN fun _=>rfl)]
   rw[aM1,aM2 (by simp;omega)]
  ·have hc0:c=0:=by omega
   rw[hc0,cE,aLM] at hv
   simp only[nS,g1,g5,g6,g14,g15,g16,bW,hcp,VX,Nat.reduceEqDiff,Nat.reduceAdd]
   rw[cA,hv]
   rw[ZN aU (by simp;omega) (by omega) (fN fun _=>rfl)]
   rw[aM1,aM2 (by simp;omega)]
theorem ND (a b:Nat) (ha:a≤9223372036854775807) (hb:0<b):dK .quo (.int .i64 (a:Int)) (.int .i64 (b:Int))=some (.int .i64 ((a / b:Nat):Int)):=by
 have h1:¬((b:Int)=0):=by omega
 have h2:(a:Int).tdiv (b:Int)=((a / b:Nat):Int):=by rw[aMF (by omega)];simp
 have h3:a / b≤a:=Nat.div_le_self _ _
 simp only[dK,if_true,h1,if_false,h2]
 generalize a / b=q at *
 rw[wrap64 (by omega) (by omega)]
theorem Pw (a b:Nat) (hb:0<b):dK .rem (.int .i64 (a:Int)) (.int .i64 (b:Int))=some (.int .i64 ((a % b:Nat):Int)):=by
 have h1:¬((b:Int)=0):=by omega
 have h2:(a:Int).tmod (b:Int)=((a % b:Nat):Int):=by rw[aMG (by omega)];simp
 simp only[dK,if_true,h1,if_false,h2]
theorem akM {r d x:Nat} (hr:r<d) (hd:d<1000000000) (hx:x<1000000000):r*1000000000+x≤9223372036854775807:=by omega
theorem awK {r d x:Nat} (FD:0<d) (hr:r<d) (hx:x<1000000000):(r*1000000000+x) / d<1000000000:=by
 rw[aM0 FD]
 omega
theorem Bf (a d:Nat) (FD:0<d) (hdT:d<1000000000) (ha:(aD 1000000000 a).length≤17592186044416):TC 202 [cA a,VI (d:Int)] (.dW [cA (a / d),VI ((a % d:Nat):Int)]):=by
 refine TC.walk ⟨true,false⟩ Iq rfl (aMs rfl) (by simp[aO,cK];rfl) (by simp[gU,sO,pW,qH]) ?_
 have va:=cL (b:=1000000000) (by decide) a
 have la:=gH (b:=1000000000) (by decide) a
 unfold cA
 generalize aD 1000000000 a=xs at *
 have w0:IntKind.i64.wrap ((xs.length:Int)-1)=(xs.length:Int)-1:=wrap64 (by omega) (by omega)
 simp only[Dk,BR,eR,w0,Ty xs.length (by omega),VX,Nat.reduceEqDiff,Nat.reduceAdd]
 refine aP (fun(s:Nat×List Nat×Nat) ρ H=>s.1≤xs.length∧H=[.row 0 (s.2.1.map tV) 1 true]∧s.2.1.length=xs.length∧(∀d∈s.2.1,d<1000000000)∧s.2.2<d∧val 1000000000 (s.2.1.drop s.1)*d+s.2.2=val 1000000000 (xs.drop s.1) ∧
  ρ 0=jJ xs∧ρ 1=VI d∧ρ 6 = .ref 0 0 0 xs.length xs.length∧ρ 7=VI s.2.2∧ρ 8=VI ((s.1:Int)-1)) (fun s=>s.1) (xs.length,aLu xs.length 0,0) ⟨aKE _,rfl,by simp,CA (by decide) _,FD,by simp[val,aMZ],rfl,rfl,rfl,rfl,rfl⟩ ?_
 rintro⟨j,outs,r⟩ ρ H ⟨hj,rfl,gZ,nO,hr,hv,g0,g1,g6,g7,g8⟩
 simp only at hj gZ nO hr hv g7 g8
 by_cases hz:(0:Int)≤(j:Int)-1
 ·obtain⟨i,rfl⟩:∃i,j=i+1:=⟨j-1,by omega⟩
  obtain⟨x,hx⟩:∃x,xs[i]? = some x:=⟨_,aKL (by omega)⟩
  have lx:=la x (aLy hx)
  have Ee:((i+1:Nat):Int)-1=(i:Int):=by omega
  rw[Ee] at g8 hz
  have e1:=aH (f:=tV) (t := .op) (H:=[.row 0 (outs.map tV) 1 true]) (size:=1) (k := .i64) hx rfl
  have e3:bJ 1 (.ref 0 0 0 xs.length xs.length) (VI i) [.row 0 (outs.map tV) 1 true]=some (.ptr 0 0 i 0):=adT (by omega)
  have e4:∀s:Nat,bL 0 1 (.ptr 0 0 i 0) (VI (s:Int)) [.row 0 (outs.map tV) 1 true]=some [.row 0 ((outs.set i s).map tV) 1 true]:=fun s=>SJ (by omega)
  have w2:IntKind.i64.wrap ((i:Int)-1)=(i:Int)-1:=wrap64 (by omega) (by omega)
  have w4:IntKind.i64.wrap ((r:Int)*1000000000)=((r*1000000000:Nat):Int):=wrapN _ (by omega) (by omega)
  have w5:IntKind.i64.wrap (((r*1000000000:Nat):Int)+(x:Int))=((r*1000000000+x:Nat):Int):=wrapN _ (by omega) (by omega)
  have GJ:r*1000000000+x≤9223372036854775807:=akM hr hdT lx
  have q1:=ND (r*1000000000+x) d GJ FD
  have q2:=Pw (r*1000000000+x) d FD
  have hq:(r*1000000000+x) / d<1000000000:=awK FD hr lx
  simp only[tE,g0,g1,g6,g7,g8,hz,e1,e3,e4,w2,w4,w5,q1,q2,VX,Nat.reduceEqDiff,Nat.reduceAdd]
  refine⟨(i,outs.set i ((r*1000000000+x) / d),(r*1000000000+x) % d),by simp only;omega,by omega,rfl,by rw[aMC];exact gZ,nW nO hq,aK6 _ FD,?_,by (repeat' apply aMk)<;>first | rfl | trivial⟩
  have h1:=aMN (r*1000000000+x) d
  rw[set_drop (by omega),vS,wD hx,←hv]
  exact VG h1
 ·have Xv:j=0:=by omega
  subst Xv
  rw[aLQ,aLQ,va] at hv
  have h1:a / d=val 1000000000 outs:=by
   rw[←hv,aL6,Nat.mul_add_div FD,aMb hr,aML]
  have h2:a % d=r:=by
   rw[←hv,aL6,Nat.mul_add_mod,aL8 hr]
  simp only[tE,g0,g1,g6,g7,g8,hz,VX,Nat.reduceEqDiff,Nat.reduceAdd]
  refine Lw (m:=a / d) nO gZ.symm (by omega) h1.symm ?_
  simp only[g7,VX,Nat.reduceEqDiff,Nat.reduceAdd]
  rw[h2]
  exact aJ (by simp[aY,aO,AX,cA,qH])
end Go.PM