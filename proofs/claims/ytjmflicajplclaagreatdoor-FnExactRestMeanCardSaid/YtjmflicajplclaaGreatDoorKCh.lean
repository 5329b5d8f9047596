/- Texts of a claim, in one: part 8. -/
import Derived.Test.YtjmflicajplclaaGreatDoorKCg
open And renaming intro → aMd
open Int renaming natCast_add → aMI,natCast_zero → aMC,tdiv_eq_ediv_of_nonneg → aMy,tmod_eq_emod_of_nonneg → aMz,toNat_natCast → aLT
open List renaming append_assoc → aMj,append_nil → aLF,drop_eq_getElem_cons → aKC,drop_length → aMH,drop_of_length_le → aMq,drop_replicate → aMS,drop_zero → aLJ,getD_eq_getElem?_getD → aKu,getElem?_eq_getElem → aKE,getElem?_eq_none → aKX,getElem?_eq_none_iff → aMO,getElem?_eq_some_iff → aKw,getElem?_set_ne → aKW,length_append → aKI,length_cons → aKH,length_eq_zero_iff → aMF,length_nil → aMa,length_replicate → aMm,length_set → aMv,length_singleton → aMM,length_take → aL6,map_append → aMU,mem_of_getElem? → aLr,mem_of_mem_take → aLu,replicate → aLn,take_append_drop → aLG,take_left' → aMV,take_length → aLK,take_of_length_le → aLq,take_replicate → aMP
open Nat renaming add_mul → aK2,add_zero → aME,div_div_eq_div_mul → aMK,div_eq_of_lt → aL4,div_lt_iff_lt_mul → aMT,div_lt_of_lt_mul → aMR,eq_zero_or_pos → aMB,le_of_ble_eq_true → aMl,le_refl → aKx,lt_or_ge → aKA,mod_add_div → aMG,mod_eq_of_lt → aL1,mod_lt → aKZ,mul_assoc → aMN,mul_comm → aLZ,mul_le_mul → aMQ,mul_le_mul_right → aKY,mul_zero → aMD,pow_add → aML,pow_le_pow_right → aMA,pow_succ → aLY,pow_zero → aMJ,zero_add → aL5,zero_le → aK1
set_option linter.unusedSimpArgs false
set_option linter.unusedVariables false
namespace Go.PM
abbrev uV (d:Nat):VV := .sc (.int .u32 (d:Int))
abbrev C0 (ds:List Nat):VV:=aC uV ds
def bR (n:Nat):VV:=C0 (aD 4294967296 n)
theorem Yr:∀d:Nat,(aB (uV d)).length=1:=fun _=>rfl
theorem abM (ds:List Nat):aY (C0 ds)=true:=mN Yr fun _=>rfl
theorem akR (ds:List Nat):gZ (C0 ds)=true:=zL Yr (fun _=>rfl) fun _=>rfl
theorem bU (n:Nat):aY (bR n)=true:=abM _
theorem tQ (n:Nat):gZ (bR n)=true:=akR _
theorem Gt:bR 0 = .tree [] .op:=by rw[bR,cF];rfl
theorem Zz (a b:Nat) (ha:a<18446744073709551616) (hb:0<b):dK .quo (.int .u64 (a:Int)) (.int .u64 (b:Int))=some (.int .u64 ((a / b:Nat):Int)):=by
 have h1:¬((b:Int)=0):=by omega
 have h2:(a:Int).tdiv (b:Int)=((a / b:Nat):Int):=by rw[aMy (by omega)];simp
 have h3:a / b≤a:=Nat.div_le_self _ _
 simp only[dK,if_true,h1,if_false,h2]
 rw[eR _ (by omega)]
theorem Tk (a b:Nat) (hb:0<b):dK .rem (.int .u64 (a:Int)) (.int .u64 (b:Int))=some (.int .u64 ((a % b:Nat):Int)):=by
 have h1:¬((b:Int)=0):=by omega
 have h2:(a:Int).tmod (b:Int)=((a % b:Nat):Int):=by rw[aMz (by omega)];simp
 simp only[dK,if_true,h1,if_false,h2]
theorem azO (n s:Nat) (hn:n<4294967296) (hs:s≤31):dK .shl (.int .u64 (n:Int)) (.int .i64 (s:Int))=some (.int .u64 ((n*2^s:Nat):Int)):=by
 have h1:¬((s:Int)<0):=by omega
 have h2:Nat.min (Int.toNat (s:Int)) IntKind.u64.bits=s:=by
  rw[aLT]
  exact Nat.min_eq_left (by show s≤64;omega)
 have h3:2^s≤2^31:=aMA (by decide) hs
 have h4:n*2^s≤n*2^31:=Nat.mul_le_mul_left _ h3
 simp only[dK,h1,if_false,h2]
 congr 2
 have e:(n:Int)*2^s=((n*2^s:Nat):Int):=by simp
 rw[e]
 exact eR _ (by omega)
theorem anT (n s:Nat) (hs:s≤31):dK .shr (.int .u64 (n:Int)) (.int .i64 (s:Int))=some (.int .u64 ((n / 2^s:Nat):Int)):=by
 have h1:¬((s:Int)<0):=by omega
 have h2:Nat.min (Int.toNat (s:Int)) IntKind.u64.bits=s:=by
  rw[aLT]
  exact Nat.min_eq_left (by show s≤64;omega)
 simp only[dK,h1,if_false,h2]
 congr 2
 rw[Int.fdiv_eq_ediv_of_nonneg _ (by exact Int.le_of_lt (Int.pow_pos (by decide)))]
 simp
theorem awD (a m s:Nat) (ha:a<2^s) (hm:m*2^s+a<4294967296):dK .or (.int .u32 (a:Int)) (.int .u32 ((m*2^s:Nat):Int))=some (.int .u32 ((a+m*2^s:Nat):Int)):=by
 have e:a ||| (m*2^s)=a+m*2^s:=by
  have:=Nat.shiftLeft_add_eq_or_of_lt ha m
  rw[Nat.shiftLeft_eq] at this
  rw[Nat.or_comm,←this,Nat.add_comm]
 have e1:(BitVec.ofInt IntKind.u32.bits (a:Int) ||| BitVec.ofInt IntKind.u32.bits ((m*2^s:Nat):Int)).toNat=a+m*2^s:=by
  show (BitVec.ofInt 32 (a:Int) ||| BitVec.ofInt 32 ((m*2^s:Nat):Int)).toNat=a+m*2^s
  rw[BitVec.toNat_or,BitVec.ofInt_natCast,BitVec.ofInt_natCast,BitVec.toNat_ofNat,BitVec.toNat_ofNat,aL1 (by omega),aL1 (by omega),e]
 simp only[dK,if_true,e1]
 rw[wrap32,aL1 (by omega)]
section
variable {rows:List Nat} {b g c n e:Nat} {w:Bool} {H:aA}
theorem Nr {m d:Nat} (hr:aG H b g=some (rows.map uV,1,w)) (hn:n≤rows.length) (hc:n≤c) (he:rows.take n=aD 4294967296 m):fz (d+2) H (.ref b g 0 n c)=some (bR m):=by
 have:aY (.ref b g 0 n c)=false:=rfl
 unfold fz
 simp only[this,hr,Bool.false_eq_true,if_false]
 have BX:aO ((rows.map uV).take n)=true:=by rw[←List.map_take];exact fO fun _=>rfl
 rw[if_pos ⟨by simpa using hn,hc⟩,aLJ,mapM_pure BX,←List.map_take,he]
 rfl
theorem SX {m:Nat} (hr:aG H b g=some (rows.map uV,1,w)) (hn:n≤rows.length) (hc:n≤c) (he:rows.take n=aD 4294967296 m):fz depth H (.ref b g 0 n c)=some (bR m):=Nr (d:=6) hr hn hc he
theorem bN {d:Nat} {u u' v v':VV} (h1:fz (d+1) H u=some u') (h2:fz (d+1) H v=some v'):fz (d+2) H (.eG [u,v])=some (.eG [u',v']):=by
 have e:fz (d+2) H (.eG [u,v])=if aY (.eG [u,v])=true then some (.eG [u,v]) else ([u,v].mapM (fz (d+1) H)).map .eG:=rfl
 rw[e]
 by_cases hp:aY (.eG [u,v])=true
 ·rw[if_pos hp]
  simp only[aY,aO,Bool.and_eq_true,and_true] at hp
  rw[aN hp.1] at h1
  rw[aN hp.2] at h2
  cases h1
  cases h2
  rfl
 ·rw[if_neg hp,List.mapM_cons,h1,List.mapM_cons,h2]
  rfl
theorem kB {j d:Nat} (hr:aG H b g=some (rows.map uV,1,w)) (hj:rows[j]? = some d):bF false 1 (.ptr b g j 0) H=some (uV d):=qA hr hj
theorem SK {xs:List Nat} {m d:Nat} (hm:xs.length=m+1) (hd:xs[m]? = some d) (h:d≠0):xs.getLast? ≠ some 0:=by
 rw[List.getLast?_eq_getElem?,hm,Nat.add_sub_cancel,hd]
 simpa using h
end
theorem anI {rows:List Nat} {b g n c:Nat} {w:Bool} {H:aA} {lo:Nat} (hr:aG H b g=some (rows.map uV,1,w)) (hn:n≤rows.length) (hc:n≤c) (Fs:n≤70368744177664) (hd:∀d∈rows.take n,d<4294967296) :
  jE 182 [.ref b g 0 n c] lo H fun r H'=>H'=H∧∃k,k≤n∧r = .ref b g 0 k c∧rows.take k=aD 4294967296 (val 4294967296 (rows.take n)):=by
 refine jE.walk ⟨true,false⟩ Cq (aMl rfl) ?_
 simp only[Aj,wX,VX,Nat.reduceEqDiff,Nat.reduceAdd]
 refine aP (fun(k:Nat) ρ H'=>k≤n∧H'=H∧val 4294967296 (rows.take k)=val 4294967296 (rows.take n)∧ρ 0 = .ref b g 0 k c) (fun k=>k) n ⟨aKx _,rfl,rfl,rfl⟩ ?_
 rintro k ρ H' ⟨hk,rfl,hv,h0⟩
 have e0:rW (.ref b g 0 k c) H'=some (VI k):=eH hr
 have done:(rows.take k).getLast? ≠ some 0→rows.take k=aD 4294967296 (val 4294967296 (rows.take n)):=fun fS=>by
  rw[←hv,PE (by decide) (fun d h=>hd d ?_) fS]
  exact(List.take_sublist_take_left hk).mem h
 rcases aMB k with hz | hp
 ·subst hz
  simp only[gN,h0,e0,Int.reduceLT,aMC,VX,Nat.reduceEqDiff,Nat.reduceAdd]
  exact⟨0,hk,rfl,done (by simp)⟩
 ·obtain⟨m,rfl⟩:∃m,k=m+1:=⟨k-1,by omega⟩
  obtain⟨d,hdd⟩:∃d,rows[m]? = some d:=⟨_,aKE (by omega)⟩
  have BX:(0:Int)<((m+1:Nat):Int):=by omega
  have w1:IntKind.i64.wrap (((m+1:Nat):Int)-1)=(m:Int):=by rw[wrap64 (by omega) (by omega)];omega
  have e1:bJ 1 (.ref b g 0 (m+1) c) (VI m) H'=some (.ptr b g m 0):=by rw[bB hr (by omega),aL5]
  have e2:=kB hr hdd
  by_cases F9:(d:Int)=0
  ·have hd1:d=0:=by omega
   subst hd1
   have e3:Hf 1 (.ref b g 0 (m+1) c) none (some (VI m)) none H'=some (.ref b g 0 m c):=rK hr (by omega)
   simp only[gN,h0,e0,BX,w1,e1,e2,e3,F9,VX,Nat.reduceEqDiff,Nat.reduceAdd]
   refine⟨m,by omega,by omega,?_,rfl⟩
   rw[←hv,bE hdd,aMD,aME]
  ·simp only[gN,h0,e0,BX,w1,e1,e2,F9,VX,Nat.reduceEqDiff,Nat.reduceAdd]
   refine⟨m+1,hk,rfl,done (SK (m:=m) (d:=d) (by rw[aL6];omega) ?_ (by omega))⟩
   rw[List.getElem?_take_of_lt (by omega)]
   exact hdd
theorem aeS (ds:List Nat) (t:TK) {lo:Nat} {H:aA} (h:∀d∈ds,d<4294967296) (hlen:ds.length≤70368744177664) :
  jE 182 [.tree (ds.map uV) t] lo H fun r H'=>H'=H∧∃t',(t'=t∨t' = .op)∧r = .tree ((aD 4294967296 (val 4294967296 ds)).map uV) t':=by
 refine jE.walk ⟨true,false⟩ Cq (aMl rfl) ?_
 simp only[Aj,wX,VX,Nat.reduceEqDiff,Nat.reduceAdd]
 refine aP (fun(s:List Nat×TK) ρ H'=>(∀d∈s.1,d<4294967296)∧val 4294967296 s.1=val 4294967296 ds∧s.1.length≤ds.length∧H'=H∧(s.2=t∨s.2 = .op)∧ρ 0 = .tree (s.1.map uV) s.2) (fun s=>s.1.length) (ds,t) ⟨h,rfl,aKx _,rfl,.inl rfl,rfl⟩ ?_
 rintro⟨xs,t'⟩ ρ H' ⟨hx,hv,hl,rfl,ht,h0⟩
 simp only at hx hv hl ht h0
 have done:xs.getLast? ≠ some 0→xs=aD 4294967296 (val 4294967296 ds):=fun fS=>by rw[←hv,PE (by decide) hx fS]
 rcases aMB xs.length with hz | hp
 ·have hxn:xs=[]:=aMF.1 hz
  subst hxn
  simp only[gN,h0,Int.reduceLT,aMC,VX,Nat.reduceEqDiff,Nat.reduceAdd]
  exact⟨t',ht,by rw[←done (by simp)];rfl⟩
 ·obtain⟨m,hm⟩:∃m,xs.length=m+1:=⟨xs.length-1,by omega⟩
  obtain⟨d,hd⟩:∃d,xs[m]? = some d:=⟨_,aKE (by omega)⟩
  have BX:(0:Int)<((m+1:Nat):Int):=by omega
  have w1:IntKind.i64.wrap (((m+1:Nat):Int)-1)=(m:Int):=by rw[wrap64 (by omega) (by omega)];omega
  have e1:=aH (f:=uV) (t:=t') (H:=H') (size:=1) (k := .i64) hd rfl
  by_cases F9:(d:Int)=0
  ·have hd1:d=0:=by omega
   subst hd1
   have e2:=MJ (f:=uV) (size:=1) (t:=t') (H:=H') (k2 := .i64) (xs:=xs) (h:=m) Yr (by omega) (by omega)
   have Wt:xs=xs.take m++[0]:=by
    have:=aLG m xs
    have h3:=(aKw.1 hd)
    rw[aKC h3.1,h3.2,aMq (by omega)] at this
    exact this.symm
   simp only[gN,h0,hm,BX,w1,e1,e2,F9,VX,Nat.reduceEqDiff,Nat.reduceAdd]
   refine⟨(xs.take m,.op),by simp only[aL6];omega,fun d hd=>hx d (aLu hd),?_,by simp only[aL6];omega,.inr rfl,rfl⟩
   rw[←hv]
   conv=>rhs;rw[Wt]
   rw[vY]
   simp
  ·simp only[gN,h0,hm,BX,w1,e1,F9,VX,Nat.reduceEqDiff,Nat.reduceAdd]
   exact⟨t',ht,by rw[←done (SK hm hd (by omega))]⟩
theorem vC {rows:List Nat} {b g n c:Nat} {w:Bool} {H:aA} {K:VV→aA→Prop} {m lo:Nat} (hr:aG H b g=some (rows.map uV,1,w)) (hn:n≤rows.length) (hc:n≤c) (Fs:n≤70368744177664) (hd:∀d∈rows.take n,d<4294967296) (hm:val 4294967296 (rows.take n)=m)
  (hk:∀k,k≤n→rows.take k=aD 4294967296 m→K (.ref b g 0 k c) H):dH 182 [.ref b g 0 n c] lo H K:=by
 refine fV rfl ((anI hr hn hc Fs hd).mono ?_)
 rintro r H' ⟨rfl,k,h1,rfl,h2⟩
 rw[hm] at h2
 exact hk k h1 h2
theorem OK {ds:List Nat} {t:TK} {lo:Nat} {H:aA} {K:VV→aA→Prop} {m:Nat} (h:∀d∈ds,d<4294967296) (hlen:ds.length≤70368744177664) (hm:val 4294967296 ds=m) (hk:∀t',(t'=t∨t' = .op)→K (.tree ((aD 4294967296 m).map uV) t') H):dH 182 [.tree (ds.map uV) t] lo H K:=by
 refine fV rfl ((aeS ds t h hlen).mono ?_)
 rintro r H' ⟨rfl,t',h1,rfl⟩
 rw[hm]
 exact hk t' h1
theorem arC {H:aA} {m:Nat} {t:TK} (ht:t = .cl 1∨t = .op):fz depth H (.tree ((aD 4294967296 m).map uV) t)=some (bR m):=by
 rcases ht with rfl | rfl
 ·exact atV (fO fun _=>rfl)
 ·exact aL (bU m)
end Go.PM
namespace Go.PM
theorem oW (n:Nat) (h:n<18446744073709551616):TC 139 [VK .u64 n] (bR n):=by
 refine TC.walk ⟨true,false⟩ TQ rfl (aMl rfl) rfl (tQ _) ?_
 have e1:=amE (H:=[]) (z:=[.int .u32 0]) (u:=uV (n % 4294967296)) (v:=uV (n / 4294967296 % 4294967296)) rfl rfl rfl rfl rfl
 have hm:∀d∈[n % 4294967296,n / 4294967296 % 4294967296],d<4294967296:=by
  intro d hd
  simp only[List.mem_cons,List.not_mem_nil,or_false] at hd
  rcases hd with rfl | rfl<;>exact aKZ _ (by decide)
 have hv:val 4294967296 [n % 4294967296,n / 4294967296 % 4294967296]=n:=by
  simp only[val]
  have:=aMG n 4294967296
  rw[aL1 (show n / 4294967296<4294967296 by omega)]
  omega
 simp only[NV,Jf,wrap32,qQ,e1,VX,Nat.reduceEqDiff,Nat.reduceAdd]
 refine OK (ds:=[n % 4294967296,n / 4294967296 % 4294967296]) (t := .cl 1) hm (by show 2≤70368744177664;decide) hv fun t' ht => ?_
 simp only[VX,Nat.reduceEqDiff,Nat.reduceAdd]
 exact arC ht
theorem DD (n:Nat) (hn:(aD 4294967296 n).length≤17592186044416):TC 193 [bR n] (if (aD 4294967296 n).length≤2 then .eG [VK .u64 n,VB true] else .eG [VK .u64 0,VB false]):=by
 refine TC.walk ⟨true,false⟩ Iq rfl (aMl rfl) (by simp[aO,bU]) (by split<;>rfl) ?_
 have hv:=cL (b:=4294967296) (by decide) n
 have hl:=gI (b:=4294967296) (by decide) n
 unfold bR C0
 generalize aD 4294967296 n=ds at *
 have w1:IntKind.i64.wrap ((ds.length:Int)-1)=(ds.length:Int)-1:=wrap64 (by omega) (by omega)
 simp only[DJ,BR,w1,VX,Nat.reduceEqDiff,Nat.reduceAdd]
 by_cases h2:ds.length≤2
 ·rw[if_pos h2]
  have c2:(ds.length:Int)≤2:=by omega
  refine aP (fun(j:Nat) ρ H=>j≤ds.length∧H=[]∧ρ 0=aC uV ds∧ρ 4=VK .u64 (val 4294967296 (ds.drop j):Nat)∧ρ 5=VI ((j:Int)-1)) (fun j=>j) ds.length ⟨aKx _,rfl,rfl,by rw[aMH];rfl,rfl⟩ ?_
  rintro j ρ H ⟨hj,rfl,g0,g4,g5⟩
  by_cases hz:(0:Int)≤(j:Int)-1
  ·obtain⟨i,rfl⟩:∃i,j=i+1:=⟨j-1,by omega⟩
   obtain⟨x,hx⟩:∃x,ds[i]? = some x:=⟨_,aKE (by omega)⟩
   have Ev:((i+1:Nat):Int)-1=(i:Int):=by omega
   rw[Ev] at g5 hz
   have e1:=aH (f:=uV) (t := .op) (H:=[]) (size:=1) (k := .i64) hx rfl
   have lx:=hl x (aLr hx)
   have ld:=rO (b:=4294967296) (xs:=ds.drop (i+1)) fun d hd=>hl d (List.mem_of_mem_drop hd)
   have hle:(ds.drop (i+1)).length≤1:=by rw[List.length_drop];omega
   have hpw:4294967296^(ds.drop (i+1)).length≤4294967296^1:=aMA (by decide) hle
   rw[Nat.pow_one] at hpw
   have w2:IntKind.i64.wrap ((i:Int)-1)=(i:Int)-1:=wrap64 (by omega) (by omega)
   have w3:IntKind.u64.wrap (x:Int)=(x:Int):=eR _ (by omega)
   have w4:IntKind.u64.wrap (((val 4294967296 (ds.drop (i+1))*4294967296:Nat):Int)+(x:Int))=((val 4294967296 (ds.drop i):Nat):Int):=by
    rw[vK hx,←aMI,eR _ (by omega)]
    congr 1
    omega
   have w5:=GQ (val 4294967296 (ds.drop (i+1))) .u64 (by omega)
   simp only[nM,g0,g4,g5,hz,c2,e1,w2,w3,w4,w5,VX,Nat.reduceEqDiff,Nat.reduceAdd]
   exact⟨i,by omega,by omega,by (repeat' apply aMd)<;>first | rfl | trivial⟩
  ·have Xm:j=0:=by omega
   subst Xm
   rw[aLJ,hv] at g4
   simp only[nM,g0,g4,g5,hz,c2,VX,Nat.reduceEqDiff,Nat.reduceAdd]
   exact aL rfl
 ·rw[if_neg h2]
  have c2:¬(ds.length:Int)≤2:=by omega
  have c3:(0:Int)≤(ds.length:Int)-1:=by omega
  refine aP (fun(j:Nat) ρ H=>H=[]∧ρ 0=aC uV ds∧ρ 4=VK .u64 0∧ρ 5=VI ((ds.length:Int)-1)) (fun j=>j) 0 ⟨rfl,rfl,rfl,rfl⟩ ?_
  rintro j ρ H ⟨rfl,g0,g4,g5⟩
  simp only[nM,g0,g4,g5,c2,c3,VX,Nat.reduceEqDiff,Nat.reduceAdd]
  exact aL rfl
theorem lS (a b:Nat) (ha:(aD 4294967296 a).length≤17592186044416) (hb:(aD 4294967296 b).length≤17592186044416):TC 142 [bR a,bR b] (VI (gC a b)):=by
 refine TC.walk ⟨true,false⟩ KL rfl (aMl rfl) (by simp[aO,bU]) rfl ?_
 have fin:∀ {x:Int},x=gC a b→fz depth [] (VI x)=some (VI (gC a b)):=fun h=>by rw[h];exact aL rfl
 unfold bR C0
 by_cases hl:(((aD 4294967296 a).length:Nat):Int)=(((aD 4294967296 b).length:Nat):Int)
 ·have Ge:(aD 4294967296 a).length=(aD 4294967296 b).length:=by omega
  have w1:IntKind.i64.wrap ((((aD 4294967296 b).length:Nat):Int)-1)=(((aD 4294967296 b).length:Nat):Int)-1:=wrap64 (by omega) (by omega)
  simp only[wO,sN,hl,w1,VX,Nat.reduceEqDiff,Nat.reduceAdd]
  refine aP (fun(j:Nat) ρ H=>j≤(aD 4294967296 b).length∧H=[]∧(aD 4294967296 a).drop j=(aD 4294967296 b).drop j∧ρ 0=aC uV (aD 4294967296 a)∧ρ 1=aC uV (aD 4294967296 b)∧ρ 5=VI ((j:Int)-1)) (fun j=>j) (aD 4294967296 b).length ⟨aKx _,rfl,by rw[aMH,←Ge,aMH],rfl,rfl,rfl⟩ ?_
  rintro j ρ H ⟨hj,rfl,hd,h0,h1,h5⟩
  by_cases hz:(0:Int)≤(j:Int)-1
  ·obtain⟨i,rfl⟩:∃i,j=i+1:=⟨j-1,by omega⟩
   obtain⟨x,hx⟩:∃x,(aD 4294967296 a)[i]? = some x:=⟨_,aKE (by omega)⟩
   obtain⟨y,hy⟩:∃y,(aD 4294967296 b)[i]? = some y:=⟨_,aKE (by omega)⟩
   have Ev:((i+1:Nat):Int)-1=(i:Int):=by omega
   have e1:=aH (f:=uV) (t := .op) (H:=[]) (size:=1) (k := .i64) hx rfl
   have e2:=aH (f:=uV) (t := .op) (H:=[]) (size:=1) (k := .i64) hy rfl
   rw[Ev] at h5 hz
   have w2:IntKind.i64.wrap ((i:Int)-1)=(i:Int)-1:=wrap64 (by omega) (by omega)
   by_cases CR:(x:Int)=(y:Int)
   ·simp only[mU,h0,h1,h5,hz,e1,e2,CR,w2,VX,Nat.reduceEqDiff,Nat.reduceAdd]
    have azC:x=y:=by omega
    subst azC
    refine⟨i,by omega,by omega,?_⟩
    obtain⟨g1,g2⟩:=aKw.1 hx
    obtain⟨g3,g4⟩:=aKw.1 hy
    rw[aKC g1,aKC g3,g2,g4,hd]
    exact⟨rfl,rfl⟩
   ·by_cases bH:(x:Int)<(y:Int)
    ·simp only[mU,h0,h1,h5,hz,e1,e2,CR,bH,VX,Nat.reduceEqDiff,Nat.reduceAdd]
     refine fin ?_
     have:=G0 (gI (by decide) a) Ge hx hy hd (by omega)
     rw[cL (by decide),cL (by decide)] at this
     simp[gC,this]
    ·simp only[mU,h0,h1,h5,hz,e1,e2,CR,bH,VX,Nat.reduceEqDiff,Nat.reduceAdd]
     refine fin ?_
     have:=G0 (gI (by decide) b) Ge.symm hy hx hd.symm (by omega)
     rw[cL (by decide),cL (by decide)] at this
     rw[gC,if_neg (by omega),if_neg (by omega)]
  ·have Xm:j=0:=by omega
   subst Xm
   simp only[mU,h0,h1,h5,hz,VX,Nat.reduceEqDiff,Nat.reduceAdd]
   refine fin ?_
   have:=T5 (b:=4294967296) (by decide) (by simpa using hd)
   subst this
   simp[gC]
 ·by_cases bH:(((aD 4294967296 a).length:Nat):Int)<(((aD 4294967296 b).length:Nat):Int)
  ·simp only[wO,sN,hl,bH,VX,Nat.reduceEqDiff,Nat.reduceAdd]
   refine fin ?_
   have:=GZ (b:=4294967296) (by decide) (m:=a) (n:=b) (by omega)
   simp[gC,this]
  ·simp only[wO,sN,hl,bH,VX,Nat.reduceEqDiff,Nat.reduceAdd]
   refine fin ?_
   have:=GZ (b:=4294967296) (by decide) (m:=b) (n:=a) (by omega)
   rw[gC,if_neg (by omega),if_neg (by omega)]
end Go.PM
namespace Go.PM
section
variable {b:Nat}
theorem Ld (hb:2≤b) (n i:Nat):(aD b n).getD i 0=n / b^i % b:=by
 induction i generalizing n with
 |
  zero =>
  by_cases h:n=0
  ·subst h;simp[cF]
  ·rw[kQ hb h,List.getD_cons_zero,aMJ,Nat.div_one]
 |
  succ i ih =>
  by_cases h:n=0
  ·subst h;simp[cF]
  ·rw[kQ hb h,List.getD_cons_succ,ih,aMK,aLY,aLZ b]
theorem GF (hb:2≤b) {n i:Nat}:i<(aD b n).length↔n / b^i≠0:=by
 induction i generalizing n with
 |
  zero =>
  rw[aMJ,Nat.div_one,List.length_pos_iff]
  exact not_congr (nR hb)
 |
  succ i ih =>
  by_cases h:n=0
  ·subst h;simp[cF]
  ·rw[kQ hb h,aKH,Nat.add_lt_add_iff_right,ih,aMK,aLY,aLZ b]
theorem PF (hb:2≤b) {n i:Nat} (h:i<(aD b n).length):(aD b n)[i]? = some (n / b^i % b):=by
 rw[←Ld hb,aKu,aKE h]
 rfl
theorem abD (hb:2≤b) (n i:Nat):(aD b n).drop i=aD b (n / b^i):=by
 induction i generalizing n with
 | zero=>simp
 |
  succ i ih =>
  by_cases h:n=0
  ·subst h;simp[cF]
  ·rw[kQ hb h,List.drop_succ_cons,ih,aMK,aLY,aLZ b]
theorem wW (n i:Nat):n / b^(i+1)=n / b^i / b:=by rw[aMK,aLY]
theorem HV (xs:List Nat) (i:Nat):val b (xs.take (i+1))=val b (xs.take i)+b^i*xs.getD i 0:=by
 by_cases h:i<xs.length
 ·rw[bE (aKE h),aKu,aKE h]
  rfl
 ·rw[lD (by omega),lD (by omega),aKu,aKX (by omega)]
  simp
theorem Rp (hb:2≤b) {n d q:Nat} (hn:n≠0) (h:n=d+b*q) (hd:d<b):aD b n=d::aD b q:=by
 rw[kQ hb hn,h,Nat.add_mul_mod_self_left,aL1 hd,Nat.add_mul_div_left _ _ (by omega),aL4 hd,aL5]
theorem acY (hb:2≤b) {x y c:Nat} (h:x+y+c≠0):aD b (x+y+c)=(x % b+y % b+c) % b::aD b (x / b+y / b+(x % b+y % b+c) / b):=by
 refine Rp hb h ?_ (aKZ _ (by omega))
 have h1:=aMG x b
 have h2:=aMG y b
 have h3:=aMG (x % b+y % b+c) b
 have e:b*(x / b+y / b+(x % b+y % b+c) / b)=b*(x / b)+b*(y / b)+b*((x % b+y % b+c) / b):=by grind
 omega
theorem acF (hb:2≤b) {x d c:Nat} (h:x*d+c≠0):aD b (x*d+c)=(x % b*d+c) % b::aD b (x / b*d+(x % b*d+c) / b):=by
 refine Rp hb h ?_ (aKZ _ (by omega))
 have h1:=aMG x b
 have h3:=aMG (x % b*d+c) b
 have e:b*(x / b*d+(x % b*d+c) / b)=b*(x / b)*d+b*((x % b*d+c) / b):=by grind
 have e2:x*d=x % b*d+b*(x / b)*d:=by
  conv=>lhs;rw[←h1,aK2]
 omega
theorem Tz (hb:2≤b) {m n k:Nat} (hm:(aD b m).length≤k) (hn:(aD b n).length≤k):(aD b (m+n)).length≤k+1:=by
 refine oJ hb ?_
 have y1:=iN hb m
 have y2:=iN hb n
 have y3:b^(aD b m).length≤b^k:=aMA (by omega) hm
 have y4:b^(aD b n).length≤b^k:=aMA (by omega) hn
 have y5:b^k*2≤b^k*b:=Nat.mul_le_mul_left _ hb
 rw[aLY]
 omega
theorem SW (hb:2≤b) (m n:Nat):(aD b (m*n)).length≤(aD b m).length+(aD b n).length:=by
 refine oJ hb ?_
 rw[aML]
 exact Nat.mul_lt_mul'' (iN hb m) (iN hb n)
theorem Fo (hb:2≤b) {c:Nat} (h:c≠0) (hc:c<b):aD b c=[c]:=by
 rw[kQ hb h,aL1 hc,aL4 hc,cF]
end
end Go.PM
namespace Go.PM
abbrev tV (d:Nat):VV:=VI (d:Int)
abbrev jG (ds:List Nat):VV:=aC tV ds
def cA (n:Nat):VV:=jG (aD 1000000000 n)
theorem Iv:∀d:Nat,(aB (tV d)).length=1:=fun _=>rfl
theorem A3 (ds:List Nat):aY (jG ds)=true:=mN Iv fun _=>rfl
theorem acJ (ds:List Nat):gZ (jG ds)=true:=zL Iv (fun _=>rfl) fun _=>rfl
theorem cK (n:Nat):aY (cA n)=true:=A3 _
theorem pR (n:Nat):gZ (cA n)=true:=acJ _
theorem KQ:cA 0 = .tree [] .op:=by rw[cA,cF];rfl
theorem amO:cA 1=jG [1]:=by rw[cA,kQ (by decide) (by decide),cF]
theorem cN (n:Nat) {H:aA}:rW (cA n) H=some (VI (aD 1000000000 n).length):=eQ
section
variable {α:Type} {f:α→VV} {xs:List α} {x:α} {H:aA}
theorem NH {g e:Nat} {es:List VV} {w:Bool}:aG [.row g es e w] 0 g=some (es,e,w):=aT
theorem aEk {e bytes:Nat} (he:1≤e) (hb:1≤bytes) (E4:(xs.length+1)*bytes≤140737488355328):dP 0 e bytes (.ref 0 xs.length 0 xs.length xs.length) [f x] [.row xs.length (xs.map f) e true]=some (.ref 0 (xs.length+1) 0 (xs.length+1) (xs.length+1),[.row (xs.length+1) ((xs++[x]).map f) e true]):=by
 rw[jQ (f:=f) (x:=x) aT rfl (aKx _) he hb E4]
 rfl
theorem Vz {n g e:Nat} {w:Bool} (hp:∀x,aY (f x)=true) (hn:n=xs.length):fz depth [.row g (xs.map f) e w] (.ref 0 g 0 n n)=some (aC f xs):=IE aT (by simpa using hn) (aKx _) (fO hp)
end
theorem Od {lr:Bool}:mR lr [.int .i64 0] 0 [] []=some (.ref 0 0 0 0 0,[.row 0 (([]:List Nat).map tV) 1 true]):=mT (H:=[]) rfl
theorem wE {d:Int} {H:aA}:mR false [.int .i64 0] 1 [(0,VI d)] H=some (.tree [VI d] (.cl 1),H):=iX rfl rfl rfl
theorem zH {d:Int} {H:aA} {t:TK}:cW 1 (.tree [VI d] t) H=some [VI d]:=eV rfl rfl
theorem apI {ds:List Nat} {d:Nat} (h:ds.length<17592186044416):dP 0 1 8 (.ref 0 ds.length 0 ds.length ds.length) [VI (d:Int)] [.row ds.length (ds.map tV) 1 true]=some (.ref 0 (ds.length+1) 0 (ds.length+1) (ds.length+1),[.row (ds.length+1) ((ds++[d]).map tV) 1 true]):=aEk (f:=tV) (by decide) (by decide) (by omega)
theorem RY (n:Nat):dK .rem (.int .i64 (n:Int)) (.int .i64 1000000000)=some (.int .i64 ((n % 1000000000:Nat):Int)):=by
 have h2:(n:Int).tmod 1000000000=((n % 1000000000:Nat):Int):=by rw[aMz (by omega)];simp
 simp only[dK,if_true,h2]
 rfl
theorem RJ (n:Nat) (h:n≤9223372036854775807):dK .quo (.int .i64 (n:Int)) (.int .i64 1000000000)=some (.int .i64 ((n / 1000000000:Nat):Int)):=by
 have h2:(n:Int).tdiv 1000000000=((n / 1000000000:Nat):Int):=by rw[aMy (by omega)];simp
 simp only[dK,if_true,h2]
 rw[wrap64 (by omega) (by omega)]
 rfl
theorem wH (ds:List Nat) (h:∀d∈ds,d<1000000000) (hlen:ds.length≤70368744177664):TC 184 [jG ds] (cA (val 1000000000 ds)):=by
 refine TC.walk ⟨true,false⟩ Pz rfl (aMl rfl) (by simp[aO,A3]) (pR _) ?_
 simp only[I1,Gq,VX,Nat.reduceEqDiff,Nat.reduceAdd]
 refine aP (fun(xs:List Nat) ρ H'=>(∀d∈xs,d<1000000000)∧val 1000000000 xs=val 1000000000 ds∧xs.length≤ds.length∧H'=[]∧ρ 0=jG xs) (fun s=>s.length) ds ⟨h,rfl,aKx _,rfl,rfl⟩ ?_
 rintro xs ρ H' ⟨hx,hv,hl,rfl,h0⟩
 have done:xs.getLast? ≠ some 0→fz depth [] (jG xs)=some (cA (val 1000000000 ds)):=fun fS=>by rw[cA,←hv,PE (by decide) hx fS];exact aL (A3 _)
 rcases aMB xs.length with hz | hp
 ·have hxn:xs=[]:=aMF.1 hz
  subst hxn
  simp only[tX,h0,Int.reduceLT,aMC,eQ,aMa,VX,Nat.reduceEqDiff,Nat.reduceAdd]
  exact done (by simp)
 ·obtain⟨m,hm⟩:∃m,xs.length=m+1:=⟨xs.length-1,by omega⟩
  obtain⟨d,hd⟩:∃d,xs[m]? = some d:=⟨_,aKE (by omega)⟩
  have BX:(0:Int)<((m+1:Nat):Int):=by omega
  have w1:IntKind.i64.wrap (((m+1:Nat):Int)-1)=(m:Int):=by rw[wrap64 (by omega) (by omega)];omega
  have e1:=aH (f:=tV) (t := .op) (H:=[]) (size:=1) (k := .i64) hd rfl
  by_cases F9:(d:Int)=0
  ·have hd1:d=0:=by omega
   subst hd1
   have e2:=MJ (f:=tV) (size:=1) (t := .op) (H:=[]) (k2 := .i64) (xs:=xs) (h:=m) Iv (by omega) (by omega)
   have Wt:xs=xs.take m++[0]:=by
    have:=aLG m xs
    have h3:=(aKw.1 hd)
    rw[aKC h3.1,h3.2,aMq (by omega)] at this
    exact this.symm
   simp only[tX,h0,hm,BX,w1,e1,e2,F9,eQ,VX,Nat.reduceEqDiff,Nat.reduceAdd]
   refine⟨xs.take m,by simp only[aL6];omega,fun d hd=>hx d (aLu hd),?_,by simp only[aL6];omega,by first | rfl | exact⟨rfl,rfl⟩⟩
   rw[←hv]
   conv=>rhs;rw[Wt]
   rw[vY]
   simp
  ·simp only[tX,h0,hm,BX,w1,e1,F9,eQ,VX,Nat.reduceEqDiff,Nat.reduceAdd]
   exact done (SK hm hd (by omega))
theorem KZ {outs:List Nat} {n g m:Nat} {lo:Nat} {w:Bool} {K:VV→aA→Prop} (hd:∀d∈outs,d<1000000000) (hn:n=outs.length) (hlen:outs.length≤70368744177664) (hm:val 1000000000 outs=m) (hk:K (cA m) (dA [.row g (outs.map tV) 1 w] [0])) :
  dH 184 [.ref 0 g 0 n n] lo [.row g (outs.map tV) 1 w] K:=by
 subst hm
 rw[TC.arU (f:=tV) (wH outs hd hlen) aT hn (aKx _) Iv (fun _=>rfl) rfl rfl]
 exact hk
theorem UM {H:aA} (n:Nat):fz depth H (cA n)=some (cA n):=aL (cK n)
theorem tS (n:Int) (h1:n≤9223372036854775807):TC 178 [VI n] (cA n.toNat):=by
 refine TC.walk ⟨true,false⟩ Qj rfl (aMl rfl) rfl (pR _) ?_
 simp only[Md,HN,Od,VX,Nat.reduceEqDiff,Nat.reduceAdd]
 refine aP (fun(s:Int×List Nat) ρ H=>s.1≤9223372036854775807∧H=[.row s.2.length (s.2.map tV) 1 true]∧s.2.length≤63∧s.1.toNat*2^s.2.length≤9223372036854775807∧aD 1000000000 n.toNat=s.2++aD 1000000000 s.1.toNat∧ρ 0=VI s.1∧ρ 3 = .ref 0 s.2.length 0 s.2.length s.2.length) (fun s=>s.1.toNat) (n,[]) ⟨h1,rfl,by simp,by simp only[aMa,aMJ,Nat.mul_one];omega,rfl,rfl,rfl⟩ ?_
 rintro⟨m,ds⟩ ρ H ⟨hm,rfl,hl,bH,hd,g0,g3⟩
 simp only at hm hl bH hd g0 g3
 by_cases hp:(0:Int)<m
 ·obtain⟨k,rfl⟩:∃k:Nat,m=(k:Int):=⟨m.toNat,by omega⟩
  rw[aLT] at bH hd
  have hk0:k≠0:=by omega
  have IQ:ds.length<63:=by
   rcases aKA ds.length 63 with h | h
   ·exact h
   ·have e:2^ds.length=9223372036854775808:=by rw[show ds.length=63 by omega]
    rw[e] at bH
    omega
  have r1:=RY k
  have q1:=RJ k (by omega)
  have a1:=apI (ds:=ds) (d:=k % 1000000000) (by omega)
  simp only[A8,g0,g3,hp,r1,q1,wE,zH,a1,VX,Nat.reduceEqDiff,Nat.reduceAdd]
  refine⟨(((k / 1000000000:Nat):Int),ds++[k % 1000000000]),?_,by simp only;omega,by simp,by simp;omega,?_,?_,rfl,by simp⟩
  ·simp only[aLT];exact Nat.div_lt_self (by omega) (by decide)
  ·simp only[aLT,aKI,aMM,aLY]
   have h1:k / 1000000000*2≤k:=by omega
   have:=aKY (2^ds.length) h1
   rw[aMN,aLZ 2] at this
   omega
  ·simp only[aLT]
   rw[hd,kQ (by decide) hk0,aMj]
   rfl
 ·have hz:m.toNat=0:=by omega
  rw[hz,cF,aLF] at hd
  simp only[A8,g0,g3,hp,VX,Nat.reduceEqDiff,Nat.reduceAdd]
  rw[cA,hd]
  exact Vz (fun _=>rfl) rfl
theorem zA (a b:Nat) (ha:(aD 1000000000 a).length≤17592186044416) (hb:(aD 1000000000 b).length≤17592186044416):TC 155 [cA a,cA b] (VI (gC a b)):=by
 refine TC.walk ⟨true,false⟩ Qd rfl (aMl rfl) (by simp[aO,cK]) rfl ?_
 have fin:∀ {x:Int},x=gC a b→fz depth [] (VI x)=some (VI (gC a b)):=fun h=>by rw[h];exact aL rfl
 unfold cA jG
 by_cases hl:(((aD 1000000000 a).length:Nat):Int)=(((aD 1000000000 b).length:Nat):Int)
 ·have Ge:(aD 1000000000 a).length=(aD 1000000000 b).length:=by omega
  have w1:IntKind.i64.wrap ((((aD 1000000000 b).length:Nat):Int)-1)=(((aD 1000000000 b).length:Nat):Int)-1:=wrap64 (by omega) (by omega)
  simp only[Cr,yS,hl,w1,VX,Nat.reduceEqDiff,Nat.reduceAdd]
  refine aP (fun(j:Nat) ρ H=>j≤(aD 1000000000 b).length∧H=[]∧(aD 1000000000 a).drop j=(aD 1000000000 b).drop j∧ρ 0=aC tV (aD 1000000000 a)∧ρ 1=aC tV (aD 1000000000 b)∧ρ 5=VI ((j:Int)-1)) (fun j=>j) (aD 1000000000 b).length ⟨aKx _,rfl,by rw[aMH,←Ge,aMH],rfl,rfl,rfl⟩ ?_
  rintro j ρ H ⟨hj,rfl,hd,h0,h1,h5⟩
  by_cases hz:(0:Int)≤(j:Int)-1
  ·obtain⟨i,rfl⟩:∃i,j=i+1:=⟨j-1,by omega⟩
   obtain⟨x,hx⟩:∃x,(aD 1000000000 a)[i]? = some x:=⟨_,aKE (by omega)⟩
   obtain⟨y,hy⟩:∃y,(aD 1000000000 b)[i]? = some y:=⟨_,aKE (by omega)⟩
   have Ev:((i+1:Nat):Int)-1=(i:Int):=by omega
   have e1:=aH (f:=tV) (t := .op) (H:=[]) (size:=1) (k := .i64) hx rfl
   have e2:=aH (f:=tV) (t := .op) (H:=[]) (size:=1) (k := .i64) hy rfl
   rw[Ev] at h5 hz
   have w2:IntKind.i64.wrap ((i:Int)-1)=(i:Int)-1:=wrap64 (by omega) (by omega)
   by_cases CR:(x:Int)=(y:Int)
   ·simp only[sD,h0,h1,h5,hz,e1,e2,CR,w2,VX,Nat.reduceEqDiff,Nat.reduceAdd]
    have azC:x=y:=by omega
    subst azC
    refine⟨i,by omega,by omega,?_⟩
    obtain⟨g1,g2⟩:=aKw.1 hx
    obtain⟨g3,g4⟩:=aKw.1 hy
    rw[aKC g1,aKC g3,g2,g4,hd]
    exact⟨rfl,rfl⟩
   ·by_cases bH:(x:Int)<(y:Int)
    ·simp only[sD,h0,h1,h5,hz,e1,e2,CR,bH,VX,Nat.reduceEqDiff,Nat.reduceAdd]
     refine fin ?_
     have:=G0 (gI (by decide) a) Ge hx hy hd (by omega)
     rw[cL (by decide),cL (by decide)] at this
     simp[gC,this]
    ·simp only[sD,h0,h1,h5,hz,e1,e2,CR,bH,VX,Nat.reduceEqDiff,Nat.reduceAdd]
     refine fin ?_
     have:=G0 (gI (by decide) b) Ge.symm hy hx hd.symm (by omega)
     rw[cL (by decide),cL (by decide)] at this
     rw[gC,if_neg (by omega),if_neg (by omega)]
  ·have Xm:j=0:=by omega
   subst Xm
   simp only[sD,h0,h1,h5,hz,VX,Nat.reduceEqDiff,Nat.reduceAdd]
   refine fin ?_
   have:=T5 (b:=1000000000) (by decide) (by simpa using hd)
   subst this
   simp[gC]
 ·by_cases bH:(((aD 1000000000 a).length:Nat):Int)<(((aD 1000000000 b).length:Nat):Int)
  ·simp only[Cr,yS,hl,bH,VX,Nat.reduceEqDiff,Nat.reduceAdd]
   refine fin ?_
   have:=GZ (b:=1000000000) (by decide) (m:=a) (n:=b) (by omega)
   simp[gC,this]
  ·simp only[Cr,yS,hl,bH,VX,Nat.reduceEqDiff,Nat.reduceAdd]
   refine fin ?_
   have:=GZ (b:=1000000000) (by decide) (m:=b) (n:=a) (by omega)
   rw[gC,if_neg (by omega),if_neg (by omega)]
theorem Nb (ds:List Nat) (i:Nat):TC 186 [jG ds,VI (i:Int)] (tV (ds.getD i 0)):=by
 refine TC.walk ⟨true,false⟩ MS rfl (aMl rfl) (by simp[aO,A3];rfl) rfl ?_
 by_cases h:(i:Int)<(ds.length:Int)
 ·obtain⟨d,hd⟩:∃d,ds[i]? = some d:=⟨_,aKE (by omega)⟩
  have e1:=aH (f:=tV) (t := .op) (H:=[]) (size:=1) (k := .i64) hd rfl
  simp only[Cz,Ab,eQ,h,e1,VX,Nat.reduceEqDiff,Nat.reduceAdd]
  rw[aKu,hd]
  exact aL rfl
 ·simp only[Cz,Ab,eQ,h,VX,Nat.reduceEqDiff,Nat.reduceAdd]
  rw[aKu,aKX (by omega)]
  exact aL rfl
theorem FR (n i:Nat):TC 186 [cA n,VI (i:Int)] (tV (n / 1000000000^i % 1000000000)):=by
 have:=Nb (aD 1000000000 n) i
 rwa [Ld (by decide)] at this
theorem K3 (a b:Nat) (ha:(aD 1000000000 a).length<17592186044416) (hb:(aD 1000000000 b).length<17592186044416):TC 154 [cA a,cA b] (cA (a+b)):=by
 refine TC.walk ⟨true,false⟩ K5 rfl (aMl rfl) (by simp[aO,cK]) (pR _) ?_
 simp only[Fq,C5,Od,VX,Nat.reduceEqDiff,Nat.reduceAdd]
 have hL:=Tz (b:=1000000000) (by decide) (m:=a) (n:=b) (k:=17592186044416-1) (by omega) (by omega)
 refine aP (fun(s:Nat×List Nat×Nat) ρ H=>s.1=s.2.1.length∧H=[.row s.2.1.length (s.2.1.map tV) 1 true]∧s.2.2≤1∧aD 1000000000 (a+b)=s.2.1++aD 1000000000 (a / 1000000000^s.1+b / 1000000000^s.1+s.2.2)∧ρ 0=cA a∧ρ 1=cA b∧ρ 5 = .ref 0 s.2.1.length 0 s.2.1.length s.2.1.length∧ρ 6=VI s.2.2∧ρ 7=VI s.1)
  (fun s=>(aD 1000000000 (a+b)).length-s.1) (0,[],0) ⟨rfl,rfl,by simp,by simp,rfl,rfl,rfl,rfl,rfl⟩ ?_
 rintro⟨i,ds,c⟩ ρ H ⟨hi,rfl,hc,hd,g0,g1,g5,g6,g7⟩
 simp only at hi hc hd g5 g6 g7
 have la:=GF (b:=1000000000) (by decide) (n:=a) (i:=i)
 have lb:=GF (b:=1000000000) (by decide) (n:=b) (i:=i)
 have c1:=FR a i
 have c2:=FR b i
 have m1:=aKZ (a / 1000000000^i) (show 0<1000000000 by decide)
 have m2:=aKZ (b / 1000000000^i) (show 0<1000000000 by decide)
 have hd':a / 1000000000^i+b / 1000000000^i+c≠0→aD 1000000000 (a+b)=ds++(a / 1000000000^i % 1000000000+b / 1000000000^i % 1000000000+c) % 1000000000::aD 1000000000 (a / 1000000000^(i+1)+b / 1000000000^(i+1)+(a / 1000000000^i % 1000000000+b / 1000000000^i % 1000000000+c) / 1000000000):=fun h=>by
  rw[hd,acY (by decide) h,wW,wW]
 generalize a / 1000000000^i=A at *
 generalize b / 1000000000^i=B at *
 by_cases Pt:A+B+c=0
 ·have h1:¬(i:Int)<((aD 1000000000 a).length:Int):=by omega
  have h2:¬(i:Int)<((aD 1000000000 b).length:Int):=by omega
  have h3:¬(0:Int)<(c:Int):=by omega
  simp only[mZ,g0,g1,g5,g6,g7,cN,h1,h2,h3,VX,Nat.reduceEqDiff,Nat.reduceAdd]
  rw[Pt,cF,aLF] at hd
  rw[cA,hd]
  exact Vz (fun _=>rfl) rfl
 ·have hdn:=hd' Pt
  have bH:i<(aD 1000000000 (a+b)).length:=by
   rw[hdn,aKI,aKH]
   omega
  have w1:IntKind.i64.wrap (((A % 1000000000:Nat):Int)+((B % 1000000000:Nat):Int))=((A % 1000000000+B % 1000000000:Nat):Int):=wrapN _ (by omega) (by omega)
  have w2:IntKind.i64.wrap (((A % 1000000000+B % 1000000000:Nat):Int)+(c:Int))=((A % 1000000000+B % 1000000000+c:Nat):Int):=wrapN _ (by omega) (by omega)
  have wi:IntKind.i64.wrap ((i:Int)+1)=((i+1:Nat):Int):=wrapN (i+1) (by omega) (by omega)
  have r1:=RY (A % 1000000000+B % 1000000000+c)
  have q1:=RJ (A % 1000000000+B % 1000000000+c) (by omega)
  have a1:=apI (ds:=ds) (d:=(A % 1000000000+B % 1000000000+c) % 1000000000) (by omega)
  have ayD:aD 1000000000 (a+b)=(ds++[(A % 1000000000+B % 1000000000+c) % 1000000000])++aD 1000000000 (a / 1000000000^(i+1)+b / 1000000000^(i+1)+(A % 1000000000+B % 1000000000+c) / 1000000000):=by rw[hdn,aMj];rfl
  by_cases h1:(i:Int)<((aD 1000000000 a).length:Int)
  ·simp only[mZ,g0,g1,g5,g6,g7,cN,h1,c1,c2,w1,w2,wi,r1,q1,wE,zH,a1,VX,Nat.reduceEqDiff,Nat.reduceAdd]
   refine⟨(i+1,ds++[(A % 1000000000+B % 1000000000+c) % 1000000000],(A % 1000000000+B % 1000000000+c) / 1000000000),by simp only;omega,by simp;omega,by simp,by simp only;omega,ayD,?_⟩
   simp only[aKI,aMM]
   try (repeat' apply aMd)<;>first | rfl | trivial
  ·by_cases h2:(i:Int)<((aD 1000000000 b).length:Int)
   ·simp only[mZ,g0,g1,g5,g6,g7,cN,h1,h2,c1,c2,w1,w2,wi,r1,q1,wE,zH,a1,VX,Nat.reduceEqDiff,Nat.reduceAdd]
    refine⟨(i+1,ds++[(A % 1000000000+B % 1000000000+c) % 1000000000],(A % 1000000000+B % 1000000000+c) / 1000000000),by simp only;omega,by simp;omega,by simp,by simp only;omega,ayD,?_⟩
    simp only[aKI,aMM]
    try (repeat' apply aMd)<;>first | rfl | trivial
   ·have h3:(0:Int)<(c:Int):=by omega
    simp only[mZ,g0,g1,g5,g6,g7,cN,h1,h2,h3,c1,c2,w1,w2,wi,r1,q1,wE,zH,a1,VX,Nat.reduceEqDiff,Nat.reduceAdd]
    refine⟨(i+1,ds++[(A % 1000000000+B % 1000000000+c) % 1000000000],(A % 1000000000+B % 1000000000+c) / 1000000000),by simp only;omega,by simp;omega,by simp,by simp only;omega,ayD,?_⟩
    simp only[aKI,aMM]
    try (repeat' apply aMd)<;>first | rfl | trivial
end Go.PM
namespace Go.PM
theorem kV {es:List VV} {g e:Nat} {w:Bool}:aG [.row g es e w] 0 g=some (es,e,w):=aT
theorem Us {x y:Nat} {ρ:cV} {Q:VQ} (hx:(aD 4294967296 x).length≤17592186044416) (hl:(aD 4294967296 y).length≤(aD 4294967296 x).length) (h0:ρ 0=bR x) (h1:ρ 1=bR y) (h5:ρ 5 = .ref 0 0 0 ((aD 4294967296 x).length+1) ((aD 4294967296 x).length+1)) (h6:ρ 6=VK .u64 0) (h20:ρ 20=VI (aD 4294967296 x).length) (h21:ρ 21=VI 0)
  (hQ:∀(aQ:cV) (outs:List Nat) (c:Nat),aQ 0=bR x→aQ 5 = .ref 0 0 0 ((aD 4294967296 x).length+1) ((aD 4294967296 x).length+1)→aQ 6=VK .u64 (c:Nat)→outs.length=(aD 4294967296 x).length+1→(∀d∈outs,d<4294967296)→c≤1→x+y=val 4294967296 (outs.take (aD 4294967296 x).length)+4294967296^(aD 4294967296 x).length*c→Q (.exit 0) aQ [.row 0 (outs.map uV) 1 true]) :
  VW ⟨true,false⟩ 0 (.loop mY) Q ρ [.row 0 ((aLn ((aD 4294967296 x).length+1) 0).map uV) 1 true]:=by
 unfold bR at h0 h1 hQ
 have vx:=cL (b:=4294967296) (by decide) x
 have vy:=cL (b:=4294967296) (by decide) y
 have lx:=gI (b:=4294967296) (by decide) x
 have ly:=gI (b:=4294967296) (by decide) y
 generalize aD 4294967296 x=xs at *
 generalize aD 4294967296 y=ys at *
 refine aP (fun(s:Nat×List Nat×Nat) ρ H=>s.1≤xs.length∧H=[.row 0 (s.2.1.map uV) 1 true]∧s.2.1.length=xs.length+1∧(∀d∈s.2.1,d<4294967296)∧s.2.2≤1∧val 4294967296 (xs.take s.1)+val 4294967296 (ys.take s.1)=val 4294967296 (s.2.1.take s.1)+4294967296^s.1*s.2.2 ∧
  ρ 0=C0 xs∧ρ 1=C0 ys∧ρ 5 = .ref 0 0 0 (xs.length+1) (xs.length+1)∧ρ 6=VK .u64 s.2.2∧ρ 20=VI xs.length∧ρ 21=VI s.1) (fun s=>xs.length-s.1) (0,aLn (xs.length+1) 0,0) ?_ ?_
 ·exact⟨aK1 _,rfl,by simp,CP (by decide) _,by simp,by simp[val],h0,h1,h5,h6,h20,h21⟩
 ·rintro⟨i,outs,c⟩ ρ H ⟨hi,rfl,hJ,nJ,hc,hv,g0,g1,g5,g6,g20,g21⟩
  simp only at hi hJ nJ hc hv g6 g21
  by_cases bW:(i:Int)<(xs.length:Int)
  ·obtain⟨a,ha⟩:∃a,xs[i]? = some a:=⟨_,aKE (by omega)⟩
   have la:=lx a (aLr ha)
   have e1:=aH (f:=uV) (t := .op) (H:=[.row 0 (outs.map uV) 1 true]) (size:=1) (k := .i64) ha rfl
   have w1:IntKind.u64.wrap (a:Int)=(a:Int):=eR _ (by omega)
   have w2:IntKind.u64.wrap ((c:Int)+(a:Int))=((c+a:Nat):Int):=by rw[←aMI];exact eR _ (by omega)
   have wi:IntKind.i64.wrap ((i:Int)+1)=((i+1:Nat):Int):=wrapN (i+1) (by omega) (by omega)
   have e3:=bB (H:=[.row 0 (outs.map uV) 1 true]) (b:=0) (g:=0) (o:=0) (n:=xs.length+1) (c:=xs.length+1) (i:=i) (k := .i64) kV (by omega)
   have e4:∀s:Nat,bL 0 1 (.ptr 0 0 i 0) (uV s) [.row 0 (outs.map uV) 1 true]=some [.row 0 ((outs.set i s).map uV) 1 true]:=fun s=>by
    rw[dQ (f:=uV) (e:=1) kV (by omega) (aKx _) rfl rfl]
    rfl
   have step:∀b,b<4294967296→(∀d,ys[i]? = some d→d=b)→(ys.length≤i→b=0) →
     (i+1≤xs.length∧(outs.set i ((c+a+b) % 4294967296)).length=xs.length+1∧(∀d∈outs.set i ((c+a+b) % 4294967296),d<4294967296)∧(c+a+b) / 4294967296≤1∧val 4294967296 (xs.take (i+1))+val 4294967296 (ys.take (i+1))=val 4294967296 ((outs.set i ((c+a+b) % 4294967296)).take (i+1))+4294967296^(i+1)*((c+a+b) / 4294967296)):=by
    intro b hb h1 h2
    refine⟨by omega,by rw[aMv];exact hJ,nW nJ (aKZ _ (by decide)),by omega,?_⟩
    have hy:val 4294967296 (ys.take (i+1))=val 4294967296 (ys.take i)+4294967296^i*b:=by
     cases XH:ys[i]? with
     | some d=>rw[bE XH,h1 d XH]
     |
      none =>
      have hle:=aMO.1 XH
      rw[h2 hle,lD hle,lD (by omega),aMD,aME]
    rw[bE ha,hy,fK (by omega),aLY]
    exact Is hv rfl (aMG _ _)
   by_cases bH:(i:Int)<(ys.length:Int)
   ·obtain⟨b,hb⟩:∃b,ys[i]? = some b:=⟨_,aKE (by omega)⟩
    have lb:=ly b (aLr hb)
    have e2:=aH (f:=uV) (t := .op) (H:=[.row 0 (outs.map uV) 1 true]) (size:=1) (k := .i64) hb rfl
    have w3:IntKind.u64.wrap (b:Int)=(b:Int):=eR _ (by omega)
    have w4:IntKind.u64.wrap (((c+a:Nat):Int)+(b:Int))=((c+a+b:Nat):Int):=by rw[←aMI];exact eR _ (by omega)
    obtain⟨s1,s2,s3,s4,s5⟩:=step b lb (fun d hd=>by rw[hb] at hd;injection hd with hd;exact hd.symm) (fun h=>by omega)
    simp only[mY,g0,g1,g5,g6,g20,g21,bW,bH,e1,e2,e3,e4,w1,w2,w3,w4,wi,wrap32,qQ,VX,Nat.reduceEqDiff,Nat.reduceAdd]
    exact⟨(i+1,outs.set i ((c+a+b) % 4294967296),(c+a+b) / 4294967296),by simp only;omega,s1,rfl,s2,s3,s4,s5,by (repeat' apply aMd)<;>first | rfl | trivial⟩
   ·obtain⟨s1,s2,s3,s4,s5⟩:=step 0 (by decide) (fun d hd=>by have:=(aKw.1 hd).1;omega) (fun _=>rfl)
    simp only[aME] at s2 s3 s4 s5
    simp only[mY,g0,g1,g5,g6,g20,g21,bW,bH,e1,e3,e4,w1,w2,wi,wrap32,qQ,VX,Nat.reduceEqDiff,Nat.reduceAdd]
    exact⟨(i+1,outs.set i ((c+a) % 4294967296),(c+a) / 4294967296),by simp only;omega,s1,rfl,s2,s3,s4,s5,by (repeat' apply aMd)<;>first | rfl | trivial⟩
  ·have mI:i=xs.length:=by omega
   subst mI
   simp only[mY,g0,g1,g5,g6,g20,g21,bW,VX,Nat.reduceEqDiff,Nat.reduceAdd]
   refine hQ _ outs c g0 g5 g6 hJ nJ hc ?_
   rw[aLK,aLq (l:=ys) hl,vx,vy] at hv
   exact hv
theorem FP (a b:Nat) (ha:(aD 4294967296 a).length≤17592186044416) (hb:(aD 4294967296 b).length≤17592186044416):TC 145 [bR a,bR b] (bR (a+b)):=by
 refine TC.walk ⟨true,false⟩ Kt rfl (aMl rfl) (by simp[aO,bU]) (tQ _) ?_
 have mk:∀n:Nat,n≤17592186044416→BM [.int .u32 0] 4 (VI ((n+1:Nat):Int)) (VI ((n+1:Nat):Int)) []=some (.ref 0 0 0 (n+1) (n+1),[.row 0 ((aLn (n+1) 0).map uV) 1 true]):=fun n hn=>nT (f:=uV) (x:=0) rfl (by omega) (by omega)
 have fin:∀(x y:Nat) (outs:List Nat) (c:Nat),(aD 4294967296 x).length≤17592186044416→x+y=a+b→outs.length=(aD 4294967296 x).length+1→(∀d∈outs,d<4294967296)→c≤1→x+y=val 4294967296 (outs.take (aD 4294967296 x).length)+4294967296^(aD 4294967296 x).length*c →
   bJ 1 (.ref 0 0 0 ((aD 4294967296 x).length+1) ((aD 4294967296 x).length+1)) (VI ((aD 4294967296 x).length:Nat)) [.row 0 (outs.map uV) 1 true]=some (.ptr 0 0 (0+(aD 4294967296 x).length) 0) ∧
   bL 0 1 (.ptr 0 0 (aD 4294967296 x).length 0) (uV (c % 4294967296)) [.row 0 (outs.map uV) 1 true]=some [.row 0 ((outs.set (aD 4294967296 x).length (c % 4294967296)).map uV) 1 true] ∧
   ∀lo K,(∀k,k≤(aD 4294967296 x).length+1→(outs.set (aD 4294967296 x).length (c % 4294967296)).take k=aD 4294967296 (a+b)→K (.ref 0 0 0 k ((aD 4294967296 x).length+1)) [.row 0 ((outs.set (aD 4294967296 x).length (c % 4294967296)).map uV) 1 true]) →
    dH 182 [.ref 0 0 0 ((aD 4294967296 x).length+1) ((aD 4294967296 x).length+1)] lo [.row 0 ((outs.set (aD 4294967296 x).length (c % 4294967296)).map uV) 1 true] K:=by
  intro x y outs c hx CR hJ nJ hc hv
  have Kj:=nW (i:=(aD 4294967296 x).length) nJ (show c % 4294967296<4294967296 from aKZ _ (by decide))
  have He:val 4294967296 (outs.set (aD 4294967296 x).length (c % 4294967296))=a+b:=by
   have h1:=fK (b:=4294967296) (xs:=outs) (i:=(aD 4294967296 x).length) (d:=c % 4294967296) (by omega)
   rw[aLq (by rw[aMv];omega)] at h1
   rw[h1,aL1 (Nat.lt_of_le_of_lt hc (by decide)),←hv,CR]
  refine⟨bB kV (by omega),?_,?_⟩
  ·rw[dQ (f:=uV) (e:=1) kV (by omega) (aKx _) rfl rfl]
   rfl
  ·intro lo K hk
   have avS:(outs.set (aD 4294967296 x).length (c % 4294967296)).length=(aD 4294967296 x).length+1:=by rw[aMv];exact hJ
   exact vC kV (by omega) (aKx _) (by omega) (fun d hd=>Kj d (aLu hd)) (by rw[aLq (by omega)];exact He) hk
 by_cases hsw:(((aD 4294967296 a).length:Nat):Int)<(((aD 4294967296 b).length:Nat):Int)
 ·have w1:IntKind.i64.wrap (((aD 4294967296 b).length:Int)+1)=(((aD 4294967296 b).length+1:Nat):Int):=wrapN _ (by omega) (by omega)
  simp only[BN,yK,bR,hsw,w1,mk _ hb,VX,Nat.reduceEqDiff,Nat.reduceAdd]
  refine Us (x:=b) (y:=a) hb (by omega) rfl rfl rfl rfl rfl rfl ?_
  intro aQ outs c g0 g5 g6 hJ nJ hc hv
  obtain⟨e1,e2,e3⟩:=fin b a outs c hb (by omega) hJ nJ hc hv
  simp only[g0,g5,g6,bR,wrap32,e1,e2,VX,Nat.reduceEqDiff,Nat.reduceAdd]
  refine e3 _ _ fun k hk he => ?_
  simp only[VX,Nat.reduceEqDiff,Nat.reduceAdd]
  exact SX kV (by rw[aMv];omega) hk he
 ·have w1:IntKind.i64.wrap (((aD 4294967296 a).length:Int)+1)=(((aD 4294967296 a).length+1:Nat):Int):=wrapN _ (by omega) (by omega)
  simp only[BN,yK,bR,hsw,w1,mk _ ha,VX,Nat.reduceEqDiff,Nat.reduceAdd]
  refine Us (x:=a) (y:=b) ha (by omega) rfl rfl rfl rfl rfl rfl ?_
  intro aQ outs c g0 g5 g6 hJ nJ hc hv
  obtain⟨e1,e2,e3⟩:=fin a b outs c ha rfl hJ nJ hc hv
  simp only[g0,g5,g6,bR,wrap32,e1,e2,VX,Nat.reduceEqDiff,Nat.reduceAdd]
  refine e3 _ _ fun k hk he => ?_
  simp only[VX,Nat.reduceEqDiff,Nat.reduceAdd]
  exact SX kV (by rw[aMv];omega) hk he
end Go.PM
namespace Go.PM
theorem O6 {x:Int} {r:Nat} (h:x+4294967296=r) (hx:x<0) (hr:0≤x+4294967296):IntKind.u32.wrap x=(r:Int):=by rw[IntKind.wrap_u32];omega
theorem Yn (n:Nat) (hn:n≤70368744177664):BM [.int .u32 0] 4 (VI (n:Int)) (VI (n:Int)) []=some (.ref 0 0 0 n n,[.row 0 ((aLn n 0).map uV) 1 true]):=nT (f:=uV) (x:=0) rfl (by omega) (by omega)
theorem SM {outs:List Nat} {i d:Nat} (hi:i<outs.length):bL 0 1 (.ptr 0 0 i 0) (uV d) [.row 0 (outs.map uV) 1 true]=some [.row 0 ((outs.set i d).map uV) 1 true]:=by
 rw[dQ (f:=uV) (e:=1) kV hi (aKx _) rfl rfl]
 rfl
theorem Gm (a b:Nat) (IS:b≤a) (ha:(aD 4294967296 a).length≤17592186044416):TC 146 [bR a,bR b] (bR (a-b)):=by
 refine TC.walk ⟨true,false⟩ Lm rfl (aMl rfl) (by simp[aO,bU]) (tQ _) ?_
 have va:=cL (b:=4294967296) (by decide) a
 have vb:=cL (b:=4294967296) (by decide) b
 have la:=gI (b:=4294967296) (by decide) a
 have lb:=gI (b:=4294967296) (by decide) b
 have hle:=eZ (b:=4294967296) (by decide) IS
 unfold bR
 generalize aD 4294967296 a=xs at *
 generalize aD 4294967296 b=ys at *
 simp only[FD,C3,Yn xs.length (by omega),VX,Nat.reduceEqDiff,Nat.reduceAdd]
 refine aP (fun(s:Nat×List Nat×Nat) ρ H=>s.1≤xs.length∧H=[.row 0 (s.2.1.map uV) 1 true]∧s.2.1.length=xs.length∧(∀d∈s.2.1,d<4294967296)∧s.2.2≤1∧val 4294967296 (xs.take s.1)+4294967296^s.1*s.2.2=val 4294967296 (s.2.1.take s.1)+val 4294967296 (ys.take s.1) ∧
  ρ 0=C0 xs∧ρ 1=C0 ys∧ρ 5 = .ref 0 0 0 xs.length xs.length∧ρ 6=VI s.2.2∧ρ 13=VI xs.length∧ρ 14=VI s.1) (fun s=>xs.length-s.1) (0,aLn xs.length 0,0) ⟨aK1 _,rfl,by simp,CP (by decide) _,by simp,by simp[val],rfl,rfl,rfl,rfl,rfl,rfl⟩ ?_
 rintro⟨i,outs,l⟩ ρ H ⟨hi,rfl,hJ,nJ,hc,hv,g0,g1,g5,g6,g13,g14⟩
 simp only at hi hJ nJ hc hv g6 g14
 by_cases bW:(i:Int)<(xs.length:Int)
 ·obtain⟨x,hx⟩:∃x,xs[i]? = some x:=⟨_,aKE (by omega)⟩
  have lx:=la x (aLr hx)
  have e1:=aH (f:=uV) (t := .op) (H:=[.row 0 (outs.map uV) 1 true]) (size:=1) (k := .i64) hx rfl
  have w1:IntKind.i64.wrap (x:Int)=(x:Int):=wrapN x rfl (by omega)
  have w2:IntKind.i64.wrap ((x:Int)-(l:Int))=(x:Int)-(l:Int):=wrap64 (by omega) (by omega)
  have wi:IntKind.i64.wrap ((i:Int)+1)=((i+1:Nat):Int):=wrapN (i+1) (by omega) (by omega)
  have e3:bJ 1 (.ref 0 0 0 xs.length xs.length) (VI i) [.row 0 (outs.map uV) 1 true]=some (.ptr 0 0 i 0):=by rw[bB kV (by omega),aL5]
  have e4:∀s:Nat,bL 0 1 (.ptr 0 0 i 0) (uV s) [.row 0 (outs.map uV) 1 true]=some [.row 0 ((outs.set i s).map uV) 1 true]:=fun s=>SM (by omega)
  have step:∀y r l':Nat,y<4294967296→r<4294967296→l'≤1→(∀d,ys[i]? = some d→d=y)→(ys.length≤i→y=0)→r+y+l=x+4294967296*l' →
    i+1≤xs.length∧(outs.set i r).length=xs.length∧(∀d∈outs.set i r,d<4294967296)∧l'≤1∧val 4294967296 (xs.take (i+1))+4294967296^(i+1)*l'=val 4294967296 ((outs.set i r).take (i+1))+val 4294967296 (ys.take (i+1)):=by
   intro y r l' _ hr Ge h1 h2 hd
   refine⟨by omega,by rw[aMv];exact hJ,nW nJ hr,Ge,?_⟩
   have hy:val 4294967296 (ys.take (i+1))=val 4294967296 (ys.take i)+4294967296^i*y:=by
    cases XH:ys[i]? with
    | some d=>rw[bE XH,h1 d XH]
    |
     none =>
     have hle:=aMO.1 XH
     rw[h2 hle,lD hle,lD (by omega),aMD,aME]
   rw[bE hx,hy,fK (by omega),aLY]
   exact Mf hv hd
  by_cases bH:(i:Int)<(ys.length:Int)
  ·obtain⟨y,hy⟩:∃y,ys[i]? = some y:=⟨_,aKE (by omega)⟩
   have ly:=lb y (aLr hy)
   have e2:=aH (f:=uV) (t := .op) (H:=[.row 0 (outs.map uV) 1 true]) (size:=1) (k := .i64) hy rfl
   have w3:IntKind.i64.wrap (y:Int)=(y:Int):=wrapN y rfl (by omega)
   have w4:IntKind.i64.wrap ((x:Int)-(l:Int)-(y:Int))=(x:Int)-(l:Int)-(y:Int):=wrap64 (by omega) (by omega)
   by_cases mE:(x:Int)-(l:Int)-(y:Int)<0
   ·obtain⟨r,hr⟩:∃r:Nat,r+y+l=x+4294967296:=⟨x+4294967296-l-y,by omega⟩
    have w5:IntKind.u32.wrap ((x:Int)-(l:Int)-(y:Int))=(r:Int):=O6 (by omega) mE (by omega)
    obtain⟨s1,s2,s3,s4,s5⟩:=step y r 1 ly (by omega) (aKx _) (fun d hd=>by rw[hy] at hd;injection hd with hd;exact hd.symm) (fun h=>by omega) (by omega)
    simp only[kA,g0,g1,g5,g6,g13,g14,bW,bH,mE,e1,e2,e3,e4,w1,w2,w3,w4,w5,wi,VX,Nat.reduceEqDiff,Nat.reduceAdd]
    exact⟨(i+1,outs.set i r,1),by simp only;omega,s1,rfl,s2,s3,s4,s5,by (repeat' apply aMd)<;>first | rfl | trivial⟩
   ·obtain⟨r,hr⟩:∃r:Nat,r+y+l=x:=⟨x-l-y,by omega⟩
    have w5:IntKind.u32.wrap ((x:Int)-(l:Int)-(y:Int))=(r:Int):=by rw[IntKind.wrap_u32];omega
    obtain⟨s1,s2,s3,s4,s5⟩:=step y r 0 ly (by omega) (by omega) (fun d hd=>by rw[hy] at hd;injection hd with hd;exact hd.symm) (fun h=>by omega) (by omega)
    simp only[kA,g0,g1,g5,g6,g13,g14,bW,bH,mE,e1,e2,e3,e4,w1,w2,w3,w4,w5,wi,VX,Nat.reduceEqDiff,Nat.reduceAdd]
    exact⟨(i+1,outs.set i r,0),by simp only;omega,s1,rfl,s2,s3,s4,s5,by (repeat' apply aMd)<;>first | rfl | trivial⟩
  ·by_cases mE:(x:Int)-(l:Int)<0
   ·obtain⟨r,hr⟩:∃r:Nat,r+l=x+4294967296:=⟨x+4294967296-l,by omega⟩
    have w5:IntKind.u32.wrap ((x:Int)-(l:Int))=(r:Int):=O6 (by omega) mE (by omega)
    obtain⟨s1,s2,s3,s4,s5⟩:=step 0 r 1 (by decide) (by omega) (aKx _) (fun d hd=>by have:=(aKw.1 hd).1;omega) (fun _=>rfl) (by omega)
    simp only[kA,g0,g1,g5,g6,g13,g14,bW,bH,mE,e1,e3,e4,w1,w2,w5,wi,VX,Nat.reduceEqDiff,Nat.reduceAdd]
    exact⟨(i+1,outs.set i r,1),by simp only;omega,s1,rfl,s2,s3,s4,s5,by (repeat' apply aMd)<;>first | rfl | trivial⟩
   ·obtain⟨r,hr⟩:∃r:Nat,r+l=x:=⟨x-l,by omega⟩
    have w5:IntKind.u32.wrap ((x:Int)-(l:Int))=(r:Int):=by rw[IntKind.wrap_u32];omega
    obtain⟨s1,s2,s3,s4,s5⟩:=step 0 r 0 (by decide) (by omega) (by omega) (fun d hd=>by have:=(aKw.1 hd).1;omega) (fun _=>rfl) (by omega)
    simp only[kA,g0,g1,g5,g6,g13,g14,bW,bH,mE,e1,e3,e4,w1,w2,w5,wi,VX,Nat.reduceEqDiff,Nat.reduceAdd]
    exact⟨(i+1,outs.set i r,0),by simp only;omega,s1,rfl,s2,s3,s4,s5,by (repeat' apply aMd)<;>first | rfl | trivial⟩
 ·have mI:i=xs.length:=by omega
  subst mI
  rw[aLK,aLq (l:=ys) hle,aLq (l:=outs) (by omega),va,vb] at hv
  have dR:=rO nJ
  rw[hJ] at dR
  have He:val 4294967296 outs=a-b:=by
   rcases aKA l 1 with h | h
   ·have:l=0:=by omega
    subst this
    rw[aMD] at hv
    omega
   ·have:l=1:=by omega
    subst this
    rw[Nat.mul_one] at hv
    omega
  simp only[kA,g0,g1,g5,g6,g13,g14,bW,VX,Nat.reduceEqDiff,Nat.reduceAdd]
  refine vC (m:=a-b) kV (by omega) (aKx _) (by omega) (fun d hd=>nJ d (aLu hd)) (by rw[aLq (by omega)];exact He) fun k hk he => ?_
  simp only[VX,Nat.reduceEqDiff,Nat.reduceAdd]
  exact SX kV (by omega) hk he
theorem UC {P Q A B Y x c r q o y W:Nat} (Qf:A+P*Q*c=B+P*(x*Y)) (h1:r+W*q=c+(x*y+o)):A+P*Q*r+P*Q*W*q=B+P*Q*o+P*(x*(Y+Q*y)):=by
 have h2:P*Q*(r+W*q)=P*Q*(c+(x*y+o)):=by rw[h1]
 grind
theorem jP (a b:Nat) (ha:(aD 4294967296 a).length≤17592186044416) (hb:(aD 4294967296 b).length≤17592186044416):TC 143 [bR a,bR b] (bR (a*b)):=by
 refine TC.walk ⟨true,false⟩ KJ rfl (aMl rfl) (by simp[aO,bU]) (tQ _) ?_
 have va:=cL (b:=4294967296) (by decide) a
 have vb:=cL (b:=4294967296) (by decide) b
 have la:=gI (b:=4294967296) (by decide) a
 have lb:=gI (b:=4294967296) (by decide) b
 unfold bR
 generalize aD 4294967296 a=xs at *
 generalize aD 4294967296 b=ys at *
 have w0:IntKind.i64.wrap ((xs.length:Int)+(ys.length:Int))=((xs.length+ys.length:Nat):Int):=wrapN _ (by omega) (by omega)
 simp only[Gj,CY,w0,Yn (xs.length+ys.length) (by omega),VX,Nat.reduceEqDiff,Nat.reduceAdd]
 generalize hN:xs.length+ys.length=N at *
 refine aP (fun(s:Nat×List Nat) ρ H=>s.1≤xs.length∧H=[.row 0 (s.2.map uV) 1 true]∧s.2.length=N∧(∀d∈s.2,d<4294967296)∧val 4294967296 (s.2.take (s.1+ys.length))=val 4294967296 (xs.take s.1)*b ∧
  ρ 0=C0 xs∧ρ 1=C0 ys∧ρ 5 = .ref 0 0 0 N N∧ρ 17=C0 xs∧ρ 18=VI xs.length∧ρ 19=VI s.1) (fun s=>xs.length-s.1) (0,aLn N 0) ⟨aK1 _,rfl,by simp,CP (by decide) _,by simp[val,aMP,uW],rfl,rfl,rfl,rfl,rfl,rfl⟩ ?_
 rintro⟨i,outs⟩ ρ H ⟨hi,rfl,hJ,nJ,hv,g0,g1,g5,g17,g18,g19⟩
 simp only at hi hJ nJ hv g19
 by_cases bW:(i:Int)<(xs.length:Int)
 ·obtain⟨x,hx⟩:∃x,xs[i]? = some x:=⟨_,aKE (by omega)⟩
  have lx:=la x (aLr hx)
  have e1:=aH (f:=uV) (t := .op) (H:=[.row 0 (outs.map uV) 1 true]) (size:=1) (k := .i64) hx rfl
  simp only[wF,g0,g1,g5,g17,g18,g19,bW,e1,VX,Nat.reduceEqDiff,Nat.reduceAdd]
  refine aP (fun(s:Nat×List Nat×Nat) ρ H=>s.1≤ys.length∧H=[.row 0 (s.2.1.map uV) 1 true]∧s.2.1.length=N∧(∀d∈s.2.1,d<4294967296)∧s.2.2<4294967296 ∧
   val 4294967296 (s.2.1.take (i+s.1))+4294967296^(i+s.1)*s.2.2=val 4294967296 (outs.take (i+s.1))+4294967296^i*(x*val 4294967296 (ys.take s.1))∧(∀j,i+s.1≤j→s.2.1[j]? = outs[j]?) ∧
   ρ 0=C0 xs∧ρ 1=C0 ys∧ρ 5 = .ref 0 0 0 N N∧ρ 6=VI i∧ρ 7=uV x∧ρ 8=VK .u64 s.2.2∧ρ 17=C0 xs∧ρ 18=VI xs.length∧ρ 19=VI i∧ρ 24=C0 ys∧ρ 25=VI ys.length∧ρ 26=VI s.1) (fun s=>ys.length-s.1) (0,outs,0) ⟨aK1 _,rfl,hJ,nJ,by simp,by simp[val],fun _ _=>rfl,by (repeat' apply aMd)<;>first | rfl | trivial⟩ ?_
  rintro⟨k,os,c⟩ tC H ⟨hk,rfl,SO,SF,hc,Qf,IT,k0,k1,k5,k6,k7,k8,IH,W9,k19,k24,k25,k26⟩
  simp only at hk SO SF hc Qf IT k8 k26
  have wi:IntKind.i64.wrap ((i:Int)+1)=((i+1:Nat):Int):=wrapN (i+1) (by omega) (by omega)
  by_cases TU:(k:Int)<(ys.length:Int)
  ·obtain⟨y,hy⟩:∃y,ys[k]? = some y:=⟨_,aKE (by omega)⟩
   have ly:=lb y (aLr hy)
   obtain⟨o,ho⟩:∃o,os[i+k]? = some o:=⟨_,aKE (by omega)⟩
   have lo:=SF o (aLr ho)
   have ho':outs[i+k]? = some o:=by rw[←IT (i+k) (aKx _)];exact ho
   have f1:=aH (f:=uV) (t := .op) (H:=[.row 0 (os.map uV) 1 true]) (size:=1) (k := .i64) hy rfl
   have w1:IntKind.i64.wrap ((i:Int)+(k:Int))=((i+k:Nat):Int):=wrapN _ (by omega) (by omega)
   have f2:bJ 1 (.ref 0 0 0 N N) (VI ((i+k:Nat):Int)) [.row 0 (os.map uV) 1 true]=some (.ptr 0 0 (i+k) 0):=by rw[bB kV (by omega),aL5]
   have f3:bF false 1 (.ptr 0 0 (i+k) 0) [.row 0 (os.map uV) 1 true]=some (uV o):=kB kV ho
   have f4:∀s:Nat,bL 0 1 (.ptr 0 0 (i+k) 0) (uV s) [.row 0 (os.map uV) 1 true]=some [.row 0 ((os.set (i+k) s).map uV) 1 true]:=fun s=>SM (by omega)
   have CR:x*y≤4294967295*4294967295:=aMQ (by omega) (by omega)
   have w2:IntKind.u64.wrap (x:Int)=(x:Int):=eR _ (by omega)
   have w3:IntKind.u64.wrap (y:Int)=(y:Int):=eR _ (by omega)
   have w4:IntKind.u64.wrap (o:Int)=(o:Int):=eR _ (by omega)
   have w5:IntKind.u64.wrap ((x:Int)*(y:Int))=((x*y:Nat):Int):=by rw[←Int.natCast_mul];exact eR _ (by omega)
   have w6:IntKind.u64.wrap (((x*y:Nat):Int)+(o:Int))=((x*y+o:Nat):Int):=by rw[←aMI];exact eR _ (by omega)
   have w7:IntKind.u64.wrap ((c:Int)+((x*y+o:Nat):Int))=((c+(x*y+o):Nat):Int):=by rw[←aMI];exact eR _ (by omega)
   have wk:IntKind.i64.wrap ((k:Int)+1)=((k+1:Nat):Int):=wrapN (k+1) (by omega) (by omega)
   simp only[wB,k0,k1,k5,k6,k7,k8,IH,W9,k19,k24,k25,k26,TU,f1,f2,f3,f4,w1,w2,w3,w4,w5,w6,w7,wk,wrap32,qQ,VX,Nat.reduceEqDiff,Nat.reduceAdd]
   have hq:(c+(x*y+o)) / 4294967296<4294967296:=aMR (by omega)
   refine⟨(k+1,os.set (i+k) ((c+(x*y+o)) % 4294967296),(c+(x*y+o)) / 4294967296),by simp only;omega,by omega,rfl,by rw[aMv];exact SO,nW SF (aKZ _ (by decide)),hq,?_,fun j hj => ?_,by (repeat' apply aMd)<;>first | rfl | trivial⟩
   ·have h1:=aMG (c+(x*y+o)) 4294967296
    rw[←Nat.add_assoc,fK (by omega),bE ho',bE hy,aLY]
    rw[aML] at Qf ⊢
    exact UC Qf h1
   ·rw[aKW (by omega)]
    exact IT j (by omega)
  ·have hke:k=ys.length:=by omega
   subst hke
   rw[aLK,vb,hv] at Qf
   have w1:IntKind.i64.wrap ((i:Int)+(ys.length:Int))=((i+ys.length:Nat):Int):=wrapN _ (by omega) (by omega)
   have f2:bJ 1 (.ref 0 0 0 N N) (VI ((i+ys.length:Nat):Int)) [.row 0 (os.map uV) 1 true]=some (.ptr 0 0 (i+ys.length) 0):=by rw[bB kV (by omega),aL5]
   have f4:∀s:Nat,bL 0 1 (.ptr 0 0 (i+ys.length) 0) (uV s) [.row 0 (os.map uV) 1 true]=some [.row 0 ((os.set (i+ys.length) s).map uV) 1 true]:=fun s=>SM (by omega)
   simp only[wB,k0,k1,k5,k6,k7,k8,IH,W9,k19,k24,k25,k26,TU,f2,f4,w1,wi,wrap32,VX,Nat.reduceEqDiff,Nat.reduceAdd]
   refine⟨(i+1,os.set (i+ys.length) (c % 4294967296)),by simp only;omega,by omega,rfl,by rw[aMv];exact SO,nW SF (aKZ _ (by decide)),?_,by (repeat' apply aMd)<;>first | rfl | trivial⟩
   rw[show i+1+ys.length=i+ys.length+1 by omega,fK (by omega),aL1 hc,Qf,bE hx,aK2,aMN]
 ·have mI:i=xs.length:=by omega
  subst mI
  rw[hN,aLK,va,aLq (by omega)] at hv
  simp only[wF,g0,g1,g5,g17,g18,g19,bW,VX,Nat.reduceEqDiff,Nat.reduceAdd]
  refine vC (m:=a*b) kV (by omega) (aKx _) (by omega) (fun d hd=>nJ d (aLu hd)) (by rw[aLq (by omega)];exact hv) fun k hk he => ?_
  simp only[VX,Nat.reduceEqDiff,Nat.reduceAdd]
  exact SX kV (by omega) hk he
end Go.PM
namespace Go.PM
theorem set_drop {xs:List Nat} {i d:Nat} (h:i<xs.length):(xs.set i d).drop i=d::xs.drop (i+1):=by
 rw[aKC (by rw[aMv];exact h),List.getElem_set_self,Qm h]
theorem aaE (n k:Nat) (hn:n≤70368744177664) {H:aA}:BM [.int .u32 0] 4 (VI (n:Int)) (VI (n:Int)) H=some (.ref H.length 0 0 n n,H++[.row 0 ((aLn n 0).map uV) 1 true]):=nT (f:=uV) (x:=0) rfl (by omega) (by omega)
theorem VZ {A q t r x d W:Nat} (h1:t+d*q=r*W+x):(q+W*A)*d+t=x+W*(A*d+r):=by grind
theorem Yw {A B P S W c m x q:Nat} (hv:A+P*c=B*S) (h1:m*S+W*q=x*S):A+P*(c+m*S)+P*W*q=(B+P*x)*S:=by
 have h2:P*(m*S+W*q)=P*(x*S):=by rw[h1]
 grind
theorem As (a d:Nat) (F9:0<d) (hdW:d<4294967296) (ha:(aD 4294967296 a).length≤17592186044416):TC 197 [bR a,uV d] (.eG [bR (a / d),uV (a % d)]):=by
 refine TC.walk ⟨true,false⟩ E8 rfl (aMl rfl) (by simp[aO,bU,aY,qC]) (by simp[gZ,sK,tQ,qC]) ?_
 have va:=cL (b:=4294967296) (by decide) a
 have la:=gI (b:=4294967296) (by decide) a
 unfold bR
 generalize aD 4294967296 a=xs at *
 have w0:IntKind.i64.wrap ((xs.length:Int)-1)=(xs.length:Int)-1:=wrap64 (by omega) (by omega)
 have wd:IntKind.u64.wrap (d:Int)=(d:Int):=eR _ (by omega)
 simp only[Av,xG,w0,Yn xs.length (by omega),VX,Nat.reduceEqDiff,Nat.reduceAdd]
 refine aP (fun(s:Nat×List Nat×Nat) ρ H=>s.1≤xs.length∧H=[.row 0 (s.2.1.map uV) 1 true]∧s.2.1.length=xs.length∧(∀d∈s.2.1,d<4294967296)∧s.2.2<d∧val 4294967296 (s.2.1.drop s.1)*d+s.2.2=val 4294967296 (xs.drop s.1) ∧
  ρ 0=C0 xs∧ρ 1=uV d∧ρ 6 = .ref 0 0 0 xs.length xs.length∧ρ 7=VK .u64 s.2.2∧ρ 8=VI ((s.1:Int)-1)) (fun s=>s.1) (xs.length,aLn xs.length 0,0) ⟨aKx _,rfl,by simp,CP (by decide) _,F9,by simp[val,aMS],rfl,rfl,rfl,rfl,rfl⟩ ?_
 rintro⟨j,outs,r⟩ ρ H ⟨hj,rfl,hJ,nJ,hr,hv,g0,g1,g6,g7,g8⟩
 simp only at hj hJ nJ hr hv g7 g8
 by_cases hz:(0:Int)≤(j:Int)-1
 ·obtain⟨i,rfl⟩:∃i,j=i+1:=⟨j-1,by omega⟩
  obtain⟨x,hx⟩:∃x,xs[i]? = some x:=⟨_,aKE (by omega)⟩
  have lx:=la x (aLr hx)
  have Ev:((i+1:Nat):Int)-1=(i:Int):=by omega
  rw[Ev] at g8 hz
  have e1:=aH (f:=uV) (t := .op) (H:=[.row 0 (outs.map uV) 1 true]) (size:=1) (k := .i64) hx rfl
  have e3:bJ 1 (.ref 0 0 0 xs.length xs.length) (VI i) [.row 0 (outs.map uV) 1 true]=some (.ptr 0 0 i 0):=by rw[bB kV (by omega),aL5]
  have e4:∀s:Nat,bL 0 1 (.ptr 0 0 i 0) (uV s) [.row 0 (outs.map uV) 1 true]=some [.row 0 ((outs.set i s).map uV) 1 true]:=fun s=>SM (by omega)
  have w2:IntKind.i64.wrap ((i:Int)-1)=(i:Int)-1:=wrap64 (by omega) (by omega)
  have w3:IntKind.u64.wrap (x:Int)=(x:Int):=eR _ (by omega)
  have w4:IntKind.u64.wrap (((r*4294967296:Nat):Int)+(x:Int))=((r*4294967296+x:Nat):Int):=by rw[←aMI];exact eR _ (by omega)
  have w5:=GQ r .u64 (by omega)
  have q1:=Zz (r*4294967296+x) d (by omega) F9
  have q2:=Tk (r*4294967296+x) d F9
  have hq:(r*4294967296+x) / d<4294967296:=by
   rw[aMT F9]
   have:(r+1)*4294967296≤d*4294967296:=aKY _ hr
   rw[aLZ 4294967296 d]
   omega
  simp only[pF,g0,g1,g6,g7,g8,hz,e1,e3,e4,w2,w3,w4,w5,wd,q1,q2,wrap32,aL1 hq,VX,Nat.reduceEqDiff,Nat.reduceAdd]
  refine⟨(i,outs.set i ((r*4294967296+x) / d),(r*4294967296+x) % d),by simp only;omega,by omega,rfl,by rw[aMv];exact hJ,nW nJ hq,aKZ _ F9,?_,by (repeat' apply aMd)<;>first | rfl | trivial⟩
  have h1:=aMG (r*4294967296+x) d
  rw[set_drop (by omega),wG,vK hx,←hv]
  exact VZ h1
 ·have Xm:j=0:=by omega
  subst Xm
  rw[aLJ,aLJ,va] at hv
  have h1:a / d=val 4294967296 outs:=by
   rw[←hv,aLZ,Nat.mul_add_div F9,aL4 hr,aME]
  have h2:a % d=r:=by
   rw[←hv,aLZ,Nat.mul_add_mod,aL1 hr]
  simp only[pF,g0,g1,g6,g7,g8,hz,VX,Nat.reduceEqDiff,Nat.reduceAdd]
  refine vC (m:=a / d) kV (by omega) (aKx _) (by omega) (fun d hd=>nJ d (aLu hd)) (by rw[aLq (by omega)];exact h1.symm) fun k hk he => ?_
  simp only[wrap32,aL1 (show r<4294967296 by omega),g7,VX,Nat.reduceEqDiff,Nat.reduceAdd]
  rw[h2]
  exact bN (d:=6) (Nr (d:=5) kV (by omega) hk he) (aN rfl)
theorem JZ {n g e:Nat} {es:List VV} {w:Bool}:aG (aLn n fN.dead++[.row g es e w]) n g=some (es,e,w):=by rw[Nu];exact aT
theorem aEY {n:Nat} (xs:List Nat):AB n (xs.map uV)=true:=by
 rw[zN]
 intro x hx
 obtain⟨y,_,rfl⟩:=List.mem_map.1 hx
 rfl
theorem BC (a s:Nat) (hs:s≤31) (ha:(aD 4294967296 a).length≤17592186044416):FC 199 [bR a,VI s] fun n r L=>∃outs:List Nat,r = .ref n 0 0 ((aD 4294967296 a).length+1) ((aD 4294967296 a).length+1)∧L=[.row 0 (outs.map uV) 1 true]∧outs.length=(aD 4294967296 a).length+1∧(∀d∈outs,d<4294967296)∧val 4294967296 outs=a*2^s∧(∀d,outs[(aD 4294967296 a).length]? = some d→d<2^s):=by
 refine FC.walk ⟨true,false⟩ FX (aMl rfl) fun n => ?_
 have va:=cL (b:=4294967296) (by decide) a
 have la:=gI (b:=4294967296) (by decide) a
 unfold bR
 generalize aD 4294967296 a=xs at *
 have hS:0<2^s:=Nat.pow_pos (by decide)
 have hSW:2^s*2^(32-s)=4294967296:=by rw[←aML,show s+(32-s)=32 by omega]
 have w0:IntKind.i64.wrap ((xs.length:Int)+1)=((xs.length+1:Nat):Int):=wrapN _ (by omega) (by omega)
 simp only[BS,zU,w0,aaE (xs.length+1) n (by omega),aMm,VX,Nat.reduceEqDiff,Nat.reduceAdd]
 refine aP (fun(t:Nat×List Nat×Nat) ρ H=>t.1≤xs.length∧H=aLn n .dead++[.row 0 (t.2.1.map uV) 1 true]∧t.2.1.length=xs.length+1∧(∀d∈t.2.1,d<4294967296)∧t.2.1[t.1]? = some t.2.2∧t.2.2<2^s∧val 4294967296 (t.2.1.take t.1)+4294967296^t.1*t.2.2=val 4294967296 (xs.take t.1)*2^s ∧
  ρ 1=VI s∧ρ 5 = .ref n 0 0 (xs.length+1) (xs.length+1)∧ρ 13=C0 xs∧ρ 14=VI xs.length∧ρ 15=VI t.1) (fun t=>xs.length-t.1) (0,aLn (xs.length+1) 0,0) ⟨aK1 _,rfl,by simp,CP (by decide) _,by simp,hS,by simp[val],rfl,rfl,rfl,rfl,rfl⟩ ?_
 rintro⟨i,outs,c⟩ ρ H ⟨hi,rfl,hJ,nJ,hoc,hc,hv,g1,g5,g13,g14,g15⟩
 simp only at hi hJ nJ hoc hc hv g15
 by_cases bW:(i:Int)<(xs.length:Int)
 ·obtain⟨x,hx⟩:∃x,xs[i]? = some x:=⟨_,aKE (by omega)⟩
  have lx:=la x (aLr hx)
  have e1:=aH (f:=uV) (t := .op) (H:=aLn n .dead++[.row 0 (outs.map uV) 1 true]) (size:=1) (k := .i64) hx rfl
  have wx:IntKind.u64.wrap (x:Int)=(x:Int):=eR _ (by omega)
  have wi:IntKind.i64.wrap ((i:Int)+1)=((i+1:Nat):Int):=wrapN (i+1) (by omega) (by omega)
  have w5:=azO x s lx hs
  obtain⟨m,hm⟩:∃m,(x*2^s) % 4294967296=m*2^s:=by
   refine⟨x % 2^(32-s),?_⟩
   rw[←hSW,aLZ x,Nat.mul_mod_mul_left,aLZ]
  have hhi:(x*2^s) / 4294967296<2^s:=by
   rw[aMT (by decide),aLZ (2^s)]
   exact Nat.mul_lt_mul_of_pos_right lx hS
  have bH:(x*2^s) % 4294967296<4294967296:=aKZ _ (by decide)
  have hmm:m<2^(32-s):=by
   have:m*2^s<2^(32-s)*2^s:=by rw[←hm,aLZ (2^(32-s)) (2^s),hSW];exact bH
   exact Nat.lt_of_mul_lt_mul_right this
  have YJ:m*2^s+c<4294967296:=by
   have:(m+1)*2^s≤2^(32-s)*2^s:=aKY _ hmm
   rw[aLZ (2^(32-s)),hSW,aK2] at this
   omega
  have or1:=awD c m s hc YJ
  have e3:bJ 1 (.ref n 0 0 (xs.length+1) (xs.length+1)) (VI i) (aLn n .dead++[.row 0 (outs.map uV) 1 true])=some (.ptr n 0 i 0):=by rw[bB JZ (by omega),aL5]
  have e4:bF false 1 (.ptr n 0 i 0) (aLn n .dead++[.row 0 (outs.map uV) 1 true])=some (uV c):=kB JZ hoc
  have e5:∀(os:List Nat) (j t:Nat),j<os.length→bL n 1 (.ptr n 0 j 0) (uV t) (aLn n .dead++[.row 0 (os.map uV) 1 true])=some (aLn n .dead++[.row 0 ((os.set j t).map uV) 1 true]):=fun os j t hj=>by
   rw[dQ (f:=uV) (e:=1) JZ hj (aKx _) rfl rfl,agQ]
   rfl
  have e6:bJ 1 (.ref n 0 0 (xs.length+1) (xs.length+1)) (VI ((i+1:Nat):Int)) (aLn n .dead++[.row 0 ((outs.set i (c+m*2^s)).map uV) 1 true])=some (.ptr n 0 (i+1) 0):=by rw[bB JZ (by omega),aL5]
  have e7:=e5 outs i (c+m*2^s) (by omega)
  have e8:=e5 (outs.set i (c+m*2^s)) (i+1) ((x*2^s) / 4294967296) (by rw[aMv];omega)
  have hq:(x*2^s) / 4294967296 % 4294967296=(x*2^s) / 4294967296:=aL1 (by
   have:2^s≤2^31:=aMA (by decide) hs
   omega)
  simp only[qG,g1,g5,g13,g14,g15,bW,e1,e3,e4,e6,e7,e8,wx,wi,w5,wrap32,qQ,hm,or1,hq,VX,Nat.reduceEqDiff,Nat.reduceAdd]
  refine⟨(i+1,(outs.set i (c+m*2^s)).set (i+1) ((x*2^s) / 4294967296),(x*2^s) / 4294967296),by simp only;omega,by omega,rfl,by rw[aMv,aMv];exact hJ,
   nW (nW nJ (by omega)) (by
    have:2^s≤2^31:=aMA (by decide) hs
    omega),by rw[List.getElem?_set_self (by rw[aMv];omega)],hhi,?_,by (repeat' apply aMd)<;>first | rfl | trivial⟩
  rw[List.take_set_of_le (aKx _),fK (by omega),bE hx,aLY]
  have h1:=aMG (x*2^s) 4294967296
  rw[hm] at h1
  exact Yw hv h1
 ·have mI:i=xs.length:=by omega
  subst mI
  rw[aLK,va] at hv
  have He:val 4294967296 outs=a*2^s:=by
   have h1:=bE (b:=4294967296) hoc
   rw[aLq (by omega)] at h1
   rw[h1]
   exact hv
  simp only[qG,g1,g5,g13,g14,g15,bW,VX,Nat.reduceEqDiff,Nat.reduceAdd]
  exact⟨_,rfl,by simp[jU],by simp[mW,aEY outs],outs,rfl,hJ,nJ,He,fun d hd=>by rw[hoc] at hd;injection hd with hd;omega⟩
end Go.PM
namespace Go.PM
theorem Sh (n:Nat) (hn:n≤35184372088832):BM [.int .i64 0] 8 (VI (n:Int)) (VI (n:Int)) []=some (.ref 0 0 0 n n,[.row 0 ((aLn n 0).map tV) 1 true]):=nT (f:=tV) (x:=0) rfl (by omega) (by omega)
theorem Tt {outs:List Nat} {i d:Nat} (hi:i<outs.length):bL 0 1 (.ptr 0 0 i 0) (VI (d:Int)) [.row 0 (outs.map tV) 1 true]=some [.row 0 ((outs.set i d).map tV) 1 true]:=by
 rw[show VI (d:Int)=tV d from rfl,dQ (f:=tV) (e:=1) NH hi (aKx _) rfl rfl]
 rfl
theorem Oe {b g:Nat} {rows:List Nat} {w:Bool} {H:aA} {j d:Nat} (hr:aG H b g=some (rows.map tV,1,w)) (hj:rows[j]? = some d):bF false 1 (.ptr b g j 0) H=some (VI (d:Int)):=qA hr hj
theorem adT {n i:Nat} {outs:List Nat} (h:i<n):bJ 1 (.ref 0 0 0 n n) (VI (i:Int)) [.row 0 (outs.map tV) 1 true]=some (.ptr 0 0 i 0):=by rw[bB NH h,aL5]
theorem wr {x:Int} (n:Nat) (h:x=n) (hn:n≤9223372036854775807):IntKind.i64.wrap x=(n:Int):=wrapN n h hn
theorem B1 (a b:Nat) (IS:b≤a) (ha:(aD 1000000000 a).length≤17592186044416):TC 156 [cA a,cA b] (cA (a-b)):=by
 refine TC.walk ⟨true,false⟩ Kc rfl (aMl rfl) (by simp[aO,cK]) (pR _) ?_
 have hle:=eZ (b:=1000000000) (by decide) IS
 simp only[EB,B4,Od,cN,VX,Nat.reduceEqDiff,Nat.reduceAdd]
 refine aP (fun(s:Nat×List Nat×Nat) ρ H=>s.1=s.2.1.length∧s.1≤(aD 1000000000 a).length∧H=[.row s.2.1.length (s.2.1.map tV) 1 true]∧(∀d∈s.2.1,d<1000000000)∧s.2.2≤1∧val 1000000000 ((aD 1000000000 a).take s.1)+1000000000^s.1*s.2.2=val 1000000000 s.2.1+val 1000000000 ((aD 1000000000 b).take s.1) ∧
  ρ 0=cA a∧ρ 1=cA b∧ρ 5 = .ref 0 s.2.1.length 0 s.2.1.length s.2.1.length∧ρ 6=VI s.2.2∧ρ 11=VI (aD 1000000000 a).length∧ρ 12=VI s.1) (fun s=>(aD 1000000000 a).length-s.1) (0,[],0) ⟨rfl,aK1 _,rfl,by simp,by simp,by simp[val],rfl,rfl,rfl,rfl,rfl,rfl⟩ ?_
 rintro⟨i,outs,l⟩ ρ H ⟨hi,uU,rfl,nJ,hc,hv,g0,g1,g5,g6,g11,g12⟩
 simp only at hi uU nJ hc hv g5 g6 g12
 by_cases bW:(i:Int)<((aD 1000000000 a).length:Int)
 ·have hx:=PF (b:=1000000000) (by decide) (n:=a) (i:=i) (by omega)
  have e1:bJ 1 (cA a) (VI i) [.row outs.length (outs.map tV) 1 true]=some (.cI (tV (a / 1000000000^i % 1000000000)) 0):=aH (f:=tV) (t := .op) (size:=1) (k := .i64) hx rfl
  have c2:=FR b i
  have t1:=HV (b:=1000000000) (aD 1000000000 a) i
  have t2:=HV (b:=1000000000) (aD 1000000000 b) i
  rw[Ld (by decide)] at t1 t2
  have lx:=aKZ (a / 1000000000^i) (show 0<1000000000 by decide)
  have ly:=aKZ (b / 1000000000^i) (show 0<1000000000 by decide)
  generalize a / 1000000000^i % 1000000000=x at *
  generalize b / 1000000000^i % 1000000000=y at *
  have wi:IntKind.i64.wrap ((i:Int)+1)=((i+1:Nat):Int):=wrapN (i+1) (by omega) (by omega)
  have w1:IntKind.i64.wrap ((x:Int)-(y:Int))=(x:Int)-(y:Int):=wrap64 (by omega) (by omega)
  have w2:IntKind.i64.wrap ((x:Int)-(y:Int)-(l:Int))=(x:Int)-(y:Int)-(l:Int):=wrap64 (by omega) (by omega)
  have step:∀r l':Nat,r<1000000000→l'≤1→r+y+l=x+1000000000*l'→(∀d∈outs++[r],d<1000000000)∧val 1000000000 ((aD 1000000000 a).take (i+1))+1000000000^(i+1)*l'=val 1000000000 (outs++[r])+val 1000000000 ((aD 1000000000 b).take (i+1)):=by
   intro r l' hr _ hd
   refine⟨fun d h => ?_,?_⟩
   ·rcases List.mem_append.1 h with h | h
    ·exact nJ d h
    ·rw[List.mem_singleton.1 h];exact hr
   ·rw[t1,t2,vY,←hi,aLY]
    exact Mf hv hd
  by_cases mE:(x:Int)-(y:Int)-(l:Int)<0
  ·obtain⟨r,hr⟩:∃r:Nat,r+y+l=x+1000000000:=⟨x+1000000000-l-y,by omega⟩
   have w3:IntKind.i64.wrap ((x:Int)-(y:Int)-(l:Int)+1000000000)=(r:Int):=wrapN r (by omega) (by omega)
   obtain⟨s1,s2⟩:=step r 1 (by omega) (aKx _) (by omega)
   have a1:=apI (ds:=outs) (d:=r) (by omega)
   simp only[pJ,g0,g1,g5,g6,g11,g12,bW,e1,c2,w1,w2,w3,wi,mE,wE,zH,a1,VX,Nat.reduceEqDiff,Nat.reduceAdd]
   refine⟨(i+1,outs++[r],1),by simp only;omega,by simp;omega,by simp only;omega,by simp,s1,aKx _,s2,?_⟩
   simp only[aKI,aMM]
   try (repeat' apply aMd)<;>first | rfl | trivial
  ·obtain⟨r,hr⟩:∃r:Nat,r+y+l=x:=⟨x-l-y,by omega⟩
   obtain⟨s1,s2⟩:=step r 0 (by omega) (by omega) (by omega)
   have er:(x:Int)-(y:Int)-(l:Int)=(r:Int):=by omega
   have a1:=apI (ds:=outs) (d:=r) (by omega)
   have w3:IntKind.i64.wrap ((x:Int)-(y:Int)-(l:Int))=(r:Int):=wrapN r er (by omega)
   have Kh:¬(r:Int)<0:=by omega
   simp only[pJ,g0,g1,g5,g6,g11,g12,bW,e1,c2,w1,w3,wi,Kh,wE,zH,a1,VX,Nat.reduceEqDiff,Nat.reduceAdd]
   refine⟨(i+1,outs++[r],0),by simp only;omega,by simp;omega,by simp only;omega,by simp,s1,aK1 _,s2,?_⟩
   simp only[aKI,aMM]
   try (repeat' apply aMd)<;>first | rfl | trivial
 ·have mI:i=(aD 1000000000 a).length:=by omega
  rw[mI,aLK,aLq (l:=aD 1000000000 b) hle,cL (by decide),cL (by decide)] at hv
  have dR:=rO nJ
  rw[←hi,mI] at dR
  have He:val 1000000000 outs=a-b:=by
   rcases aKA l 1 with h | h
   ·have:l=0:=by omega
    subst this
    rw[aMD] at hv
    omega
   ·have:l=1:=by omega
    subst this
    rw[Nat.mul_one] at hv
    omega
  simp only[pJ,g0,g1,g5,g6,g11,g12,bW,VX,Nat.reduceEqDiff,Nat.reduceAdd]
  refine KZ nJ rfl (by omega) He ?_
  simp only[VX,Nat.reduceEqDiff,Nat.reduceAdd]
  exact UM _
theorem fH (a b:Nat) (ha:(aD 1000000000 a).length≤17592186044416) (hb:(aD 1000000000 b).length≤17592186044416):TC 152 [cA a,cA b] (cA (a*b)):=by
 refine TC.walk ⟨true,false⟩ Lu rfl (aMl rfl) (by simp[aO,cK]) (pR _) ?_
 have va:=cL (b:=1000000000) (by decide) a
 have vb:=cL (b:=1000000000) (by decide) b
 have la:=gI (b:=1000000000) (by decide) a
 have lb:=gI (b:=1000000000) (by decide) b
 unfold cA
 generalize aD 1000000000 a=xs at *
 generalize aD 1000000000 b=ys at *
 have w0:IntKind.i64.wrap ((xs.length:Int)+(ys.length:Int))=((xs.length+ys.length:Nat):Int):=wrapN _ (by omega) (by omega)
 simp only[Fw,C2,eQ,w0,Sh (xs.length+ys.length) (by omega),VX,Nat.reduceEqDiff,Nat.reduceAdd]
 generalize hN:xs.length+ys.length=N at *
 refine aP (fun(s:Nat×List Nat) ρ H=>s.1≤xs.length∧H=[.row 0 (s.2.map tV) 1 true]∧s.2.length=N∧(∀d∈s.2,d<1000000000)∧val 1000000000 (s.2.take (s.1+ys.length))=val 1000000000 (xs.take s.1)*b∧(∀j,s.1+ys.length≤j→j<N→s.2[j]? = some 0) ∧
  ρ 0=jG xs∧ρ 1=jG ys∧ρ 5 = .ref 0 0 0 N N∧ρ 17=VI xs.length∧ρ 18=VI s.1) (fun s=>xs.length-s.1) (0,aLn N 0) ⟨aK1 _,rfl,by simp,CP (by decide) _,by simp[val,aMP,uW],fun j _ h=>by simp[List.getElem?_replicate,h],rfl,rfl,rfl,rfl,rfl⟩ ?_
 rintro⟨i,outs⟩ ρ H ⟨hi,rfl,hJ,nJ,hv,hzr,g0,g1,g5,g17,g18⟩
 simp only at hi hJ nJ hv hzr g18
 by_cases bW:(i:Int)<(xs.length:Int)
 ·obtain⟨x,hx⟩:∃x,xs[i]? = some x:=⟨_,aKE (by omega)⟩
  have lx:=la x (aLr hx)
  have e1:∀os:List Nat,bJ 1 (jG xs) (VI i) [.row 0 (os.map tV) 1 true]=some (.cI (tV x) 0):=fun os=>aH (f:=tV) (t := .op) (size:=1) (k := .i64) hx rfl
  simp only[wZ,g0,g1,g5,g17,g18,bW,eQ,VX,Nat.reduceEqDiff,Nat.reduceAdd]
  refine aP (fun(s:Nat×List Nat×Nat) ρ H=>s.1≤ys.length∧H=[.row 0 (s.2.1.map tV) 1 true]∧s.2.1.length=N∧(∀d∈s.2.1,d<1000000000)∧s.2.2<1000000000 ∧
   val 1000000000 (s.2.1.take (i+s.1))+1000000000^(i+s.1)*s.2.2=val 1000000000 (outs.take (i+s.1))+1000000000^i*(x*val 1000000000 (ys.take s.1))∧(∀j,i+s.1≤j→s.2.1[j]? = outs[j]?) ∧
   ρ 0=jG xs∧ρ 1=jG ys∧ρ 5 = .ref 0 0 0 N N∧ρ 6=VI i∧ρ 7=VI s.2.2∧ρ 17=VI xs.length∧ρ 18=VI i∧ρ 22=VI ys.length∧ρ 23=VI s.1) (fun s=>ys.length-s.1) (0,outs,0) ⟨aK1 _,rfl,hJ,nJ,by simp,by simp[val],fun _ _=>rfl,by (repeat' apply aMd)<;>first | rfl | trivial⟩ ?_
  rintro⟨k,os,c⟩ tC H ⟨hk,rfl,SO,SF,hc,Qf,IT,k0,k1,k5,k6,k7,IH,W9,k22,k23⟩
  simp only at hk SO SF hc Qf IT k7 k23
  have wi:IntKind.i64.wrap ((i:Int)+1)=((i+1:Nat):Int):=wrapN (i+1) (by omega) (by omega)
  by_cases TU:(k:Int)<(ys.length:Int)
  ·obtain⟨y,hy⟩:∃y,ys[k]? = some y:=⟨_,aKE (by omega)⟩
   have ly:=lb y (aLr hy)
   obtain⟨o,ho⟩:∃o,os[i+k]? = some o:=⟨_,aKE (by omega)⟩
   have lo:=SF o (aLr ho)
   have ho':outs[i+k]? = some o:=by rw[←IT (i+k) (aKx _)];exact ho
   have f1:bJ 1 (jG ys) (VI k) [.row 0 (os.map tV) 1 true]=some (.cI (tV y) 0):=aH (f:=tV) (t := .op) (size:=1) (k := .i64) hy rfl
   have w1:IntKind.i64.wrap ((i:Int)+(k:Int))=((i+k:Nat):Int):=wrapN _ (by omega) (by omega)
   have f2:bJ 1 (.ref 0 0 0 N N) (VI ((i+k:Nat):Int)) [.row 0 (os.map tV) 1 true]=some (.ptr 0 0 (i+k) 0):=adT (by omega)
   have f3:bF false 1 (.ptr 0 0 (i+k) 0) [.row 0 (os.map tV) 1 true]=some (VI (o:Int)):=Oe NH ho
   have f4:∀s:Nat,bL 0 1 (.ptr 0 0 (i+k) 0) (VI (s:Int)) [.row 0 (os.map tV) 1 true]=some [.row 0 ((os.set (i+k) s).map tV) 1 true]:=fun s=>Tt (by omega)
   have CR:x*y≤999999999*999999999:=aMQ (by omega) (by omega)
   have w5:IntKind.i64.wrap ((x:Int)*(y:Int))=((x*y:Nat):Int):=wrapN _ (by simp) (by omega)
   have w6:IntKind.i64.wrap ((o:Int)+((x*y:Nat):Int))=((o+x*y:Nat):Int):=wrapN _ (by omega) (by omega)
   have w7:IntKind.i64.wrap (((o+x*y:Nat):Int)+(c:Int))=((o+x*y+c:Nat):Int):=wrapN _ (by omega) (by omega)
   have wk:IntKind.i64.wrap ((k:Int)+1)=((k+1:Nat):Int):=wrapN (k+1) (by omega) (by omega)
   have r1:=RY (o+x*y+c)
   have q1:=RJ (o+x*y+c) (by omega)
   simp only[wA,k0,k1,k5,k6,k7,IH,W9,k22,k23,TU,e1,f1,f2,f3,f4,w1,w5,w6,w7,wk,r1,q1,VX,Nat.reduceEqDiff,Nat.reduceAdd]
   have hq:(o+x*y+c) / 1000000000<1000000000:=aMR (by omega)
   refine⟨(k+1,os.set (i+k) ((o+x*y+c) % 1000000000),(o+x*y+c) / 1000000000),by simp only;omega,by omega,rfl,by rw[aMv];exact SO,nW SF (aKZ _ (by decide)),hq,?_,fun j hj => ?_,by (repeat' apply aMd)<;>first | rfl | trivial⟩
   ·have h1:=aMG (o+x*y+c) 1000000000
    rw[show o+x*y+c=c+(x*y+o) by omega] at h1 ⊢
    rw[←Nat.add_assoc,fK (by omega),bE ho',bE hy,aLY]
    rw[aML] at Qf ⊢
    exact UC Qf h1
   ·rw[aKW (by omega)]
    exact IT j (by omega)
  ·have hke:k=ys.length:=by omega
   subst hke
   rw[aLK,vb,hv] at Qf
   have w1:IntKind.i64.wrap ((i:Int)+(ys.length:Int))=((i+ys.length:Nat):Int):=wrapN _ (by omega) (by omega)
   have Cy:os[i+ys.length]? = some 0:=by rw[IT _ (aKx _)];exact hzr _ (aKx _) (by omega)
   have f2:bJ 1 (.ref 0 0 0 N N) (VI ((i+ys.length:Nat):Int)) [.row 0 (os.map tV) 1 true]=some (.ptr 0 0 (i+ys.length) 0):=adT (by omega)
   have f3:bF false 1 (.ptr 0 0 (i+ys.length) 0) [.row 0 (os.map tV) 1 true]=some (VI ((0:Nat):Int)):=Oe NH Cy
   have f4:∀s:Nat,bL 0 1 (.ptr 0 0 (i+ys.length) 0) (VI (s:Int)) [.row 0 (os.map tV) 1 true]=some [.row 0 ((os.set (i+ys.length) s).map tV) 1 true]:=fun s=>Tt (by omega)
   have w2:IntKind.i64.wrap (((0:Nat):Int)+(c:Int))=(c:Int):=wrapN _ (by omega) (by omega)
   simp only[wA,k0,k1,k5,k6,k7,IH,W9,k22,k23,TU,eQ,f2,f3,f4,w1,w2,wi,VX,Nat.reduceEqDiff,Nat.reduceAdd]
   refine⟨(i+1,os.set (i+ys.length) c),by simp only;omega,by omega,rfl,by rw[aMv];exact SO,nW SF hc,?_,fun j hj Hh => ?_,by (repeat' apply aMd)<;>first | rfl | trivial⟩
   ·rw[show i+1+ys.length=i+ys.length+1 by omega,fK (by omega),Qf,bE hx,aK2,aMN]
   ·rw[aKW (by omega),IT j (by omega)]
    exact hzr j (by omega) Hh
 ·have mI:i=xs.length:=by omega
  subst mI
  rw[hN,aLK,va,aLq (by omega)] at hv
  simp only[wZ,g0,g1,g5,g17,g18,bW,VX,Nat.reduceEqDiff,Nat.reduceAdd]
  refine KZ (m:=a*b) nJ hJ.symm (by omega) hv ?_
  simp only[VX,Nat.reduceEqDiff,Nat.reduceAdd]
  exact UM _
theorem EC (a:Nat) (ha:(aD 1000000000 a).length≤17592186044416):TC 201 [cA a] (if (aD 1000000000 a).length≤2 then .eG [VI a,VB true] else .eG [VI 0,VB false]):=by
 refine TC.walk ⟨true,false⟩ Nj rfl (aMl rfl) (by simp[aO,cK]) (by split<;>rfl) ?_
 by_cases h2:(aD 1000000000 a).length≤2
 ·rw[if_pos h2]
  have h3:¬(2:Int)<((aD 1000000000 a).length:Int):=by omega
  have c0:TC 186 [cA a,VI 0] (VI ((a % 1000000000:Nat):Int)):=by have:=FR a 0;rwa [aMJ,Nat.div_one] at this
  have c1:TC 186 [cA a,VI 1] (VI ((a / 1000000000 % 1000000000:Nat):Int)):=by have:=FR a 1;rwa [Nat.pow_one] at this
  have bH:=iN (b:=1000000000) (by decide) a
  have hp:1000000000^(aD 1000000000 a).length≤1000000000^2:=aMA (by decide) h2
  have hm:a / 1000000000<1000000000:=aMR (by omega)
  rw[aL1 hm] at c1
  have hmd:=aMG a 1000000000
  have w1:IntKind.i64.wrap (1000000000*((a / 1000000000:Nat):Int))=((1000000000*(a / 1000000000):Nat):Int):=wrapN _ (by omega) (by omega)
  have w2:IntKind.i64.wrap (((a % 1000000000:Nat):Int)+((1000000000*(a / 1000000000):Nat):Int))=(a:Int):=wrapN _ (by omega) (by omega)
  simp only[CA,Ae,cN,h3,c0,c1,w1,w2,VX,Nat.reduceEqDiff,Nat.reduceAdd]
  exact aL rfl
 ·rw[if_neg h2]
  have h3:(2:Int)<((aD 1000000000 a).length:Int):=by omega
  simp only[CA,Ae,cN,h3,VX,Nat.reduceEqDiff,Nat.reduceAdd]
  exact aL rfl
theorem ahT {outs:List Nat} {n cap x:Nat} (hn:n=outs.length) (hc:n<cap):dP 0 1 8 (.ref 0 0 0 n cap) [VI (x:Int)] [.row 0 ((outs++aLn (cap-n) 0).map tV) 1 true]=some (.ref 0 0 0 (n+1) cap,[.row 0 (((outs++[x])++aLn (cap-(n+1)) 0).map tV) 1 true]):=by
 subst hn
 simp only[dP,aT,List.length_map,aKI,aMm,aKH,aMa,aL5]
 rw[if_pos ⟨by decide,by decide⟩,if_pos ⟨trivial,aKx _,by omega⟩,if_pos (by omega),if_neg (by omega),if_pos (by omega)]
 congr 3
 have e:aLn (cap-outs.length) 0=(0:Nat)::aLn (cap-(outs.length+1)) 0:=by
  rw[show cap-outs.length=(cap-(outs.length+1))+1 by omega,List.replicate_succ]
 simp only[dE,List.set_cons_zero,e,aMU,List.map_cons,aKH,aMa,List.map_nil]
 congr 1
 rw[aMV (by simp),←List.drop_drop,List.drop_left' (by simp)]
 simp
theorem Br (a d:Nat) (F9:0<d) (hd:d<1000000000) (ha:(aD 1000000000 a).length<17592186044416):TC 203 [cA a,VI (d:Int)] (cA (a*d)):=by
 refine TC.walk ⟨true,false⟩ Ic rfl (aMl rfl) (by simp[aO,cK];rfl) (pR _) ?_
 have w0:IntKind.i64.wrap (((aD 1000000000 a).length:Int)+1)=(((aD 1000000000 a).length+1:Nat):Int):=wrapN _ (by omega) (by omega)
 have mk:BM [.int .i64 0] 8 (VI 0) (VI (((aD 1000000000 a).length+1:Nat):Int)) []=some (.ref 0 0 0 0 ((aD 1000000000 a).length+1),[.row 0 ((([]:List Nat)++aLn ((aD 1000000000 a).length+1-0) 0).map tV) 1 true]):=by
  simp only[BM]
  rw[if_pos ⟨by omega,by omega,by omega,by omega⟩]
  simp
  rfl
 simp only[CT,Bq,cN,w0,mk,VX,Nat.reduceEqDiff,Nat.reduceAdd]
 refine aP (fun(s:Nat×List Nat×Nat) ρ H=>s.1=s.2.1.length∧s.1≤(aD 1000000000 a).length∧H=[.row 0 ((s.2.1++aLn ((aD 1000000000 a).length+1-s.1) 0).map tV) 1 true]∧s.2.2<d∧aD 1000000000 (a*d)=s.2.1++aD 1000000000 (a / 1000000000^s.1*d+s.2.2) ∧
  ρ 1=VI d∧ρ 5 = .ref 0 0 0 s.1 ((aD 1000000000 a).length+1)∧ρ 6=VI s.2.2∧ρ 14=cA a∧ρ 15=VI (aD 1000000000 a).length∧ρ 16=VI s.1) (fun s=>(aD 1000000000 a).length-s.1) (0,[],0) ⟨rfl,aK1 _,rfl,F9,by simp,rfl,rfl,rfl,rfl,rfl,rfl⟩ ?_
 rintro⟨i,outs,c⟩ ρ H ⟨hi,uU,rfl,hc,hv,g1,g5,g6,g14,g15,g16⟩
 simp only at hi uU hc hv g5 g6 g16
 by_cases bW:(i:Int)<((aD 1000000000 a).length:Int)
 ·have hx:=PF (b:=1000000000) (by decide) (n:=a) (i:=i) (by omega)
  have hA:=(GF (b:=1000000000) (by decide) (n:=a) (i:=i)).1 (by omega)
  have e1:∀H,bJ 1 (cA a) (VI i) H=some (.cI (tV (a / 1000000000^i % 1000000000)) 0):=fun H=>aH (f:=tV) (t := .op) (size:=1) (k := .i64) hx rfl
  have lx:=aKZ (a / 1000000000^i) (show 0<1000000000 by decide)
  have fS:a / 1000000000^i*d+c≠0:=by
   have:=Nat.mul_ne_zero hA (show d≠0 by omega)
   omega
  rw[acF (by decide) fS,←wW] at hv
  generalize a / 1000000000^i % 1000000000=x at *
  have hxd:x*d≤999999999*999999999:=aMQ (by omega) (by omega)
  have w1:IntKind.i64.wrap ((x:Int)*(d:Int))=((x*d:Nat):Int):=wrapN _ (by simp) (by omega)
  have w2:IntKind.i64.wrap (((x*d:Nat):Int)+(c:Int))=((x*d+c:Nat):Int):=wrapN _ (by omega) (by omega)
  have wi:IntKind.i64.wrap ((i:Int)+1)=((i+1:Nat):Int):=wrapN (i+1) (by omega) (by omega)
  have r1:=RY (x*d+c)
  have q1:=RJ (x*d+c) (by omega)
  have a1:=ahT (outs:=outs) (n:=i) (cap:=(aD 1000000000 a).length+1) (x:=(x*d+c) % 1000000000) hi (by omega)
  have hq:(x*d+c) / 1000000000<d:=by
   rw[aMT (by decide)]
   have h1:x*d≤999999999*d:=aKY _ (by omega)
   omega
  simp only[nK,g1,g5,g6,g14,g15,g16,bW,e1,w1,w2,wi,r1,q1,wE,zH,a1,VX,Nat.reduceEqDiff,Nat.reduceAdd]
  refine⟨(i+1,outs++[(x*d+c) % 1000000000],(x*d+c) / 1000000000),by simp only;omega,by simp;omega,by simp only;omega,rfl,hq,by rw[hv,aMj];rfl,?_⟩
  try (repeat' apply aMd)<;>first | rfl | trivial
 ·have mI:i=(aD 1000000000 a).length:=by omega
  have hz:a / 1000000000^i=0:=by
   have:=mt (GF (b:=1000000000) (by decide) (n:=a) (i:=i)).2
   omega
  rw[hz,Nat.zero_mul,aL5] at hv
  by_cases hcp:(0:Int)<(c:Int)
  ·rw[Fo (b:=1000000000) (by decide) (show c≠0 by omega) (show c<1000000000 by omega)] at hv
   have a1:=ahT (outs:=outs) (n:=i) (cap:=(aD 1000000000 a).length+1) (x:=c) hi (by omega)
   simp only[nK,g1,g5,g6,g14,g15,g16,bW,hcp,wE,zH,a1,VX,Nat.reduceEqDiff,Nat.reduceAdd]
   rw[cA,hv]
   rw[ZI aT (by simp;omega) (by omega) (fO fun _=>rfl)]
   rw[aMU,aMV (by simp;omega)]
  ·have hc0:c=0:=by omega
   rw[hc0,cF,aLF] at hv
   simp only[nK,g1,g5,g6,g14,g15,g16,bW,hcp,VX,Nat.reduceEqDiff,Nat.reduceAdd]
   rw[cA,hv]
   rw[ZI aT (by simp;omega) (by omega) (fO fun _=>rfl)]
   rw[aMU,aMV (by simp;omega)]
theorem NM (a b:Nat) (ha:a≤9223372036854775807) (hb:0<b):dK .quo (.int .i64 (a:Int)) (.int .i64 (b:Int))=some (.int .i64 ((a / b:Nat):Int)):=by
 have h1:¬((b:Int)=0):=by omega
 have h2:(a:Int).tdiv (b:Int)=((a / b:Nat):Int):=by rw[aMy (by omega)];simp
 have h3:a / b≤a:=Nat.div_le_self _ _
 simp only[dK,if_true,h1,if_false,h2]
 generalize a / b=q at *
 rw[wrap64 (by omega) (by omega)]
theorem OD (a b:Nat) (hb:0<b):dK .rem (.int .i64 (a:Int)) (.int .i64 (b:Int))=some (.int .i64 ((a % b:Nat):Int)):=by
 have h1:¬((b:Int)=0):=by omega
 have h2:(a:Int).tmod (b:Int)=((a % b:Nat):Int):=by rw[aMz (by omega)];simp
 simp only[dK,if_true,h1,if_false,h2]
theorem anZ {r d x:Nat} (hr:r<d) (hd:d<1000000000) (hx:x<1000000000):r*1000000000+x≤9223372036854775807:=by omega
theorem axJ {r d x:Nat} (F9:0<d) (hr:r<d) (hx:x<1000000000):(r*1000000000+x) / d<1000000000:=by
 rw[aMT F9]
 omega
theorem BO (a d:Nat) (F9:0<d) (hdT:d<1000000000) (ha:(aD 1000000000 a).length≤17592186044416):TC 202 [cA a,VI (d:Int)] (.eG [cA (a / d),VI ((a % d:Nat):Int)]):=by
 refine TC.walk ⟨true,false⟩ IC rfl (aMl rfl) (by simp[aO,cK];rfl) (by simp[gZ,sK,pR,qC]) ?_
 have va:=cL (b:=1000000000) (by decide) a
 have la:=gI (b:=1000000000) (by decide) a
 unfold cA
 generalize aD 1000000000 a=xs at *
 have w0:IntKind.i64.wrap ((xs.length:Int)-1)=(xs.length:Int)-1:=wrap64 (by omega) (by omega)
 simp only[Dy,BK,eQ,w0,Sh xs.length (by omega),VX,Nat.reduceEqDiff,Nat.reduceAdd]
 refine aP (fun(s:Nat×List Nat×Nat) ρ H=>s.1≤xs.length∧H=[.row 0 (s.2.1.map tV) 1 true]∧s.2.1.length=xs.length∧(∀d∈s.2.1,d<1000000000)∧s.2.2<d∧val 1000000000 (s.2.1.drop s.1)*d+s.2.2=val 1000000000 (xs.drop s.1) ∧
  ρ 0=jG xs∧ρ 1=VI d∧ρ 6 = .ref 0 0 0 xs.length xs.length∧ρ 7=VI s.2.2∧ρ 8=VI ((s.1:Int)-1)) (fun s=>s.1) (xs.length,aLn xs.length 0,0) ⟨aKx _,rfl,by simp,CP (by decide) _,F9,by simp[val,aMS],rfl,rfl,rfl,rfl,rfl⟩ ?_
 rintro⟨j,outs,r⟩ ρ H ⟨hj,rfl,hJ,nJ,hr,hv,g0,g1,g6,g7,g8⟩
 simp only at hj hJ nJ hr hv g7 g8
 by_cases hz:(0:Int)≤(j:Int)-1
 ·obtain⟨i,rfl⟩:∃i,j=i+1:=⟨j-1,by omega⟩
  obtain⟨x,hx⟩:∃x,xs[i]? = some x:=⟨_,aKE (by omega)⟩
  have lx:=la x (aLr hx)
  have Ev:((i+1:Nat):Int)-1=(i:Int):=by omega
  rw[Ev] at g8 hz
  have e1:=aH (f:=tV) (t := .op) (H:=[.row 0 (outs.map tV) 1 true]) (size:=1) (k := .i64) hx rfl
  have e3:bJ 1 (.ref 0 0 0 xs.length xs.length) (VI i) [.row 0 (outs.map tV) 1 true]=some (.ptr 0 0 i 0):=adT (by omega)
  have e4:∀s:Nat,bL 0 1 (.ptr 0 0 i 0) (VI (s:Int)) [.row 0 (outs.map tV) 1 true]=some [.row 0 ((outs.set i s).map tV) 1 true]:=fun s=>Tt (by omega)
  have w2:IntKind.i64.wrap ((i:Int)-1)=(i:Int)-1:=wrap64 (by omega) (by omega)
  have w4:IntKind.i64.wrap ((r:Int)*1000000000)=((r*1000000000:Nat):Int):=wrapN _ (by omega) (by omega)
  have w5:IntKind.i64.wrap (((r*1000000000:Nat):Int)+(x:Int))=((r*1000000000+x:Nat):Int):=wrapN _ (by omega) (by omega)
  have GX:r*1000000000+x≤9223372036854775807:=anZ hr hdT lx
  have q1:=NM (r*1000000000+x) d GX F9
  have q2:=OD (r*1000000000+x) d F9
  have hq:(r*1000000000+x) / d<1000000000:=axJ F9 hr lx
  simp only[tH,g0,g1,g6,g7,g8,hz,e1,e3,e4,w2,w4,w5,q1,q2,VX,Nat.reduceEqDiff,Nat.reduceAdd]
  refine⟨(i,outs.set i ((r*1000000000+x) / d),(r*1000000000+x) % d),by simp only;omega,by omega,rfl,by rw[aMv];exact hJ,nW nJ hq,aKZ _ F9,?_,by (repeat' apply aMd)<;>first | rfl | trivial⟩
  have h1:=aMG (r*1000000000+x) d
  rw[set_drop (by omega),wG,vK hx,←hv]
  exact VZ h1
 ·have Xm:j=0:=by omega
  subst Xm
  rw[aLJ,aLJ,va] at hv
  have h1:a / d=val 1000000000 outs:=by
   rw[←hv,aLZ,Nat.mul_add_div F9,aL4 hr,aME]
  have h2:a % d=r:=by
   rw[←hv,aLZ,Nat.mul_add_mod,aL1 hr]
  simp only[tH,g0,g1,g6,g7,g8,hz,VX,Nat.reduceEqDiff,Nat.reduceAdd]
  refine KZ (m:=a / d) nJ hJ.symm (by omega) h1.symm ?_
  simp only[g7,VX,Nat.reduceEqDiff,Nat.reduceAdd]
  rw[h2]
  exact aL (by simp[aY,aO,A3,cA,qC])
end Go.PM