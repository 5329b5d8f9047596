/- Texts of a claim, in one: part 8. -/
import Derived.Test.YtjmflicajplclaaGreatDoorKBg
open And renaming intro → aMh
open Int renaming natCast_add → aMM,natCast_zero → aMG,tdiv_eq_ediv_of_nonneg → aMC,tmod_eq_emod_of_nonneg → aMD,toNat_natCast → aLX
open List renaming append_assoc → aMn,append_nil → aLJ,drop_eq_getElem_cons → aKG,drop_length → aML,drop_of_length_le → aMu,drop_replicate → aMW,drop_zero → aLN,getD_eq_getElem?_getD → aKy,getElem?_eq_getElem → aKI,getElem?_eq_none → aK1,getElem?_eq_none_iff → aMS,getElem?_eq_some_iff → aKA,getElem?_set_ne → aK0,length_append → aKM,length_cons → aKL,length_eq_zero_iff → aMJ,length_nil → aMe,length_replicate → aMq,length_set → aMz,length_singleton → aMQ,length_take → aMa,map_append → aMY,mem_of_getElem? → aLv,mem_of_mem_take → aLy,replicate → aLr,take_append_drop → aLK,take_left' → aMZ,take_length → aLO,take_of_length_le → aLu,take_replicate → aMT
open Nat renaming add_mul → aK6,add_zero → aMI,div_div_eq_div_mul → aMO,div_eq_of_lt → aL8,div_lt_iff_lt_mul → aMX,div_lt_of_lt_mul → aMV,eq_zero_or_pos → aMF,le_of_ble_eq_true → aMp,le_refl → aKB,lt_or_ge → aKE,mod_add_div → aMK,mod_eq_of_lt → aL5,mod_lt → aK3,mul_assoc → aMR,mul_comm → aL3,mul_le_mul → aMU,mul_le_mul_right → aK2,mul_zero → aMH,pow_add → aMP,pow_le_pow_right → aME,pow_succ → aL2,pow_zero → aMN,zero_add → aL9,zero_le → aK5
set_option linter.unusedSimpArgs false
set_option linter.unusedVariables false
namespace Go.PM
abbrev uV (d:Nat):VV := .sc (.int .u32 (d:Int))
abbrev Dd (ds:List Nat):VV:=aC uV ds
def bR (n:Nat):VV:=Dd (aD 4294967296 n)
theorem Xo:∀d:Nat,(aB (uV d)).length=1:=fun _=>rfl
theorem adA (ds:List Nat):bA (Dd ds)=true:=mO Xo fun _=>rfl
theorem agU (ds:List Nat):hJ (Dd ds)=true:=zY Xo (fun _=>rfl) fun _=>rfl
theorem bW (n:Nat):bA (bR n)=true:=adA _
theorem tX (n:Nat):hJ (bR n)=true:=agU _
theorem Gz:bR 0 = .tree [] .op:=by rw[bR,cE];rfl
theorem Z1 (a b:Nat) (ha:a<18446744073709551616) (hb:0<b):dK .quo (.int .u64 (a:Int)) (.int .u64 (b:Int))=some (.int .u64 ((a / b:Nat):Int)):=by
 have h1:¬((b:Int)=0):=by omega
 have h2:(a:Int).tdiv (b:Int)=((a / b:Nat):Int):=by rw[aMC (by omega)];simp
 have h3:a / b≤a:=Nat.div_le_self _ _
 simp only[dK,if_true,h1,if_false,h2]
 rw[eZ _ (by omega)]
theorem SY (a b:Nat) (hb:0<b):dK .rem (.int .u64 (a:Int)) (.int .u64 (b:Int))=some (.int .u64 ((a % b:Nat):Int)):=by
 have h1:¬((b:Int)=0):=by omega
 have h2:(a:Int).tmod (b:Int)=((a % b:Nat):Int):=by rw[aMD (by omega)];simp
 simp only[dK,if_true,h1,if_false,h2]
theorem ayG (n s:Nat) (hn:n<4294967296) (hs:s≤31):dK .shl (.int .u64 (n:Int)) (.int .i64 (s:Int))=some (.int .u64 ((n*2^s:Nat):Int)):=by
 have h1:¬((s:Int)<0):=by omega
 have h2:Nat.min (Int.toNat (s:Int)) IntKind.u64.bits=s:=by
  rw[aLX]
  exact Nat.min_eq_left (by show s≤64;omega)
 have h3:2^s≤2^31:=aME (by decide) hs
 have h4:n*2^s≤n*2^31:=Nat.mul_le_mul_left _ h3
 simp only[dK,h1,if_false,h2]
 congr 2
 have e:(n:Int)*2^s=((n*2^s:Nat):Int):=by simp
 rw[e]
 exact eZ _ (by omega)
theorem anF (n s:Nat) (hs:s≤31):dK .shr (.int .u64 (n:Int)) (.int .i64 (s:Int))=some (.int .u64 ((n / 2^s:Nat):Int)):=by
 have h1:¬((s:Int)<0):=by omega
 have h2:Nat.min (Int.toNat (s:Int)) IntKind.u64.bits=s:=by
  rw[aLX]
  exact Nat.min_eq_left (by show s≤64;omega)
 simp only[dK,h1,if_false,h2]
 congr 2
 rw[Int.fdiv_eq_ediv_of_nonneg _ (by exact Int.le_of_lt (Int.pow_pos (by decide)))]
 simp
theorem ayR (a m s:Nat) (ha:a<2^s) (hm:m*2^s+a<4294967296):dK .or (.int .u32 (a:Int)) (.int .u32 ((m*2^s:Nat):Int))=some (.int .u32 ((a+m*2^s:Nat):Int)):=by
 have e:a ||| (m*2^s)=a+m*2^s:=by
  have:=Nat.shiftLeft_add_eq_or_of_lt ha m
  rw[Nat.shiftLeft_eq] at this
  rw[Nat.or_comm,←this,Nat.add_comm]
 have e1:(BitVec.ofInt IntKind.u32.bits (a:Int) ||| BitVec.ofInt IntKind.u32.bits ((m*2^s:Nat):Int)).toNat=a+m*2^s:=by
  show (BitVec.ofInt 32 (a:Int) ||| BitVec.ofInt 32 ((m*2^s:Nat):Int)).toNat=a+m*2^s
  rw[BitVec.toNat_or,BitVec.ofInt_natCast,BitVec.ofInt_natCast,BitVec.toNat_ofNat,BitVec.toNat_ofNat,aL5 (by omega),aL5 (by omega),e]
 simp only[dK,if_true,e1]
 rw[wrap32,aL5 (by omega)]
section
variable {rows:List Nat} {b g c n e:Nat} {w:Bool} {H:aA}
theorem NI {m d:Nat} (hr:aG H b g=some (rows.map uV,1,w)) (hn:n≤rows.length) (hc:n≤c) (he:rows.take n=aD 4294967296 m):fz (d+2) H (.ref b g 0 n c)=some (bR m):=by
 have:bA (.ref b g 0 n c)=false:=rfl
 unfold fz
 simp only[this,hr,Bool.false_eq_true,if_false]
 have BY:aO ((rows.map uV).take n)=true:=by rw[←List.map_take];exact fQ fun _=>rfl
 rw[if_pos ⟨by simpa using hn,hc⟩,aLN,mapM_pure BY,←List.map_take,he]
 rfl
theorem TB {m:Nat} (hr:aG H b g=some (rows.map uV,1,w)) (hn:n≤rows.length) (hc:n≤c) (he:rows.take n=aD 4294967296 m):fz depth H (.ref b g 0 n c)=some (bR m):=NI (d:=6) hr hn hc he
theorem bO {d:Nat} {u u' v v':VV} (h1:fz (d+1) H u=some u') (h2:fz (d+1) H v=some v'):fz (d+2) H (.eJ [u,v])=some (.eJ [u',v']):=by
 have e:fz (d+2) H (.eJ [u,v])=if bA (.eJ [u,v])=true then some (.eJ [u,v]) else ([u,v].mapM (fz (d+1) H)).map .eJ:=rfl
 rw[e]
 by_cases hp:bA (.eJ [u,v])=true
 ·rw[if_pos hp]
  simp only[bA,aO,Bool.and_eq_true,and_true] at hp
  rw[aN hp.1] at h1
  rw[aN hp.2] at h2
  cases h1
  cases h2
  rfl
 ·rw[if_neg hp,List.mapM_cons,h1,List.mapM_cons,h2]
  rfl
theorem kG {j d:Nat} (hr:aG H b g=some (rows.map uV,1,w)) (hj:rows[j]? = some d):bH false 1 (.ptr b g j 0) H=some (uV d):=qC hr hj
theorem SK {xs:List Nat} {m d:Nat} (hm:xs.length=m+1) (hd:xs[m]? = some d) (h:d≠0):xs.getLast? ≠ some 0:=by
 rw[List.getLast?_eq_getElem?,hm,Nat.add_sub_cancel,hd]
 simpa using h
end
theorem ahR {rows:List Nat} {b g n c:Nat} {w:Bool} {H:aA} {lo:Nat} (hr:aG H b g=some (rows.map uV,1,w)) (hn:n≤rows.length) (hc:n≤c) (Fm:n≤70368744177664) (hd:∀d∈rows.take n,d<4294967296) :
  jH 182 [.ref b g 0 n c] lo H fun r H'=>H'=H∧∃k,k≤n∧r = .ref b g 0 k c∧rows.take k=aD 4294967296 (val 4294967296 (rows.take n)):=by
 refine jH.walk ⟨true,false⟩ B7 (aMp rfl) ?_
 simp only[Af,wW,VX,Nat.reduceEqDiff,Nat.reduceAdd]
 refine aP (fun(k:Nat) ρ H'=>k≤n∧H'=H∧val 4294967296 (rows.take k)=val 4294967296 (rows.take n)∧ρ 0 = .ref b g 0 k c) (fun k=>k) n ⟨aKB _,rfl,rfl,rfl⟩ ?_
 rintro k ρ H' ⟨hk,rfl,hv,h0⟩
 have e0:rL (.ref b g 0 k c) H'=some (VI k):=eK hr
 have done:(rows.take k).getLast? ≠ some 0→rows.take k=aD 4294967296 (val 4294967296 (rows.take n)):=fun fW=>by
  rw[←hv,O4 (by decide) (fun d h=>hd d ?_) fW]
  exact(List.take_sublist_take_left hk).mem h
 rcases aMF k with hz | hp
 ·subst hz
  simp only[gP,h0,e0,Int.reduceLT,aMG,VX,Nat.reduceEqDiff,Nat.reduceAdd]
  exact⟨0,hk,rfl,done (by simp)⟩
 ·obtain⟨m,rfl⟩:∃m,k=m+1:=⟨k-1,by omega⟩
  obtain⟨d,hdd⟩:∃d,rows[m]? = some d:=⟨_,aKI (by omega)⟩
  have BY:(0:Int)<((m+1:Nat):Int):=by omega
  have w1:IntKind.i64.wrap (((m+1:Nat):Int)-1)=(m:Int):=by rw[wrap64 (by omega) (by omega)];omega
  have e1:bK 1 (.ref b g 0 (m+1) c) (VI m) H'=some (.ptr b g m 0):=by rw[bB hr (by omega),aL9]
  have e2:=kG hr hdd
  by_cases Ft:(d:Int)=0
  ·have hd1:d=0:=by omega
   subst hd1
   have e3:Hq 1 (.ref b g 0 (m+1) c) none (some (VI m)) none H'=some (.ref b g 0 m c):=rJ hr (by omega)
   simp only[gP,h0,e0,BY,w1,e1,e2,e3,Ft,VX,Nat.reduceEqDiff,Nat.reduceAdd]
   refine⟨m,by omega,by omega,?_,rfl⟩
   rw[←hv,bE hdd,aMH,aMI]
  ·simp only[gP,h0,e0,BY,w1,e1,e2,Ft,VX,Nat.reduceEqDiff,Nat.reduceAdd]
   refine⟨m+1,hk,rfl,done (SK (m:=m) (d:=d) (by rw[aMa];omega) ?_ (by omega))⟩
   rw[List.getElem?_take_of_lt (by omega)]
   exact hdd
theorem acV (ds:List Nat) (t:TK) {lo:Nat} {H:aA} (h:∀d∈ds,d<4294967296) (hlen:ds.length≤70368744177664) :
  jH 182 [.tree (ds.map uV) t] lo H fun r H'=>H'=H∧∃t',(t'=t∨t' = .op)∧r = .tree ((aD 4294967296 (val 4294967296 ds)).map uV) t':=by
 refine jH.walk ⟨true,false⟩ B7 (aMp rfl) ?_
 simp only[Af,wW,VX,Nat.reduceEqDiff,Nat.reduceAdd]
 refine aP (fun(s:List Nat×TK) ρ H'=>(∀d∈s.1,d<4294967296)∧val 4294967296 s.1=val 4294967296 ds∧s.1.length≤ds.length∧H'=H∧(s.2=t∨s.2 = .op)∧ρ 0 = .tree (s.1.map uV) s.2) (fun s=>s.1.length) (ds,t) ⟨h,rfl,aKB _,rfl,.inl rfl,rfl⟩ ?_
 rintro⟨xs,t'⟩ ρ H' ⟨hx,hv,hl,rfl,ht,h0⟩
 simp only at hx hv hl ht h0
 have done:xs.getLast? ≠ some 0→xs=aD 4294967296 (val 4294967296 ds):=fun fW=>by rw[←hv,O4 (by decide) hx fW]
 rcases aMF xs.length with hz | hp
 ·have hxn:xs=[]:=aMJ.1 hz
  subst hxn
  simp only[gP,h0,Int.reduceLT,aMG,VX,Nat.reduceEqDiff,Nat.reduceAdd]
  exact⟨t',ht,by rw[←done (by simp)];rfl⟩
 ·obtain⟨m,hm⟩:∃m,xs.length=m+1:=⟨xs.length-1,by omega⟩
  obtain⟨d,hd⟩:∃d,xs[m]? = some d:=⟨_,aKI (by omega)⟩
  have BY:(0:Int)<((m+1:Nat):Int):=by omega
  have w1:IntKind.i64.wrap (((m+1:Nat):Int)-1)=(m:Int):=by rw[wrap64 (by omega) (by omega)];omega
  have e1:=aI (f:=uV) (t:=t') (H:=H') (size:=1) (k := .i64) hd rfl
  by_cases Ft:(d:Int)=0
  ·have hd1:d=0:=by omega
   subst hd1
   have e2:=Ms (f:=uV) (size:=1) (t:=t') (H:=H') (k2 := .i64) (xs:=xs) (h:=m) Xo (by omega) (by omega)
   have VO:xs=xs.take m++[0]:=by
    have:=aLK m xs
    have h3:=(aKA.1 hd)
    rw[aKG h3.1,h3.2,aMu (by omega)] at this
    exact this.symm
   simp only[gP,h0,hm,BY,w1,e1,e2,Ft,VX,Nat.reduceEqDiff,Nat.reduceAdd]
   refine⟨(xs.take m,.op),by simp only[aMa];omega,fun d hd=>hx d (aLy hd),?_,by simp only[aMa];omega,.inr rfl,rfl⟩
   rw[←hv]
   conv=>rhs;rw[VO]
   rw[vY]
   simp
  ·simp only[gP,h0,hm,BY,w1,e1,Ft,VX,Nat.reduceEqDiff,Nat.reduceAdd]
   exact⟨t',ht,by rw[←done (SK hm hd (by omega))]⟩
theorem vH {rows:List Nat} {b g n c:Nat} {w:Bool} {H:aA} {K:VV→aA→Prop} {m lo:Nat} (hr:aG H b g=some (rows.map uV,1,w)) (hn:n≤rows.length) (hc:n≤c) (Fm:n≤70368744177664) (hd:∀d∈rows.take n,d<4294967296) (hm:val 4294967296 (rows.take n)=m)
  (hk:∀k,k≤n→rows.take k=aD 4294967296 m→K (.ref b g 0 k c) H):dI 182 [.ref b g 0 n c] lo H K:=by
 refine gC rfl ((ahR hr hn hc Fm hd).mono ?_)
 rintro r H' ⟨rfl,k,h1,rfl,h2⟩
 rw[hm] at h2
 exact hk k h1 h2
theorem Qf {ds:List Nat} {t:TK} {lo:Nat} {H:aA} {K:VV→aA→Prop} {m:Nat} (h:∀d∈ds,d<4294967296) (hlen:ds.length≤70368744177664) (hm:val 4294967296 ds=m) (hk:∀t',(t'=t∨t' = .op)→K (.tree ((aD 4294967296 m).map uV) t') H):dI 182 [.tree (ds.map uV) t] lo H K:=by
 refine gC rfl ((acV ds t h hlen).mono ?_)
 rintro r H' ⟨rfl,t',h1,rfl⟩
 rw[hm]
 exact hk t' h1
theorem atE {H:aA} {m:Nat} {t:TK} (ht:t = .cl 1∨t = .op):fz depth H (.tree ((aD 4294967296 m).map uV) t)=some (bR m):=by
 rcases ht with rfl | rfl
 ·exact avH (fQ fun _=>rfl)
 ·exact aL (bW m)
end Go.PM
namespace Go.PM
theorem oW (n:Nat) (h:n<18446744073709551616):TC 139 [VK .u64 n] (bR n):=by
 refine TC.walk ⟨true,false⟩ Sn rfl (aMp rfl) rfl (tX _) ?_
 have e1:=anU (H:=[]) (z:=[.int .u32 0]) (u:=uV (n % 4294967296)) (v:=uV (n / 4294967296 % 4294967296)) rfl rfl rfl rfl rfl
 have hm:∀d∈[n % 4294967296,n / 4294967296 % 4294967296],d<4294967296:=by
  intro d hd
  simp only[List.mem_cons,List.not_mem_nil,or_false] at hd
  rcases hd with rfl | rfl<;>exact aK3 _ (by decide)
 have hv:val 4294967296 [n % 4294967296,n / 4294967296 % 4294967296]=n:=by
  simp only[val]
  have:=aMK n 4294967296
  rw[aL5 (show n / 4294967296<4294967296 by omega)]
  omega
 simp only[Pl,Jo,wrap32,qO,e1,VX,Nat.reduceEqDiff,Nat.reduceAdd]
 refine Qf (ds:=[n % 4294967296,n / 4294967296 % 4294967296]) (t := .cl 1) hm (by show 2≤70368744177664;decide) hv fun t' ht => ?_
 simp only[VX,Nat.reduceEqDiff,Nat.reduceAdd]
 exact atE ht
theorem DJ (n:Nat) (hn:(aD 4294967296 n).length≤17592186044416):TC 193 [bR n] (if (aD 4294967296 n).length≤2 then .eJ [VK .u64 n,VB true] else .eJ [VK .u64 0,VB false]):=by
 refine TC.walk ⟨true,false⟩ IS rfl (aMp rfl) (by simp[aO,bW]) (by split<;>rfl) ?_
 have hv:=cN (b:=4294967296) (by decide) n
 have hl:=gK (b:=4294967296) (by decide) n
 unfold bR Dd
 generalize aD 4294967296 n=ds at *
 have w1:IntKind.i64.wrap ((ds.length:Int)-1)=(ds.length:Int)-1:=wrap64 (by omega) (by omega)
 simp only[CV,A5,w1,VX,Nat.reduceEqDiff,Nat.reduceAdd]
 by_cases h2:ds.length≤2
 ·rw[if_pos h2]
  have c2:(ds.length:Int)≤2:=by omega
  refine aP (fun(j:Nat) ρ H=>j≤ds.length∧H=[]∧ρ 0=aC uV ds∧ρ 4=VK .u64 (val 4294967296 (ds.drop j):Nat)∧ρ 5=VI ((j:Int)-1)) (fun j=>j) ds.length ⟨aKB _,rfl,rfl,by rw[aML];rfl,rfl⟩ ?_
  rintro j ρ H ⟨hj,rfl,g0,g4,g5⟩
  by_cases hz:(0:Int)≤(j:Int)-1
  ·obtain⟨i,rfl⟩:∃i,j=i+1:=⟨j-1,by omega⟩
   obtain⟨x,hx⟩:∃x,ds[i]? = some x:=⟨_,aKI (by omega)⟩
   have Ed:((i+1:Nat):Int)-1=(i:Int):=by omega
   rw[Ed] at g5 hz
   have e1:=aI (f:=uV) (t := .op) (H:=[]) (size:=1) (k := .i64) hx rfl
   have lx:=hl x (aLv hx)
   have ld:=sF (b:=4294967296) (xs:=ds.drop (i+1)) fun d hd=>hl d (List.mem_of_mem_drop hd)
   have hle:(ds.drop (i+1)).length≤1:=by rw[List.length_drop];omega
   have hpw:4294967296^(ds.drop (i+1)).length≤4294967296^1:=aME (by decide) hle
   rw[Nat.pow_one] at hpw
   have w2:IntKind.i64.wrap ((i:Int)-1)=(i:Int)-1:=wrap64 (by omega) (by omega)
   have w3:IntKind.u64.wrap (x:Int)=(x:Int):=eZ _ (by omega)
   have w4:IntKind.u64.wrap (((val 4294967296 (ds.drop (i+1))*4294967296:Nat):Int)+(x:Int))=((val 4294967296 (ds.drop i):Nat):Int):=by
    rw[xA hx,←aMM,eZ _ (by omega)]
    congr 1
    omega
   have w5:=GN (val 4294967296 (ds.drop (i+1))) .u64 (by omega)
   simp only[nO,g0,g4,g5,hz,c2,e1,w2,w3,w4,w5,VX,Nat.reduceEqDiff,Nat.reduceAdd]
   exact⟨i,by omega,by omega,by (repeat' apply aMh)<;>first | rfl | trivial⟩
  ·have Xk:j=0:=by omega
   subst Xk
   rw[aLN,hv] at g4
   simp only[nO,g0,g4,g5,hz,c2,VX,Nat.reduceEqDiff,Nat.reduceAdd]
   exact aL rfl
 ·rw[if_neg h2]
  have c2:¬(ds.length:Int)≤2:=by omega
  have c3:(0:Int)≤(ds.length:Int)-1:=by omega
  refine aP (fun(j:Nat) ρ H=>H=[]∧ρ 0=aC uV ds∧ρ 4=VK .u64 0∧ρ 5=VI ((ds.length:Int)-1)) (fun j=>j) 0 ⟨rfl,rfl,rfl,rfl⟩ ?_
  rintro j ρ H ⟨rfl,g0,g4,g5⟩
  simp only[nO,g0,g4,g5,c2,c3,VX,Nat.reduceEqDiff,Nat.reduceAdd]
  exact aL rfl
theorem lX (a b:Nat) (ha:(aD 4294967296 a).length≤17592186044416) (hb:(aD 4294967296 b).length≤17592186044416):TC 142 [bR a,bR b] (VI (gH a b)):=by
 refine TC.walk ⟨true,false⟩ KX rfl (aMp rfl) (by simp[aO,bW]) rfl ?_
 have fin:∀ {x:Int},x=gH a b→fz depth [] (VI x)=some (VI (gH a b)):=fun h=>by rw[h];exact aL rfl
 unfold bR Dd
 by_cases hl:(((aD 4294967296 a).length:Nat):Int)=(((aD 4294967296 b).length:Nat):Int)
 ·have Fo:(aD 4294967296 a).length=(aD 4294967296 b).length:=by omega
  have w1:IntKind.i64.wrap ((((aD 4294967296 b).length:Nat):Int)-1)=(((aD 4294967296 b).length:Nat):Int)-1:=wrap64 (by omega) (by omega)
  simp only[vV,sX,hl,w1,VX,Nat.reduceEqDiff,Nat.reduceAdd]
  refine aP (fun(j:Nat) ρ H=>j≤(aD 4294967296 b).length∧H=[]∧(aD 4294967296 a).drop j=(aD 4294967296 b).drop j∧ρ 0=aC uV (aD 4294967296 a)∧ρ 1=aC uV (aD 4294967296 b)∧ρ 5=VI ((j:Int)-1)) (fun j=>j) (aD 4294967296 b).length ⟨aKB _,rfl,by rw[aML,←Fo,aML],rfl,rfl,rfl⟩ ?_
  rintro j ρ H ⟨hj,rfl,hd,h0,h1,h5⟩
  by_cases hz:(0:Int)≤(j:Int)-1
  ·obtain⟨i,rfl⟩:∃i,j=i+1:=⟨j-1,by omega⟩
   obtain⟨x,hx⟩:∃x,(aD 4294967296 a)[i]? = some x:=⟨_,aKI (by omega)⟩
   obtain⟨y,hy⟩:∃y,(aD 4294967296 b)[i]? = some y:=⟨_,aKI (by omega)⟩
   have Ed:((i+1:Nat):Int)-1=(i:Int):=by omega
   have e1:=aI (f:=uV) (t := .op) (H:=[]) (size:=1) (k := .i64) hx rfl
   have e2:=aI (f:=uV) (t := .op) (H:=[]) (size:=1) (k := .i64) hy rfl
   rw[Ed] at h5 hz
   have w2:IntKind.i64.wrap ((i:Int)-1)=(i:Int)-1:=wrap64 (by omega) (by omega)
   by_cases CT:(x:Int)=(y:Int)
   ·simp only[mY,h0,h1,h5,hz,e1,e2,CT,w2,VX,Nat.reduceEqDiff,Nat.reduceAdd]
    have awH:x=y:=by omega
    subst awH
    refine⟨i,by omega,by omega,?_⟩
    obtain⟨g1,g2⟩:=aKA.1 hx
    obtain⟨g3,g4⟩:=aKA.1 hy
    rw[aKG g1,aKG g3,g2,g4,hd]
    exact⟨rfl,rfl⟩
   ·by_cases bI:(x:Int)<(y:Int)
    ·simp only[mY,h0,h1,h5,hz,e1,e2,CT,bI,VX,Nat.reduceEqDiff,Nat.reduceAdd]
     refine fin ?_
     have:=G3 (gK (by decide) a) Fo hx hy hd (by omega)
     rw[cN (by decide),cN (by decide)] at this
     simp[gH,this]
    ·simp only[mY,h0,h1,h5,hz,e1,e2,CT,bI,VX,Nat.reduceEqDiff,Nat.reduceAdd]
     refine fin ?_
     have:=G3 (gK (by decide) b) Fo.symm hy hx hd.symm (by omega)
     rw[cN (by decide),cN (by decide)] at this
     rw[gH,if_neg (by omega),if_neg (by omega)]
  ·have Xk:j=0:=by omega
   subst Xk
   simp only[mY,h0,h1,h5,hz,VX,Nat.reduceEqDiff,Nat.reduceAdd]
   refine fin ?_
   have:=VY (b:=4294967296) (by decide) (by simpa using hd)
   subst this
   simp[gH]
 ·by_cases bI:(((aD 4294967296 a).length:Nat):Int)<(((aD 4294967296 b).length:Nat):Int)
  ·simp only[vV,sX,hl,bI,VX,Nat.reduceEqDiff,Nat.reduceAdd]
   refine fin ?_
   have:=Hf (b:=4294967296) (by decide) (m:=a) (n:=b) (by omega)
   simp[gH,this]
  ·simp only[vV,sX,hl,bI,VX,Nat.reduceEqDiff,Nat.reduceAdd]
   refine fin ?_
   have:=Hf (b:=4294967296) (by decide) (m:=b) (n:=a) (by omega)
   rw[gH,if_neg (by omega),if_neg (by omega)]
end Go.PM
namespace Go.PM
section
variable {b:Nat}
theorem Lr (hb:2≤b) (n i:Nat):(aD b n).getD i 0=n / b^i % b:=by
 induction i generalizing n with
 |
  zero =>
  by_cases h:n=0
  ·subst h;simp[cE]
  ·rw[kW hb h,List.getD_cons_zero,aMN,Nat.div_one]
 |
  succ i ih =>
  by_cases h:n=0
  ·subst h;simp[cE]
  ·rw[kW hb h,List.getD_cons_succ,ih,aMO,aL2,aL3 b]
theorem G0 (hb:2≤b) {n i:Nat}:i<(aD b n).length↔n / b^i≠0:=by
 induction i generalizing n with
 |
  zero =>
  rw[aMN,Nat.div_one,List.length_pos_iff]
  exact not_congr (nT hb)
 |
  succ i ih =>
  by_cases h:n=0
  ·subst h;simp[cE]
  ·rw[kW hb h,aKL,Nat.add_lt_add_iff_right,ih,aMO,aL2,aL3 b]
theorem Qc (hb:2≤b) {n i:Nat} (h:i<(aD b n).length):(aD b n)[i]? = some (n / b^i % b):=by
 rw[←Lr hb,aKy,aKI h]
 rfl
theorem aeC (hb:2≤b) (n i:Nat):(aD b n).drop i=aD b (n / b^i):=by
 induction i generalizing n with
 | zero=>simp
 |
  succ i ih =>
  by_cases h:n=0
  ·subst h;simp[cE]
  ·rw[kW hb h,List.drop_succ_cons,ih,aMO,aL2,aL3 b]
theorem vP (n i:Nat):n / b^(i+1)=n / b^i / b:=by rw[aMO,aL2]
theorem HB (xs:List Nat) (i:Nat):val b (xs.take (i+1))=val b (xs.take i)+b^i*xs.getD i 0:=by
 by_cases h:i<xs.length
 ·rw[bE (aKI h),aKy,aKI h]
  rfl
 ·rw[lF (by omega),lF (by omega),aKy,aK1 (by omega)]
  simp
theorem Rv (hb:2≤b) {n d q:Nat} (hn:n≠0) (h:n=d+b*q) (hd:d<b):aD b n=d::aD b q:=by
 rw[kW hb hn,h,Nat.add_mul_mod_self_left,aL5 hd,Nat.add_mul_div_left _ _ (by omega),aL8 hd,aL9]
theorem abY (hb:2≤b) {x y c:Nat} (h:x+y+c≠0):aD b (x+y+c)=(x % b+y % b+c) % b::aD b (x / b+y / b+(x % b+y % b+c) / b):=by
 refine Rv hb h ?_ (aK3 _ (by omega))
 have h1:=aMK x b
 have h2:=aMK y b
 have h3:=aMK (x % b+y % b+c) b
 have e:b*(x / b+y / b+(x % b+y % b+c) / b)=b*(x / b)+b*(y / b)+b*((x % b+y % b+c) / b):=by grind
 omega
theorem afT (hb:2≤b) {x d c:Nat} (h:x*d+c≠0):aD b (x*d+c)=(x % b*d+c) % b::aD b (x / b*d+(x % b*d+c) / b):=by
 refine Rv hb h ?_ (aK3 _ (by omega))
 have h1:=aMK x b
 have h3:=aMK (x % b*d+c) b
 have e:b*(x / b*d+(x % b*d+c) / b)=b*(x / b)*d+b*((x % b*d+c) / b):=by grind
 have e2:x*d=x % b*d+b*(x / b)*d:=by
  conv=>lhs;rw[←h1,aK6]
 omega
theorem Ts (hb:2≤b) {m n k:Nat} (hm:(aD b m).length≤k) (hn:(aD b n).length≤k):(aD b (m+n)).length≤k+1:=by
 refine oM hb ?_
 have y1:=iP hb m
 have y2:=iP hb n
 have y3:b^(aD b m).length≤b^k:=aME (by omega) hm
 have y4:b^(aD b n).length≤b^k:=aME (by omega) hn
 have y5:b^k*2≤b^k*b:=Nat.mul_le_mul_left _ hb
 rw[aL2]
 omega
theorem Sx (hb:2≤b) (m n:Nat):(aD b (m*n)).length≤(aD b m).length+(aD b n).length:=by
 refine oM hb ?_
 rw[aMP]
 exact Nat.mul_lt_mul'' (iP hb m) (iP hb n)
theorem FE (hb:2≤b) {c:Nat} (h:c≠0) (hc:c<b):aD b c=[c]:=by
 rw[kW hb h,aL5 hc,aL8 hc,cE]
end
end Go.PM
namespace Go.PM
abbrev tV (d:Nat):VV:=VI (d:Int)
abbrev jI (ds:List Nat):VV:=aC tV ds
def cC (n:Nat):VV:=jI (aD 1000000000 n)
theorem IM:∀d:Nat,(aB (tV d)).length=1:=fun _=>rfl
theorem BJ (ds:List Nat):bA (jI ds)=true:=mO IM fun _=>rfl
theorem adP (ds:List Nat):hJ (jI ds)=true:=zY IM (fun _=>rfl) fun _=>rfl
theorem cM (n:Nat):bA (cC n)=true:=BJ _
theorem pU (n:Nat):hJ (cC n)=true:=adP _
theorem KH:cC 0 = .tree [] .op:=by rw[cC,cE];rfl
theorem ahS:cC 1=jI [1]:=by rw[cC,kW (by decide) (by decide),cE]
theorem cQ (n:Nat) {H:aA}:rL (cC n) H=some (VI (aD 1000000000 n).length):=eW
section
variable {α:Type} {f:α→VV} {xs:List α} {x:α} {H:aA}
theorem NF {g e:Nat} {es:List VV} {w:Bool}:aG [.row g es e w] 0 g=some (es,e,w):=aT
theorem aDt {e bytes:Nat} (he:1≤e) (hb:1≤bytes) (Fa:(xs.length+1)*bytes≤140737488355328):dR 0 e bytes (.ref 0 xs.length 0 xs.length xs.length) [f x] [.row xs.length (xs.map f) e true]=some (.ref 0 (xs.length+1) 0 (xs.length+1) (xs.length+1),[.row (xs.length+1) ((xs++[x]).map f) e true]):=by
 rw[jT (f:=f) (x:=x) aT rfl (aKB _) he hb Fa]
 rfl
theorem UR {n g e:Nat} {w:Bool} (hp:∀x,bA (f x)=true) (hn:n=xs.length):fz depth [.row g (xs.map f) e w] (.ref 0 g 0 n n)=some (aC f xs):=II aT (by simpa using hn) (aKB _) (fQ hp)
end
theorem Ox {lr:Bool}:mW lr [.int .i64 0] 0 [] []=some (.ref 0 0 0 0 0,[.row 0 (([]:List Nat).map tV) 1 true]):=mX (H:=[]) rfl
theorem wB {d:Int} {H:aA}:mW false [.int .i64 0] 1 [(0,VI d)] H=some (.tree [VI d] (.cl 1),H):=iY rfl rfl rfl
theorem zT {d:Int} {H:aA} {t:TK}:cZ 1 (.tree [VI d] t) H=some [VI d]:=eV rfl rfl
theorem apS {ds:List Nat} {d:Nat} (h:ds.length<17592186044416):dR 0 1 8 (.ref 0 ds.length 0 ds.length ds.length) [VI (d:Int)] [.row ds.length (ds.map tV) 1 true]=some (.ref 0 (ds.length+1) 0 (ds.length+1) (ds.length+1),[.row (ds.length+1) ((ds++[d]).map tV) 1 true]):=aDt (f:=tV) (by decide) (by decide) (by omega)
theorem Rj (n:Nat):dK .rem (.int .i64 (n:Int)) (.int .i64 1000000000)=some (.int .i64 ((n % 1000000000:Nat):Int)):=by
 have h2:(n:Int).tmod 1000000000=((n % 1000000000:Nat):Int):=by rw[aMD (by omega)];simp
 simp only[dK,if_true,h2]
 rfl
theorem Rs (n:Nat) (h:n≤9223372036854775807):dK .quo (.int .i64 (n:Int)) (.int .i64 1000000000)=some (.int .i64 ((n / 1000000000:Nat):Int)):=by
 have h2:(n:Int).tdiv 1000000000=((n / 1000000000:Nat):Int):=by rw[aMC (by omega)];simp
 simp only[dK,if_true,h2]
 rw[wrap64 (by omega) (by omega)]
 rfl
theorem vU (ds:List Nat) (h:∀d∈ds,d<1000000000) (hlen:ds.length≤70368744177664):TC 184 [jI ds] (cC (val 1000000000 ds)):=by
 refine TC.walk ⟨true,false⟩ OJ rfl (aMp rfl) (by simp[aO,BJ]) (pU _) ?_
 simp only[Jr,FF,VX,Nat.reduceEqDiff,Nat.reduceAdd]
 refine aP (fun(xs:List Nat) ρ H'=>(∀d∈xs,d<1000000000)∧val 1000000000 xs=val 1000000000 ds∧xs.length≤ds.length∧H'=[]∧ρ 0=jI xs) (fun s=>s.length) ds ⟨h,rfl,aKB _,rfl,rfl⟩ ?_
 rintro xs ρ H' ⟨hx,hv,hl,rfl,h0⟩
 have done:xs.getLast? ≠ some 0→fz depth [] (jI xs)=some (cC (val 1000000000 ds)):=fun fW=>by rw[cC,←hv,O4 (by decide) hx fW];exact aL (BJ _)
 rcases aMF xs.length with hz | hp
 ·have hxn:xs=[]:=aMJ.1 hz
  subst hxn
  simp only[uJ,h0,Int.reduceLT,aMG,eW,aMe,VX,Nat.reduceEqDiff,Nat.reduceAdd]
  exact done (by simp)
 ·obtain⟨m,hm⟩:∃m,xs.length=m+1:=⟨xs.length-1,by omega⟩
  obtain⟨d,hd⟩:∃d,xs[m]? = some d:=⟨_,aKI (by omega)⟩
  have BY:(0:Int)<((m+1:Nat):Int):=by omega
  have w1:IntKind.i64.wrap (((m+1:Nat):Int)-1)=(m:Int):=by rw[wrap64 (by omega) (by omega)];omega
  have e1:=aI (f:=tV) (t := .op) (H:=[]) (size:=1) (k := .i64) hd rfl
  by_cases Ft:(d:Int)=0
  ·have hd1:d=0:=by omega
   subst hd1
   have e2:=Ms (f:=tV) (size:=1) (t := .op) (H:=[]) (k2 := .i64) (xs:=xs) (h:=m) IM (by omega) (by omega)
   have VO:xs=xs.take m++[0]:=by
    have:=aLK m xs
    have h3:=(aKA.1 hd)
    rw[aKG h3.1,h3.2,aMu (by omega)] at this
    exact this.symm
   simp only[uJ,h0,hm,BY,w1,e1,e2,Ft,eW,VX,Nat.reduceEqDiff,Nat.reduceAdd]
   refine⟨xs.take m,by simp only[aMa];omega,fun d hd=>hx d (aLy hd),?_,by simp only[aMa];omega,by first | rfl | exact⟨rfl,rfl⟩⟩
   rw[←hv]
   conv=>rhs;rw[VO]
   rw[vY]
   simp
  ·simp only[uJ,h0,hm,BY,w1,e1,Ft,eW,VX,Nat.reduceEqDiff,Nat.reduceAdd]
   exact done (SK hm hd (by omega))
theorem K6 {outs:List Nat} {n g m:Nat} {lo:Nat} {w:Bool} {K:VV→aA→Prop} (hd:∀d∈outs,d<1000000000) (hn:n=outs.length) (hlen:outs.length≤70368744177664) (hm:val 1000000000 outs=m) (hk:K (cC m) (dD [.row g (outs.map tV) 1 w] [0])) :
  dI 184 [.ref 0 g 0 n n] lo [.row g (outs.map tV) 1 w] K:=by
 subst hm
 rw[TC.asV (f:=tV) (vU outs hd hlen) aT hn (aKB _) IM (fun _=>rfl) rfl rfl]
 exact hk
theorem UI {H:aA} (n:Nat):fz depth H (cC n)=some (cC n):=aL (cM n)
theorem tQ (n:Int) (h1:n≤9223372036854775807):TC 178 [VI n] (cC n.toNat):=by
 refine TC.walk ⟨true,false⟩ Qo rfl (aMp rfl) rfl (pU _) ?_
 simp only[ML,HE,Ox,VX,Nat.reduceEqDiff,Nat.reduceAdd]
 refine aP (fun(s:Int×List Nat) ρ H=>s.1≤9223372036854775807∧H=[.row s.2.length (s.2.map tV) 1 true]∧s.2.length≤63∧s.1.toNat*2^s.2.length≤9223372036854775807∧aD 1000000000 n.toNat=s.2++aD 1000000000 s.1.toNat∧ρ 0=VI s.1∧ρ 3 = .ref 0 s.2.length 0 s.2.length s.2.length) (fun s=>s.1.toNat) (n,[]) ⟨h1,rfl,by simp,by simp only[aMe,aMN,Nat.mul_one];omega,rfl,rfl,rfl⟩ ?_
 rintro⟨m,ds⟩ ρ H ⟨hm,rfl,hl,bI,hd,g0,g3⟩
 simp only at hm hl bI hd g0 g3
 by_cases hp:(0:Int)<m
 ·obtain⟨k,rfl⟩:∃k:Nat,m=(k:Int):=⟨m.toNat,by omega⟩
  rw[aLX] at bI hd
  have hk0:k≠0:=by omega
  have JN:ds.length<63:=by
   rcases aKE ds.length 63 with h | h
   ·exact h
   ·have e:2^ds.length=9223372036854775808:=by rw[show ds.length=63 by omega]
    rw[e] at bI
    omega
  have r1:=Rj k
  have q1:=Rs k (by omega)
  have a1:=apS (ds:=ds) (d:=k % 1000000000) (by omega)
  simp only[Bl,g0,g3,hp,r1,q1,wB,zT,a1,VX,Nat.reduceEqDiff,Nat.reduceAdd]
  refine⟨(((k / 1000000000:Nat):Int),ds++[k % 1000000000]),?_,by simp only;omega,by simp,by simp;omega,?_,?_,rfl,by simp⟩
  ·simp only[aLX];exact Nat.div_lt_self (by omega) (by decide)
  ·simp only[aLX,aKM,aMQ,aL2]
   have h1:k / 1000000000*2≤k:=by omega
   have:=aK2 (2^ds.length) h1
   rw[aMR,aL3 2] at this
   omega
  ·simp only[aLX]
   rw[hd,kW (by decide) hk0,aMn]
   rfl
 ·have hz:m.toNat=0:=by omega
  rw[hz,cE,aLJ] at hd
  simp only[Bl,g0,g3,hp,VX,Nat.reduceEqDiff,Nat.reduceAdd]
  rw[cC,hd]
  exact UR (fun _=>rfl) rfl
theorem yU (a b:Nat) (ha:(aD 1000000000 a).length≤17592186044416) (hb:(aD 1000000000 b).length≤17592186044416):TC 155 [cC a,cC b] (VI (gH a b)):=by
 refine TC.walk ⟨true,false⟩ QP rfl (aMp rfl) (by simp[aO,cM]) rfl ?_
 have fin:∀ {x:Int},x=gH a b→fz depth [] (VI x)=some (VI (gH a b)):=fun h=>by rw[h];exact aL rfl
 unfold cC jI
 by_cases hl:(((aD 1000000000 a).length:Nat):Int)=(((aD 1000000000 b).length:Nat):Int)
 ·have Fo:(aD 1000000000 a).length=(aD 1000000000 b).length:=by omega
  have w1:IntKind.i64.wrap ((((aD 1000000000 b).length:Nat):Int)-1)=(((aD 1000000000 b).length:Nat):Int)-1:=wrap64 (by omega) (by omega)
  simp only[Ce,zC,hl,w1,VX,Nat.reduceEqDiff,Nat.reduceAdd]
  refine aP (fun(j:Nat) ρ H=>j≤(aD 1000000000 b).length∧H=[]∧(aD 1000000000 a).drop j=(aD 1000000000 b).drop j∧ρ 0=aC tV (aD 1000000000 a)∧ρ 1=aC tV (aD 1000000000 b)∧ρ 5=VI ((j:Int)-1)) (fun j=>j) (aD 1000000000 b).length ⟨aKB _,rfl,by rw[aML,←Fo,aML],rfl,rfl,rfl⟩ ?_
  rintro j ρ H ⟨hj,rfl,hd,h0,h1,h5⟩
  by_cases hz:(0:Int)≤(j:Int)-1
  ·obtain⟨i,rfl⟩:∃i,j=i+1:=⟨j-1,by omega⟩
   obtain⟨x,hx⟩:∃x,(aD 1000000000 a)[i]? = some x:=⟨_,aKI (by omega)⟩
   obtain⟨y,hy⟩:∃y,(aD 1000000000 b)[i]? = some y:=⟨_,aKI (by omega)⟩
   have Ed:((i+1:Nat):Int)-1=(i:Int):=by omega
   have e1:=aI (f:=tV) (t := .op) (H:=[]) (size:=1) (k := .i64) hx rfl
   have e2:=aI (f:=tV) (t := .op) (H:=[]) (size:=1) (k := .i64) hy rfl
   rw[Ed] at h5 hz
   have w2:IntKind.i64.wrap ((i:Int)-1)=(i:Int)-1:=wrap64 (by omega) (by omega)
   by_cases CT:(x:Int)=(y:Int)
   ·simp only[rQ,h0,h1,h5,hz,e1,e2,CT,w2,VX,Nat.reduceEqDiff,Nat.reduceAdd]
    have awH:x=y:=by omega
    subst awH
    refine⟨i,by omega,by omega,?_⟩
    obtain⟨g1,g2⟩:=aKA.1 hx
    obtain⟨g3,g4⟩:=aKA.1 hy
    rw[aKG g1,aKG g3,g2,g4,hd]
    exact⟨rfl,rfl⟩
   ·by_cases bI:(x:Int)<(y:Int)
    ·simp only[rQ,h0,h1,h5,hz,e1,e2,CT,bI,VX,Nat.reduceEqDiff,Nat.reduceAdd]
     refine fin ?_
     have:=G3 (gK (by decide) a) Fo hx hy hd (by omega)
     rw[cN (by decide),cN (by decide)] at this
     simp[gH,this]
    ·simp only[rQ,h0,h1,h5,hz,e1,e2,CT,bI,VX,Nat.reduceEqDiff,Nat.reduceAdd]
     refine fin ?_
     have:=G3 (gK (by decide) b) Fo.symm hy hx hd.symm (by omega)
     rw[cN (by decide),cN (by decide)] at this
     rw[gH,if_neg (by omega),if_neg (by omega)]
  ·have Xk:j=0:=by omega
   subst Xk
   simp only[rQ,h0,h1,h5,hz,VX,Nat.reduceEqDiff,Nat.reduceAdd]
   refine fin ?_
   have:=VY (b:=1000000000) (by decide) (by simpa using hd)
   subst this
   simp[gH]
 ·by_cases bI:(((aD 1000000000 a).length:Nat):Int)<(((aD 1000000000 b).length:Nat):Int)
  ·simp only[Ce,zC,hl,bI,VX,Nat.reduceEqDiff,Nat.reduceAdd]
   refine fin ?_
   have:=Hf (b:=1000000000) (by decide) (m:=a) (n:=b) (by omega)
   simp[gH,this]
  ·simp only[Ce,zC,hl,bI,VX,Nat.reduceEqDiff,Nat.reduceAdd]
   refine fin ?_
   have:=Hf (b:=1000000000) (by decide) (m:=b) (n:=a) (by omega)
   rw[gH,if_neg (by omega),if_neg (by omega)]
theorem Nt (ds:List Nat) (i:Nat):TC 186 [jI ds,VI (i:Int)] (tV (ds.getD i 0)):=by
 refine TC.walk ⟨true,false⟩ MX rfl (aMp rfl) (by simp[aO,BJ];rfl) rfl ?_
 by_cases h:(i:Int)<(ds.length:Int)
 ·obtain⟨d,hd⟩:∃d,ds[i]? = some d:=⟨_,aKI (by omega)⟩
  have e1:=aI (f:=tV) (t := .op) (H:=[]) (size:=1) (k := .i64) hd rfl
  simp only[CB,Ag,eW,h,e1,VX,Nat.reduceEqDiff,Nat.reduceAdd]
  rw[aKy,hd]
  exact aL rfl
 ·simp only[CB,Ag,eW,h,VX,Nat.reduceEqDiff,Nat.reduceAdd]
  rw[aKy,aK1 (by omega)]
  exact aL rfl
theorem Gh (n i:Nat):TC 186 [cC n,VI (i:Int)] (tV (n / 1000000000^i % 1000000000)):=by
 have:=Nt (aD 1000000000 n) i
 rwa [Lr (by decide)] at this
theorem L4 (a b:Nat) (ha:(aD 1000000000 a).length<17592186044416) (hb:(aD 1000000000 b).length<17592186044416):TC 154 [cC a,cC b] (cC (a+b)):=by
 refine TC.walk ⟨true,false⟩ Lc rfl (aMp rfl) (by simp[aO,cM]) (pU _) ?_
 simp only[F5,Dw,Ox,VX,Nat.reduceEqDiff,Nat.reduceAdd]
 have hL:=Ts (b:=1000000000) (by decide) (m:=a) (n:=b) (k:=17592186044416-1) (by omega) (by omega)
 refine aP (fun(s:Nat×List Nat×Nat) ρ H=>s.1=s.2.1.length∧H=[.row s.2.1.length (s.2.1.map tV) 1 true]∧s.2.2≤1∧aD 1000000000 (a+b)=s.2.1++aD 1000000000 (a / 1000000000^s.1+b / 1000000000^s.1+s.2.2)∧ρ 0=cC a∧ρ 1=cC b∧ρ 5 = .ref 0 s.2.1.length 0 s.2.1.length s.2.1.length∧ρ 6=VI s.2.2∧ρ 7=VI s.1)
  (fun s=>(aD 1000000000 (a+b)).length-s.1) (0,[],0) ⟨rfl,rfl,by simp,by simp,rfl,rfl,rfl,rfl,rfl⟩ ?_
 rintro⟨i,ds,c⟩ ρ H ⟨hi,rfl,hc,hd,g0,g1,g5,g6,g7⟩
 simp only at hi hc hd g5 g6 g7
 have la:=G0 (b:=1000000000) (by decide) (n:=a) (i:=i)
 have lb:=G0 (b:=1000000000) (by decide) (n:=b) (i:=i)
 have c1:=Gh a i
 have c2:=Gh b i
 have m1:=aK3 (a / 1000000000^i) (show 0<1000000000 by decide)
 have m2:=aK3 (b / 1000000000^i) (show 0<1000000000 by decide)
 have hd':a / 1000000000^i+b / 1000000000^i+c≠0→aD 1000000000 (a+b)=ds++(a / 1000000000^i % 1000000000+b / 1000000000^i % 1000000000+c) % 1000000000::aD 1000000000 (a / 1000000000^(i+1)+b / 1000000000^(i+1)+(a / 1000000000^i % 1000000000+b / 1000000000^i % 1000000000+c) / 1000000000):=fun h=>by
  rw[hd,abY (by decide) h,vP,vP]
 generalize a / 1000000000^i=A at *
 generalize b / 1000000000^i=B at *
 by_cases Oq:A+B+c=0
 ·have h1:¬(i:Int)<((aD 1000000000 a).length:Int):=by omega
  have h2:¬(i:Int)<((aD 1000000000 b).length:Int):=by omega
  have h3:¬(0:Int)<(c:Int):=by omega
  simp only[mV,g0,g1,g5,g6,g7,cQ,h1,h2,h3,VX,Nat.reduceEqDiff,Nat.reduceAdd]
  rw[Oq,cE,aLJ] at hd
  rw[cC,hd]
  exact UR (fun _=>rfl) rfl
 ·have hdn:=hd' Oq
  have bI:i<(aD 1000000000 (a+b)).length:=by
   rw[hdn,aKM,aKL]
   omega
  have w1:IntKind.i64.wrap (((A % 1000000000:Nat):Int)+((B % 1000000000:Nat):Int))=((A % 1000000000+B % 1000000000:Nat):Int):=wrapN _ (by omega) (by omega)
  have w2:IntKind.i64.wrap (((A % 1000000000+B % 1000000000:Nat):Int)+(c:Int))=((A % 1000000000+B % 1000000000+c:Nat):Int):=wrapN _ (by omega) (by omega)
  have wi:IntKind.i64.wrap ((i:Int)+1)=((i+1:Nat):Int):=wrapN (i+1) (by omega) (by omega)
  have r1:=Rj (A % 1000000000+B % 1000000000+c)
  have q1:=Rs (A % 1000000000+B % 1000000000+c) (by omega)
  have a1:=apS (ds:=ds) (d:=(A % 1000000000+B % 1000000000+c) % 1000000000) (by omega)
  have awL:aD 1000000000 (a+b)=(ds++[(A % 1000000000+B % 1000000000+c) % 1000000000])++aD 1000000000 (a / 1000000000^(i+1)+b / 1000000000^(i+1)+(A % 1000000000+B % 1000000000+c) / 1000000000):=by rw[hdn,aMn];rfl
  by_cases h1:(i:Int)<((aD 1000000000 a).length:Int)
  ·simp only[mV,g0,g1,g5,g6,g7,cQ,h1,c1,c2,w1,w2,wi,r1,q1,wB,zT,a1,VX,Nat.reduceEqDiff,Nat.reduceAdd]
   refine⟨(i+1,ds++[(A % 1000000000+B % 1000000000+c) % 1000000000],(A % 1000000000+B % 1000000000+c) / 1000000000),by simp only;omega,by simp;omega,by simp,by simp only;omega,awL,?_⟩
   simp only[aKM,aMQ]
   try (repeat' apply aMh)<;>first | rfl | trivial
  ·by_cases h2:(i:Int)<((aD 1000000000 b).length:Int)
   ·simp only[mV,g0,g1,g5,g6,g7,cQ,h1,h2,c1,c2,w1,w2,wi,r1,q1,wB,zT,a1,VX,Nat.reduceEqDiff,Nat.reduceAdd]
    refine⟨(i+1,ds++[(A % 1000000000+B % 1000000000+c) % 1000000000],(A % 1000000000+B % 1000000000+c) / 1000000000),by simp only;omega,by simp;omega,by simp,by simp only;omega,awL,?_⟩
    simp only[aKM,aMQ]
    try (repeat' apply aMh)<;>first | rfl | trivial
   ·have h3:(0:Int)<(c:Int):=by omega
    simp only[mV,g0,g1,g5,g6,g7,cQ,h1,h2,h3,c1,c2,w1,w2,wi,r1,q1,wB,zT,a1,VX,Nat.reduceEqDiff,Nat.reduceAdd]
    refine⟨(i+1,ds++[(A % 1000000000+B % 1000000000+c) % 1000000000],(A % 1000000000+B % 1000000000+c) / 1000000000),by simp only;omega,by simp;omega,by simp,by simp only;omega,awL,?_⟩
    simp only[aKM,aMQ]
    try (repeat' apply aMh)<;>first | rfl | trivial
end Go.PM
namespace Go.PM
theorem lE {es:List VV} {g e:Nat} {w:Bool}:aG [.row g es e w] 0 g=some (es,e,w):=aT
theorem Vh {x y:Nat} {ρ:cW} {Q:VQ} (hx:(aD 4294967296 x).length≤17592186044416) (hl:(aD 4294967296 y).length≤(aD 4294967296 x).length) (h0:ρ 0=bR x) (h1:ρ 1=bR y) (h5:ρ 5 = .ref 0 0 0 ((aD 4294967296 x).length+1) ((aD 4294967296 x).length+1)) (h6:ρ 6=VK .u64 0) (h20:ρ 20=VI (aD 4294967296 x).length) (h21:ρ 21=VI 0)
  (hQ:∀(aQ:cW) (outs:List Nat) (c:Nat),aQ 0=bR x→aQ 5 = .ref 0 0 0 ((aD 4294967296 x).length+1) ((aD 4294967296 x).length+1)→aQ 6=VK .u64 (c:Nat)→outs.length=(aD 4294967296 x).length+1→(∀d∈outs,d<4294967296)→c≤1→x+y=val 4294967296 (outs.take (aD 4294967296 x).length)+4294967296^(aD 4294967296 x).length*c→Q (.exit 0) aQ [.row 0 (outs.map uV) 1 true]) :
  VW ⟨true,false⟩ 0 (.loop mT) Q ρ [.row 0 ((aLr ((aD 4294967296 x).length+1) 0).map uV) 1 true]:=by
 unfold bR at h0 h1 hQ
 have vx:=cN (b:=4294967296) (by decide) x
 have vy:=cN (b:=4294967296) (by decide) y
 have lx:=gK (b:=4294967296) (by decide) x
 have ly:=gK (b:=4294967296) (by decide) y
 generalize aD 4294967296 x=xs at *
 generalize aD 4294967296 y=ys at *
 refine aP (fun(s:Nat×List Nat×Nat) ρ H=>s.1≤xs.length∧H=[.row 0 (s.2.1.map uV) 1 true]∧s.2.1.length=xs.length+1∧(∀d∈s.2.1,d<4294967296)∧s.2.2≤1∧val 4294967296 (xs.take s.1)+val 4294967296 (ys.take s.1)=val 4294967296 (s.2.1.take s.1)+4294967296^s.1*s.2.2 ∧
  ρ 0=Dd xs∧ρ 1=Dd ys∧ρ 5 = .ref 0 0 0 (xs.length+1) (xs.length+1)∧ρ 6=VK .u64 s.2.2∧ρ 20=VI xs.length∧ρ 21=VI s.1) (fun s=>xs.length-s.1) (0,aLr (xs.length+1) 0,0) ?_ ?_
 ·exact⟨aK5 _,rfl,by simp,Cw (by decide) _,by simp,by simp[val],h0,h1,h5,h6,h20,h21⟩
 ·rintro⟨i,outs,c⟩ ρ H ⟨hi,rfl,iB,nK,hc,hv,g0,g1,g5,g6,g20,g21⟩
  simp only at hi iB nK hc hv g6 g21
  by_cases bZ:(i:Int)<(xs.length:Int)
  ·obtain⟨a,ha⟩:∃a,xs[i]? = some a:=⟨_,aKI (by omega)⟩
   have la:=lx a (aLv ha)
   have e1:=aI (f:=uV) (t := .op) (H:=[.row 0 (outs.map uV) 1 true]) (size:=1) (k := .i64) ha rfl
   have w1:IntKind.u64.wrap (a:Int)=(a:Int):=eZ _ (by omega)
   have w2:IntKind.u64.wrap ((c:Int)+(a:Int))=((c+a:Nat):Int):=by rw[←aMM];exact eZ _ (by omega)
   have wi:IntKind.i64.wrap ((i:Int)+1)=((i+1:Nat):Int):=wrapN (i+1) (by omega) (by omega)
   have e3:=bB (H:=[.row 0 (outs.map uV) 1 true]) (b:=0) (g:=0) (o:=0) (n:=xs.length+1) (c:=xs.length+1) (i:=i) (k := .i64) lE (by omega)
   have e4:∀s:Nat,bL 0 1 (.ptr 0 0 i 0) (uV s) [.row 0 (outs.map uV) 1 true]=some [.row 0 ((outs.set i s).map uV) 1 true]:=fun s=>by
    rw[dQ (f:=uV) (e:=1) lE (by omega) (aKB _) rfl rfl]
    rfl
   have step:∀b,b<4294967296→(∀d,ys[i]? = some d→d=b)→(ys.length≤i→b=0) →
     (i+1≤xs.length∧(outs.set i ((c+a+b) % 4294967296)).length=xs.length+1∧(∀d∈outs.set i ((c+a+b) % 4294967296),d<4294967296)∧(c+a+b) / 4294967296≤1∧val 4294967296 (xs.take (i+1))+val 4294967296 (ys.take (i+1))=val 4294967296 ((outs.set i ((c+a+b) % 4294967296)).take (i+1))+4294967296^(i+1)*((c+a+b) / 4294967296)):=by
    intro b hb h1 h2
    refine⟨by omega,by rw[aMz];exact iB,nW nK (aK3 _ (by decide)),by omega,?_⟩
    have hy:val 4294967296 (ys.take (i+1))=val 4294967296 (ys.take i)+4294967296^i*b:=by
     cases XN:ys[i]? with
     | some d=>rw[bE XN,h1 d XN]
     |
      none =>
      have hle:=aMS.1 XN
      rw[h2 hle,lF hle,lF (by omega),aMH,aMI]
    rw[bE ha,hy,fH (by omega),aL2]
    exact IT hv rfl (aMK _ _)
   by_cases bI:(i:Int)<(ys.length:Int)
   ·obtain⟨b,hb⟩:∃b,ys[i]? = some b:=⟨_,aKI (by omega)⟩
    have lb:=ly b (aLv hb)
    have e2:=aI (f:=uV) (t := .op) (H:=[.row 0 (outs.map uV) 1 true]) (size:=1) (k := .i64) hb rfl
    have w3:IntKind.u64.wrap (b:Int)=(b:Int):=eZ _ (by omega)
    have w4:IntKind.u64.wrap (((c+a:Nat):Int)+(b:Int))=((c+a+b:Nat):Int):=by rw[←aMM];exact eZ _ (by omega)
    obtain⟨s1,s2,s3,s4,s5⟩:=step b lb (fun d hd=>by rw[hb] at hd;injection hd with hd;exact hd.symm) (fun h=>by omega)
    simp only[mT,g0,g1,g5,g6,g20,g21,bZ,bI,e1,e2,e3,e4,w1,w2,w3,w4,wi,wrap32,qO,VX,Nat.reduceEqDiff,Nat.reduceAdd]
    exact⟨(i+1,outs.set i ((c+a+b) % 4294967296),(c+a+b) / 4294967296),by simp only;omega,s1,rfl,s2,s3,s4,s5,by (repeat' apply aMh)<;>first | rfl | trivial⟩
   ·obtain⟨s1,s2,s3,s4,s5⟩:=step 0 (by decide) (fun d hd=>by have:=(aKA.1 hd).1;omega) (fun _=>rfl)
    simp only[aMI] at s2 s3 s4 s5
    simp only[mT,g0,g1,g5,g6,g20,g21,bZ,bI,e1,e3,e4,w1,w2,wi,wrap32,qO,VX,Nat.reduceEqDiff,Nat.reduceAdd]
    exact⟨(i+1,outs.set i ((c+a) % 4294967296),(c+a) / 4294967296),by simp only;omega,s1,rfl,s2,s3,s4,s5,by (repeat' apply aMh)<;>first | rfl | trivial⟩
  ·have mC:i=xs.length:=by omega
   subst mC
   simp only[mT,g0,g1,g5,g6,g20,g21,bZ,VX,Nat.reduceEqDiff,Nat.reduceAdd]
   refine hQ _ outs c g0 g5 g6 iB nK hc ?_
   rw[aLO,aLu (l:=ys) hl,vx,vy] at hv
   exact hv
theorem Gb (a b:Nat) (ha:(aD 4294967296 a).length≤17592186044416) (hb:(aD 4294967296 b).length≤17592186044416):TC 145 [bR a,bR b] (bR (a+b)):=by
 refine TC.walk ⟨true,false⟩ LR rfl (aMp rfl) (by simp[aO,bW]) (tX _) ?_
 have mk:∀n:Nat,n≤17592186044416→BA [.int .u32 0] 4 (VI ((n+1:Nat):Int)) (VI ((n+1:Nat):Int)) []=some (.ref 0 0 0 (n+1) (n+1),[.row 0 ((aLr (n+1) 0).map uV) 1 true]):=fun n hn=>nY (f:=uV) (x:=0) rfl (by omega) (by omega)
 have fin:∀(x y:Nat) (outs:List Nat) (c:Nat),(aD 4294967296 x).length≤17592186044416→x+y=a+b→outs.length=(aD 4294967296 x).length+1→(∀d∈outs,d<4294967296)→c≤1→x+y=val 4294967296 (outs.take (aD 4294967296 x).length)+4294967296^(aD 4294967296 x).length*c →
   bK 1 (.ref 0 0 0 ((aD 4294967296 x).length+1) ((aD 4294967296 x).length+1)) (VI ((aD 4294967296 x).length:Nat)) [.row 0 (outs.map uV) 1 true]=some (.ptr 0 0 (0+(aD 4294967296 x).length) 0) ∧
   bL 0 1 (.ptr 0 0 (aD 4294967296 x).length 0) (uV (c % 4294967296)) [.row 0 (outs.map uV) 1 true]=some [.row 0 ((outs.set (aD 4294967296 x).length (c % 4294967296)).map uV) 1 true] ∧
   ∀lo K,(∀k,k≤(aD 4294967296 x).length+1→(outs.set (aD 4294967296 x).length (c % 4294967296)).take k=aD 4294967296 (a+b)→K (.ref 0 0 0 k ((aD 4294967296 x).length+1)) [.row 0 ((outs.set (aD 4294967296 x).length (c % 4294967296)).map uV) 1 true]) →
    dI 182 [.ref 0 0 0 ((aD 4294967296 x).length+1) ((aD 4294967296 x).length+1)] lo [.row 0 ((outs.set (aD 4294967296 x).length (c % 4294967296)).map uV) 1 true] K:=by
  intro x y outs c hx CT iB nK hc hv
  have Lb:=nW (i:=(aD 4294967296 x).length) nK (show c % 4294967296<4294967296 from aK3 _ (by decide))
  have Hh:val 4294967296 (outs.set (aD 4294967296 x).length (c % 4294967296))=a+b:=by
   have h1:=fH (b:=4294967296) (xs:=outs) (i:=(aD 4294967296 x).length) (d:=c % 4294967296) (by omega)
   rw[aLu (by rw[aMz];omega)] at h1
   rw[h1,aL5 (Nat.lt_of_le_of_lt hc (by decide)),←hv,CT]
  refine⟨bB lE (by omega),?_,?_⟩
  ·rw[dQ (f:=uV) (e:=1) lE (by omega) (aKB _) rfl rfl]
   rfl
  ·intro lo K hk
   have awM:(outs.set (aD 4294967296 x).length (c % 4294967296)).length=(aD 4294967296 x).length+1:=by rw[aMz];exact iB
   exact vH lE (by omega) (aKB _) (by omega) (fun d hd=>Lb d (aLy hd)) (by rw[aLu (by omega)];exact Hh) hk
 by_cases hsw:(((aD 4294967296 a).length:Nat):Int)<(((aD 4294967296 b).length:Nat):Int)
 ·have w1:IntKind.i64.wrap (((aD 4294967296 b).length:Int)+1)=(((aD 4294967296 b).length+1:Nat):Int):=wrapN _ (by omega) (by omega)
  simp only[By,yM,bR,hsw,w1,mk _ hb,VX,Nat.reduceEqDiff,Nat.reduceAdd]
  refine Vh (x:=b) (y:=a) hb (by omega) rfl rfl rfl rfl rfl rfl ?_
  intro aQ outs c g0 g5 g6 iB nK hc hv
  obtain⟨e1,e2,e3⟩:=fin b a outs c hb (by omega) iB nK hc hv
  simp only[g0,g5,g6,bR,wrap32,e1,e2,VX,Nat.reduceEqDiff,Nat.reduceAdd]
  refine e3 _ _ fun k hk he => ?_
  simp only[VX,Nat.reduceEqDiff,Nat.reduceAdd]
  exact TB lE (by rw[aMz];omega) hk he
 ·have w1:IntKind.i64.wrap (((aD 4294967296 a).length:Int)+1)=(((aD 4294967296 a).length+1:Nat):Int):=wrapN _ (by omega) (by omega)
  simp only[By,yM,bR,hsw,w1,mk _ ha,VX,Nat.reduceEqDiff,Nat.reduceAdd]
  refine Vh (x:=a) (y:=b) ha (by omega) rfl rfl rfl rfl rfl rfl ?_
  intro aQ outs c g0 g5 g6 iB nK hc hv
  obtain⟨e1,e2,e3⟩:=fin a b outs c ha rfl iB nK hc hv
  simp only[g0,g5,g6,bR,wrap32,e1,e2,VX,Nat.reduceEqDiff,Nat.reduceAdd]
  refine e3 _ _ fun k hk he => ?_
  simp only[VX,Nat.reduceEqDiff,Nat.reduceAdd]
  exact TB lE (by rw[aMz];omega) hk he
end Go.PM
namespace Go.PM
theorem O5 {x:Int} {r:Nat} (h:x+4294967296=r) (hx:x<0) (hr:0≤x+4294967296):IntKind.u32.wrap x=(r:Int):=by rw[IntKind.wrap_u32];omega
theorem YX (n:Nat) (hn:n≤70368744177664):BA [.int .u32 0] 4 (VI (n:Int)) (VI (n:Int)) []=some (.ref 0 0 0 n n,[.row 0 ((aLr n 0).map uV) 1 true]):=nY (f:=uV) (x:=0) rfl (by omega) (by omega)
theorem SE {outs:List Nat} {i d:Nat} (hi:i<outs.length):bL 0 1 (.ptr 0 0 i 0) (uV d) [.row 0 (outs.map uV) 1 true]=some [.row 0 ((outs.set i d).map uV) 1 true]:=by
 rw[dQ (f:=uV) (e:=1) lE hi (aKB _) rfl rfl]
 rfl
theorem Gt (a b:Nat) (I0:b≤a) (ha:(aD 4294967296 a).length≤17592186044416):TC 146 [bR a,bR b] (bR (a-b)):=by
 refine TC.walk ⟨true,false⟩ KC rfl (aMp rfl) (by simp[aO,bW]) (tX _) ?_
 have va:=cN (b:=4294967296) (by decide) a
 have vb:=cN (b:=4294967296) (by decide) b
 have la:=gK (b:=4294967296) (by decide) a
 have lb:=gK (b:=4294967296) (by decide) b
 have hle:=fB (b:=4294967296) (by decide) I0
 unfold bR
 generalize aD 4294967296 a=xs at *
 generalize aD 4294967296 b=ys at *
 simp only[FR,Dg,YX xs.length (by omega),VX,Nat.reduceEqDiff,Nat.reduceAdd]
 refine aP (fun(s:Nat×List Nat×Nat) ρ H=>s.1≤xs.length∧H=[.row 0 (s.2.1.map uV) 1 true]∧s.2.1.length=xs.length∧(∀d∈s.2.1,d<4294967296)∧s.2.2≤1∧val 4294967296 (xs.take s.1)+4294967296^s.1*s.2.2=val 4294967296 (s.2.1.take s.1)+val 4294967296 (ys.take s.1) ∧
  ρ 0=Dd xs∧ρ 1=Dd ys∧ρ 5 = .ref 0 0 0 xs.length xs.length∧ρ 6=VI s.2.2∧ρ 13=VI xs.length∧ρ 14=VI s.1) (fun s=>xs.length-s.1) (0,aLr xs.length 0,0) ⟨aK5 _,rfl,by simp,Cw (by decide) _,by simp,by simp[val],rfl,rfl,rfl,rfl,rfl,rfl⟩ ?_
 rintro⟨i,outs,l⟩ ρ H ⟨hi,rfl,iB,nK,hc,hv,g0,g1,g5,g6,g13,g14⟩
 simp only at hi iB nK hc hv g6 g14
 by_cases bZ:(i:Int)<(xs.length:Int)
 ·obtain⟨x,hx⟩:∃x,xs[i]? = some x:=⟨_,aKI (by omega)⟩
  have lx:=la x (aLv hx)
  have e1:=aI (f:=uV) (t := .op) (H:=[.row 0 (outs.map uV) 1 true]) (size:=1) (k := .i64) hx rfl
  have w1:IntKind.i64.wrap (x:Int)=(x:Int):=wrapN x rfl (by omega)
  have w2:IntKind.i64.wrap ((x:Int)-(l:Int))=(x:Int)-(l:Int):=wrap64 (by omega) (by omega)
  have wi:IntKind.i64.wrap ((i:Int)+1)=((i+1:Nat):Int):=wrapN (i+1) (by omega) (by omega)
  have e3:bK 1 (.ref 0 0 0 xs.length xs.length) (VI i) [.row 0 (outs.map uV) 1 true]=some (.ptr 0 0 i 0):=by rw[bB lE (by omega),aL9]
  have e4:∀s:Nat,bL 0 1 (.ptr 0 0 i 0) (uV s) [.row 0 (outs.map uV) 1 true]=some [.row 0 ((outs.set i s).map uV) 1 true]:=fun s=>SE (by omega)
  have step:∀y r l':Nat,y<4294967296→r<4294967296→l'≤1→(∀d,ys[i]? = some d→d=y)→(ys.length≤i→y=0)→r+y+l=x+4294967296*l' →
    i+1≤xs.length∧(outs.set i r).length=xs.length∧(∀d∈outs.set i r,d<4294967296)∧l'≤1∧val 4294967296 (xs.take (i+1))+4294967296^(i+1)*l'=val 4294967296 ((outs.set i r).take (i+1))+val 4294967296 (ys.take (i+1)):=by
   intro y r l' _ hr Fo h1 h2 hd
   refine⟨by omega,by rw[aMz];exact iB,nW nK hr,Fo,?_⟩
   have hy:val 4294967296 (ys.take (i+1))=val 4294967296 (ys.take i)+4294967296^i*y:=by
    cases XN:ys[i]? with
    | some d=>rw[bE XN,h1 d XN]
    |
     none =>
     have hle:=aMS.1 XN
     rw[h2 hle,lF hle,lF (by omega),aMH,aMI]
   rw[bE hx,hy,fH (by omega),aL2]
   exact Mw hv hd
  by_cases bI:(i:Int)<(ys.length:Int)
  ·obtain⟨y,hy⟩:∃y,ys[i]? = some y:=⟨_,aKI (by omega)⟩
   have ly:=lb y (aLv hy)
   have e2:=aI (f:=uV) (t := .op) (H:=[.row 0 (outs.map uV) 1 true]) (size:=1) (k := .i64) hy rfl
   have w3:IntKind.i64.wrap (y:Int)=(y:Int):=wrapN y rfl (by omega)
   have w4:IntKind.i64.wrap ((x:Int)-(l:Int)-(y:Int))=(x:Int)-(l:Int)-(y:Int):=wrap64 (by omega) (by omega)
   by_cases mI:(x:Int)-(l:Int)-(y:Int)<0
   ·obtain⟨r,hr⟩:∃r:Nat,r+y+l=x+4294967296:=⟨x+4294967296-l-y,by omega⟩
    have w5:IntKind.u32.wrap ((x:Int)-(l:Int)-(y:Int))=(r:Int):=O5 (by omega) mI (by omega)
    obtain⟨s1,s2,s3,s4,s5⟩:=step y r 1 ly (by omega) (aKB _) (fun d hd=>by rw[hy] at hd;injection hd with hd;exact hd.symm) (fun h=>by omega) (by omega)
    simp only[kC,g0,g1,g5,g6,g13,g14,bZ,bI,mI,e1,e2,e3,e4,w1,w2,w3,w4,w5,wi,VX,Nat.reduceEqDiff,Nat.reduceAdd]
    exact⟨(i+1,outs.set i r,1),by simp only;omega,s1,rfl,s2,s3,s4,s5,by (repeat' apply aMh)<;>first | rfl | trivial⟩
   ·obtain⟨r,hr⟩:∃r:Nat,r+y+l=x:=⟨x-l-y,by omega⟩
    have w5:IntKind.u32.wrap ((x:Int)-(l:Int)-(y:Int))=(r:Int):=by rw[IntKind.wrap_u32];omega
    obtain⟨s1,s2,s3,s4,s5⟩:=step y r 0 ly (by omega) (by omega) (fun d hd=>by rw[hy] at hd;injection hd with hd;exact hd.symm) (fun h=>by omega) (by omega)
    simp only[kC,g0,g1,g5,g6,g13,g14,bZ,bI,mI,e1,e2,e3,e4,w1,w2,w3,w4,w5,wi,VX,Nat.reduceEqDiff,Nat.reduceAdd]
    exact⟨(i+1,outs.set i r,0),by simp only;omega,s1,rfl,s2,s3,s4,s5,by (repeat' apply aMh)<;>first | rfl | trivial⟩
  ·by_cases mI:(x:Int)-(l:Int)<0
   ·obtain⟨r,hr⟩:∃r:Nat,r+l=x+4294967296:=⟨x+4294967296-l,by omega⟩
    have w5:IntKind.u32.wrap ((x:Int)-(l:Int))=(r:Int):=O5 (by omega) mI (by omega)
    obtain⟨s1,s2,s3,s4,s5⟩:=step 0 r 1 (by decide) (by omega) (aKB _) (fun d hd=>by have:=(aKA.1 hd).1;omega) (fun _=>rfl) (by omega)
    simp only[kC,g0,g1,g5,g6,g13,g14,bZ,bI,mI,e1,e3,e4,w1,w2,w5,wi,VX,Nat.reduceEqDiff,Nat.reduceAdd]
    exact⟨(i+1,outs.set i r,1),by simp only;omega,s1,rfl,s2,s3,s4,s5,by (repeat' apply aMh)<;>first | rfl | trivial⟩
   ·obtain⟨r,hr⟩:∃r:Nat,r+l=x:=⟨x-l,by omega⟩
    have w5:IntKind.u32.wrap ((x:Int)-(l:Int))=(r:Int):=by rw[IntKind.wrap_u32];omega
    obtain⟨s1,s2,s3,s4,s5⟩:=step 0 r 0 (by decide) (by omega) (by omega) (fun d hd=>by have:=(aKA.1 hd).1;omega) (fun _=>rfl) (by omega)
    simp only[kC,g0,g1,g5,g6,g13,g14,bZ,bI,mI,e1,e3,e4,w1,w2,w5,wi,VX,Nat.reduceEqDiff,Nat.reduceAdd]
    exact⟨(i+1,outs.set i r,0),by simp only;omega,s1,rfl,s2,s3,s4,s5,by (repeat' apply aMh)<;>first | rfl | trivial⟩
 ·have mC:i=xs.length:=by omega
  subst mC
  rw[aLO,aLu (l:=ys) hle,aLu (l:=outs) (by omega),va,vb] at hv
  have dS:=sF nK
  rw[iB] at dS
  have Hh:val 4294967296 outs=a-b:=by
   rcases aKE l 1 with h | h
   ·have:l=0:=by omega
    subst this
    rw[aMH] at hv
    omega
   ·have:l=1:=by omega
    subst this
    rw[Nat.mul_one] at hv
    omega
  simp only[kC,g0,g1,g5,g6,g13,g14,bZ,VX,Nat.reduceEqDiff,Nat.reduceAdd]
  refine vH (m:=a-b) lE (by omega) (aKB _) (by omega) (fun d hd=>nK d (aLy hd)) (by rw[aLu (by omega)];exact Hh) fun k hk he => ?_
  simp only[VX,Nat.reduceEqDiff,Nat.reduceAdd]
  exact TB lE (by omega) hk he
theorem Vg {P Q A B Y x c r q o y W:Nat} (Qr:A+P*Q*c=B+P*(x*Y)) (h1:r+W*q=c+(x*y+o)):A+P*Q*r+P*Q*W*q=B+P*Q*o+P*(x*(Y+Q*y)):=by
 have h2:P*Q*(r+W*q)=P*Q*(c+(x*y+o)):=by rw[h1]
 grind
theorem jS (a b:Nat) (ha:(aD 4294967296 a).length≤17592186044416) (hb:(aD 4294967296 b).length≤17592186044416):TC 143 [bR a,bR b] (bR (a*b)):=by
 refine TC.walk ⟨true,false⟩ K7 rfl (aMp rfl) (by simp[aO,bW]) (tX _) ?_
 have va:=cN (b:=4294967296) (by decide) a
 have vb:=cN (b:=4294967296) (by decide) b
 have la:=gK (b:=4294967296) (by decide) a
 have lb:=gK (b:=4294967296) (by decide) b
 unfold bR
 generalize aD 4294967296 a=xs at *
 generalize aD 4294967296 b=ys at *
 have w0:IntKind.i64.wrap ((xs.length:Int)+(ys.length:Int))=((xs.length+ys.length:Nat):Int):=wrapN _ (by omega) (by omega)
 simp only[Gn,C5,w0,YX (xs.length+ys.length) (by omega),VX,Nat.reduceEqDiff,Nat.reduceAdd]
 generalize hN:xs.length+ys.length=N at *
 refine aP (fun(s:Nat×List Nat) ρ H=>s.1≤xs.length∧H=[.row 0 (s.2.map uV) 1 true]∧s.2.length=N∧(∀d∈s.2,d<4294967296)∧val 4294967296 (s.2.take (s.1+ys.length))=val 4294967296 (xs.take s.1)*b ∧
  ρ 0=Dd xs∧ρ 1=Dd ys∧ρ 5 = .ref 0 0 0 N N∧ρ 17=Dd xs∧ρ 18=VI xs.length∧ρ 19=VI s.1) (fun s=>xs.length-s.1) (0,aLr N 0) ⟨aK5 _,rfl,by simp,Cw (by decide) _,by simp[val,aMT,vA],rfl,rfl,rfl,rfl,rfl,rfl⟩ ?_
 rintro⟨i,outs⟩ ρ H ⟨hi,rfl,iB,nK,hv,g0,g1,g5,g17,g18,g19⟩
 simp only at hi iB nK hv g19
 by_cases bZ:(i:Int)<(xs.length:Int)
 ·obtain⟨x,hx⟩:∃x,xs[i]? = some x:=⟨_,aKI (by omega)⟩
  have lx:=la x (aLv hx)
  have e1:=aI (f:=uV) (t := .op) (H:=[.row 0 (outs.map uV) 1 true]) (size:=1) (k := .i64) hx rfl
  simp only[wV,g0,g1,g5,g17,g18,g19,bZ,e1,VX,Nat.reduceEqDiff,Nat.reduceAdd]
  refine aP (fun(s:Nat×List Nat×Nat) ρ H=>s.1≤ys.length∧H=[.row 0 (s.2.1.map uV) 1 true]∧s.2.1.length=N∧(∀d∈s.2.1,d<4294967296)∧s.2.2<4294967296 ∧
   val 4294967296 (s.2.1.take (i+s.1))+4294967296^(i+s.1)*s.2.2=val 4294967296 (outs.take (i+s.1))+4294967296^i*(x*val 4294967296 (ys.take s.1))∧(∀j,i+s.1≤j→s.2.1[j]? = outs[j]?) ∧
   ρ 0=Dd xs∧ρ 1=Dd ys∧ρ 5 = .ref 0 0 0 N N∧ρ 6=VI i∧ρ 7=uV x∧ρ 8=VK .u64 s.2.2∧ρ 17=Dd xs∧ρ 18=VI xs.length∧ρ 19=VI i∧ρ 24=Dd ys∧ρ 25=VI ys.length∧ρ 26=VI s.1) (fun s=>ys.length-s.1) (0,outs,0) ⟨aK5 _,rfl,iB,nK,by simp,by simp[val],fun _ _=>rfl,by (repeat' apply aMh)<;>first | rfl | trivial⟩ ?_
  rintro⟨k,os,c⟩ tG H ⟨hk,rfl,Tv,Tk,hc,Qr,I1,k0,k1,k5,k6,k7,k8,Il,W9,k19,k24,k25,k26⟩
  simp only at hk Tv Tk hc Qr I1 k8 k26
  have wi:IntKind.i64.wrap ((i:Int)+1)=((i+1:Nat):Int):=wrapN (i+1) (by omega) (by omega)
  by_cases T2:(k:Int)<(ys.length:Int)
  ·obtain⟨y,hy⟩:∃y,ys[k]? = some y:=⟨_,aKI (by omega)⟩
   have ly:=lb y (aLv hy)
   obtain⟨o,ho⟩:∃o,os[i+k]? = some o:=⟨_,aKI (by omega)⟩
   have lo:=Tk o (aLv ho)
   have ho':outs[i+k]? = some o:=by rw[←I1 (i+k) (aKB _)];exact ho
   have f1:=aI (f:=uV) (t := .op) (H:=[.row 0 (os.map uV) 1 true]) (size:=1) (k := .i64) hy rfl
   have w1:IntKind.i64.wrap ((i:Int)+(k:Int))=((i+k:Nat):Int):=wrapN _ (by omega) (by omega)
   have f2:bK 1 (.ref 0 0 0 N N) (VI ((i+k:Nat):Int)) [.row 0 (os.map uV) 1 true]=some (.ptr 0 0 (i+k) 0):=by rw[bB lE (by omega),aL9]
   have f3:bH false 1 (.ptr 0 0 (i+k) 0) [.row 0 (os.map uV) 1 true]=some (uV o):=kG lE ho
   have f4:∀s:Nat,bL 0 1 (.ptr 0 0 (i+k) 0) (uV s) [.row 0 (os.map uV) 1 true]=some [.row 0 ((os.set (i+k) s).map uV) 1 true]:=fun s=>SE (by omega)
   have CT:x*y≤4294967295*4294967295:=aMU (by omega) (by omega)
   have w2:IntKind.u64.wrap (x:Int)=(x:Int):=eZ _ (by omega)
   have w3:IntKind.u64.wrap (y:Int)=(y:Int):=eZ _ (by omega)
   have w4:IntKind.u64.wrap (o:Int)=(o:Int):=eZ _ (by omega)
   have w5:IntKind.u64.wrap ((x:Int)*(y:Int))=((x*y:Nat):Int):=by rw[←Int.natCast_mul];exact eZ _ (by omega)
   have w6:IntKind.u64.wrap (((x*y:Nat):Int)+(o:Int))=((x*y+o:Nat):Int):=by rw[←aMM];exact eZ _ (by omega)
   have w7:IntKind.u64.wrap ((c:Int)+((x*y+o:Nat):Int))=((c+(x*y+o):Nat):Int):=by rw[←aMM];exact eZ _ (by omega)
   have wk:IntKind.i64.wrap ((k:Int)+1)=((k+1:Nat):Int):=wrapN (k+1) (by omega) (by omega)
   simp only[vR,k0,k1,k5,k6,k7,k8,Il,W9,k19,k24,k25,k26,T2,f1,f2,f3,f4,w1,w2,w3,w4,w5,w6,w7,wk,wrap32,qO,VX,Nat.reduceEqDiff,Nat.reduceAdd]
   have hq:(c+(x*y+o)) / 4294967296<4294967296:=aMV (by omega)
   refine⟨(k+1,os.set (i+k) ((c+(x*y+o)) % 4294967296),(c+(x*y+o)) / 4294967296),by simp only;omega,by omega,rfl,by rw[aMz];exact Tv,nW Tk (aK3 _ (by decide)),hq,?_,fun j hj => ?_,by (repeat' apply aMh)<;>first | rfl | trivial⟩
   ·have h1:=aMK (c+(x*y+o)) 4294967296
    rw[←Nat.add_assoc,fH (by omega),bE ho',bE hy,aL2]
    rw[aMP] at Qr ⊢
    exact Vg Qr h1
   ·rw[aK0 (by omega)]
    exact I1 j (by omega)
  ·have hke:k=ys.length:=by omega
   subst hke
   rw[aLO,vb,hv] at Qr
   have w1:IntKind.i64.wrap ((i:Int)+(ys.length:Int))=((i+ys.length:Nat):Int):=wrapN _ (by omega) (by omega)
   have f2:bK 1 (.ref 0 0 0 N N) (VI ((i+ys.length:Nat):Int)) [.row 0 (os.map uV) 1 true]=some (.ptr 0 0 (i+ys.length) 0):=by rw[bB lE (by omega),aL9]
   have f4:∀s:Nat,bL 0 1 (.ptr 0 0 (i+ys.length) 0) (uV s) [.row 0 (os.map uV) 1 true]=some [.row 0 ((os.set (i+ys.length) s).map uV) 1 true]:=fun s=>SE (by omega)
   simp only[vR,k0,k1,k5,k6,k7,k8,Il,W9,k19,k24,k25,k26,T2,f2,f4,w1,wi,wrap32,VX,Nat.reduceEqDiff,Nat.reduceAdd]
   refine⟨(i+1,os.set (i+ys.length) (c % 4294967296)),by simp only;omega,by omega,rfl,by rw[aMz];exact Tv,nW Tk (aK3 _ (by decide)),?_,by (repeat' apply aMh)<;>first | rfl | trivial⟩
   rw[show i+1+ys.length=i+ys.length+1 by omega,fH (by omega),aL5 hc,Qr,bE hx,aK6,aMR]
 ·have mC:i=xs.length:=by omega
  subst mC
  rw[hN,aLO,va,aLu (by omega)] at hv
  simp only[wV,g0,g1,g5,g17,g18,g19,bZ,VX,Nat.reduceEqDiff,Nat.reduceAdd]
  refine vH (m:=a*b) lE (by omega) (aKB _) (by omega) (fun d hd=>nK d (aLy hd)) (by rw[aLu (by omega)];exact hv) fun k hk he => ?_
  simp only[VX,Nat.reduceEqDiff,Nat.reduceAdd]
  exact TB lE (by omega) hk he
end Go.PM
namespace Go.PM
theorem set_drop {xs:List Nat} {i d:Nat} (h:i<xs.length):(xs.set i d).drop i=d::xs.drop (i+1):=by
 rw[aKG (by rw[aMz];exact h),List.getElem_set_self,QQ h]
theorem ZN (n k:Nat) (hn:n≤70368744177664) {H:aA}:BA [.int .u32 0] 4 (VI (n:Int)) (VI (n:Int)) H=some (.ref H.length 0 0 n n,H++[.row 0 ((aLr n 0).map uV) 1 true]):=nY (f:=uV) (x:=0) rfl (by omega) (by omega)
theorem WN {A q t r x d W:Nat} (h1:t+d*q=r*W+x):(q+W*A)*d+t=x+W*(A*d+r):=by grind
theorem YW {A B P S W c m x q:Nat} (hv:A+P*c=B*S) (h1:m*S+W*q=x*S):A+P*(c+m*S)+P*W*q=(B+P*x)*S:=by
 have h2:P*(m*S+W*q)=P*(x*S):=by rw[h1]
 grind
theorem Av (a d:Nat) (Ft:0<d) (hdW:d<4294967296) (ha:(aD 4294967296 a).length≤17592186044416):TC 197 [bR a,uV d] (.eJ [bR (a / d),uV (a % d)]):=by
 refine TC.walk ⟨true,false⟩ Ff rfl (aMp rfl) (by simp[aO,bW,bA,qE]) (by simp[hJ,sR,tX,qE]) ?_
 have va:=cN (b:=4294967296) (by decide) a
 have la:=gK (b:=4294967296) (by decide) a
 unfold bR
 generalize aD 4294967296 a=xs at *
 have w0:IntKind.i64.wrap ((xs.length:Int)-1)=(xs.length:Int)-1:=wrap64 (by omega) (by omega)
 have wd:IntKind.u64.wrap (d:Int)=(d:Int):=eZ _ (by omega)
 simp only[Ar,xM,w0,YX xs.length (by omega),VX,Nat.reduceEqDiff,Nat.reduceAdd]
 refine aP (fun(s:Nat×List Nat×Nat) ρ H=>s.1≤xs.length∧H=[.row 0 (s.2.1.map uV) 1 true]∧s.2.1.length=xs.length∧(∀d∈s.2.1,d<4294967296)∧s.2.2<d∧val 4294967296 (s.2.1.drop s.1)*d+s.2.2=val 4294967296 (xs.drop s.1) ∧
  ρ 0=Dd xs∧ρ 1=uV d∧ρ 6 = .ref 0 0 0 xs.length xs.length∧ρ 7=VK .u64 s.2.2∧ρ 8=VI ((s.1:Int)-1)) (fun s=>s.1) (xs.length,aLr xs.length 0,0) ⟨aKB _,rfl,by simp,Cw (by decide) _,Ft,by simp[val,aMW],rfl,rfl,rfl,rfl,rfl⟩ ?_
 rintro⟨j,outs,r⟩ ρ H ⟨hj,rfl,iB,nK,hr,hv,g0,g1,g6,g7,g8⟩
 simp only at hj iB nK hr hv g7 g8
 by_cases hz:(0:Int)≤(j:Int)-1
 ·obtain⟨i,rfl⟩:∃i,j=i+1:=⟨j-1,by omega⟩
  obtain⟨x,hx⟩:∃x,xs[i]? = some x:=⟨_,aKI (by omega)⟩
  have lx:=la x (aLv hx)
  have Ed:((i+1:Nat):Int)-1=(i:Int):=by omega
  rw[Ed] at g8 hz
  have e1:=aI (f:=uV) (t := .op) (H:=[.row 0 (outs.map uV) 1 true]) (size:=1) (k := .i64) hx rfl
  have e3:bK 1 (.ref 0 0 0 xs.length xs.length) (VI i) [.row 0 (outs.map uV) 1 true]=some (.ptr 0 0 i 0):=by rw[bB lE (by omega),aL9]
  have e4:∀s:Nat,bL 0 1 (.ptr 0 0 i 0) (uV s) [.row 0 (outs.map uV) 1 true]=some [.row 0 ((outs.set i s).map uV) 1 true]:=fun s=>SE (by omega)
  have w2:IntKind.i64.wrap ((i:Int)-1)=(i:Int)-1:=wrap64 (by omega) (by omega)
  have w3:IntKind.u64.wrap (x:Int)=(x:Int):=eZ _ (by omega)
  have w4:IntKind.u64.wrap (((r*4294967296:Nat):Int)+(x:Int))=((r*4294967296+x:Nat):Int):=by rw[←aMM];exact eZ _ (by omega)
  have w5:=GN r .u64 (by omega)
  have q1:=Z1 (r*4294967296+x) d (by omega) Ft
  have q2:=SY (r*4294967296+x) d Ft
  have hq:(r*4294967296+x) / d<4294967296:=by
   rw[aMX Ft]
   have:(r+1)*4294967296≤d*4294967296:=aK2 _ hr
   rw[aL3 4294967296 d]
   omega
  simp only[pB,g0,g1,g6,g7,g8,hz,e1,e3,e4,w2,w3,w4,w5,wd,q1,q2,wrap32,aL5 hq,VX,Nat.reduceEqDiff,Nat.reduceAdd]
  refine⟨(i,outs.set i ((r*4294967296+x) / d),(r*4294967296+x) % d),by simp only;omega,by omega,rfl,by rw[aMz];exact iB,nW nK hq,aK3 _ Ft,?_,by (repeat' apply aMh)<;>first | rfl | trivial⟩
  have h1:=aMK (r*4294967296+x) d
  rw[set_drop (by omega),vQ,xA hx,←hv]
  exact WN h1
 ·have Xk:j=0:=by omega
  subst Xk
  rw[aLN,aLN,va] at hv
  have h1:a / d=val 4294967296 outs:=by
   rw[←hv,aL3,Nat.mul_add_div Ft,aL8 hr,aMI]
  have h2:a % d=r:=by
   rw[←hv,aL3,Nat.mul_add_mod,aL5 hr]
  simp only[pB,g0,g1,g6,g7,g8,hz,VX,Nat.reduceEqDiff,Nat.reduceAdd]
  refine vH (m:=a / d) lE (by omega) (aKB _) (by omega) (fun d hd=>nK d (aLy hd)) (by rw[aLu (by omega)];exact h1.symm) fun k hk he => ?_
  simp only[wrap32,aL5 (show r<4294967296 by omega),g7,VX,Nat.reduceEqDiff,Nat.reduceAdd]
  rw[h2]
  exact bO (d:=6) (NI (d:=5) lE (by omega) hk he) (aN rfl)
theorem Jw {n g e:Nat} {es:List VV} {w:Bool}:aG (aLr n fC.dead++[.row g es e w]) n g=some (es,e,w):=by rw[NN];exact aT
theorem aEM {n:Nat} (xs:List Nat):AB n (xs.map uV)=true:=by
 rw[zW]
 intro x hx
 obtain⟨y,_,rfl⟩:=List.mem_map.1 hx
 rfl
theorem Bf (a s:Nat) (hs:s≤31) (ha:(aD 4294967296 a).length≤17592186044416):FC 199 [bR a,VI s] fun n r L=>∃outs:List Nat,r = .ref n 0 0 ((aD 4294967296 a).length+1) ((aD 4294967296 a).length+1)∧L=[.row 0 (outs.map uV) 1 true]∧outs.length=(aD 4294967296 a).length+1∧(∀d∈outs,d<4294967296)∧val 4294967296 outs=a*2^s∧(∀d,outs[(aD 4294967296 a).length]? = some d→d<2^s):=by
 refine FC.walk ⟨true,false⟩ FV (aMp rfl) fun n => ?_
 have va:=cN (b:=4294967296) (by decide) a
 have la:=gK (b:=4294967296) (by decide) a
 unfold bR
 generalize aD 4294967296 a=xs at *
 have hS:0<2^s:=Nat.pow_pos (by decide)
 have hSW:2^s*2^(32-s)=4294967296:=by rw[←aMP,show s+(32-s)=32 by omega]
 have w0:IntKind.i64.wrap ((xs.length:Int)+1)=((xs.length+1:Nat):Int):=wrapN _ (by omega) (by omega)
 simp only[BQ,zL,w0,ZN (xs.length+1) n (by omega),aMq,VX,Nat.reduceEqDiff,Nat.reduceAdd]
 refine aP (fun(t:Nat×List Nat×Nat) ρ H=>t.1≤xs.length∧H=aLr n .dead++[.row 0 (t.2.1.map uV) 1 true]∧t.2.1.length=xs.length+1∧(∀d∈t.2.1,d<4294967296)∧t.2.1[t.1]? = some t.2.2∧t.2.2<2^s∧val 4294967296 (t.2.1.take t.1)+4294967296^t.1*t.2.2=val 4294967296 (xs.take t.1)*2^s ∧
  ρ 1=VI s∧ρ 5 = .ref n 0 0 (xs.length+1) (xs.length+1)∧ρ 13=Dd xs∧ρ 14=VI xs.length∧ρ 15=VI t.1) (fun t=>xs.length-t.1) (0,aLr (xs.length+1) 0,0) ⟨aK5 _,rfl,by simp,Cw (by decide) _,by simp,hS,by simp[val],rfl,rfl,rfl,rfl,rfl⟩ ?_
 rintro⟨i,outs,c⟩ ρ H ⟨hi,rfl,iB,nK,hoc,hc,hv,g1,g5,g13,g14,g15⟩
 simp only at hi iB nK hoc hc hv g15
 by_cases bZ:(i:Int)<(xs.length:Int)
 ·obtain⟨x,hx⟩:∃x,xs[i]? = some x:=⟨_,aKI (by omega)⟩
  have lx:=la x (aLv hx)
  have e1:=aI (f:=uV) (t := .op) (H:=aLr n .dead++[.row 0 (outs.map uV) 1 true]) (size:=1) (k := .i64) hx rfl
  have wx:IntKind.u64.wrap (x:Int)=(x:Int):=eZ _ (by omega)
  have wi:IntKind.i64.wrap ((i:Int)+1)=((i+1:Nat):Int):=wrapN (i+1) (by omega) (by omega)
  have w5:=ayG x s lx hs
  obtain⟨m,hm⟩:∃m,(x*2^s) % 4294967296=m*2^s:=by
   refine⟨x % 2^(32-s),?_⟩
   rw[←hSW,aL3 x,Nat.mul_mod_mul_left,aL3]
  have hhi:(x*2^s) / 4294967296<2^s:=by
   rw[aMX (by decide),aL3 (2^s)]
   exact Nat.mul_lt_mul_of_pos_right lx hS
  have bI:(x*2^s) % 4294967296<4294967296:=aK3 _ (by decide)
  have hmm:m<2^(32-s):=by
   have:m*2^s<2^(32-s)*2^s:=by rw[←hm,aL3 (2^(32-s)) (2^s),hSW];exact bI
   exact Nat.lt_of_mul_lt_mul_right this
  have X2:m*2^s+c<4294967296:=by
   have:(m+1)*2^s≤2^(32-s)*2^s:=aK2 _ hmm
   rw[aL3 (2^(32-s)),hSW,aK6] at this
   omega
  have or1:=ayR c m s hc X2
  have e3:bK 1 (.ref n 0 0 (xs.length+1) (xs.length+1)) (VI i) (aLr n .dead++[.row 0 (outs.map uV) 1 true])=some (.ptr n 0 i 0):=by rw[bB Jw (by omega),aL9]
  have e4:bH false 1 (.ptr n 0 i 0) (aLr n .dead++[.row 0 (outs.map uV) 1 true])=some (uV c):=kG Jw hoc
  have e5:∀(os:List Nat) (j t:Nat),j<os.length→bL n 1 (.ptr n 0 j 0) (uV t) (aLr n .dead++[.row 0 (os.map uV) 1 true])=some (aLr n .dead++[.row 0 ((os.set j t).map uV) 1 true]):=fun os j t hj=>by
   rw[dQ (f:=uV) (e:=1) Jw hj (aKB _) rfl rfl,aiL]
   rfl
  have e6:bK 1 (.ref n 0 0 (xs.length+1) (xs.length+1)) (VI ((i+1:Nat):Int)) (aLr n .dead++[.row 0 ((outs.set i (c+m*2^s)).map uV) 1 true])=some (.ptr n 0 (i+1) 0):=by rw[bB Jw (by omega),aL9]
  have e7:=e5 outs i (c+m*2^s) (by omega)
  have e8:=e5 (outs.set i (c+m*2^s)) (i+1) ((x*2^s) / 4294967296) (by rw[aMz];omega)
  have hq:(x*2^s) / 4294967296 % 4294967296=(x*2^s) / 4294967296:=aL5 (by
   have:2^s≤2^31:=aME (by decide) hs
   omega)
  simp only[qG,g1,g5,g13,g14,g15,bZ,e1,e3,e4,e6,e7,e8,wx,wi,w5,wrap32,qO,hm,or1,hq,VX,Nat.reduceEqDiff,Nat.reduceAdd]
  refine⟨(i+1,(outs.set i (c+m*2^s)).set (i+1) ((x*2^s) / 4294967296),(x*2^s) / 4294967296),by simp only;omega,by omega,rfl,by rw[aMz,aMz];exact iB,
   nW (nW nK (by omega)) (by
    have:2^s≤2^31:=aME (by decide) hs
    omega),by rw[List.getElem?_set_self (by rw[aMz];omega)],hhi,?_,by (repeat' apply aMh)<;>first | rfl | trivial⟩
  rw[List.take_set_of_le (aKB _),fH (by omega),bE hx,aL2]
  have h1:=aMK (x*2^s) 4294967296
  rw[hm] at h1
  exact YW hv h1
 ·have mC:i=xs.length:=by omega
  subst mC
  rw[aLO,va] at hv
  have Hh:val 4294967296 outs=a*2^s:=by
   have h1:=bE (b:=4294967296) hoc
   rw[aLu (by omega)] at h1
   rw[h1]
   exact hv
  simp only[qG,g1,g5,g13,g14,g15,bZ,VX,Nat.reduceEqDiff,Nat.reduceAdd]
  exact⟨_,rfl,by simp[jR],by simp[mZ,aEM outs],outs,rfl,iB,nK,Hh,fun d hd=>by rw[hoc] at hd;injection hd with hd;omega⟩
end Go.PM
namespace Go.PM
theorem Te (n:Nat) (hn:n≤35184372088832):BA [.int .i64 0] 8 (VI (n:Int)) (VI (n:Int)) []=some (.ref 0 0 0 n n,[.row 0 ((aLr n 0).map tV) 1 true]):=nY (f:=tV) (x:=0) rfl (by omega) (by omega)
theorem Tn {outs:List Nat} {i d:Nat} (hi:i<outs.length):bL 0 1 (.ptr 0 0 i 0) (VI (d:Int)) [.row 0 (outs.map tV) 1 true]=some [.row 0 ((outs.set i d).map tV) 1 true]:=by
 rw[show VI (d:Int)=tV d from rfl,dQ (f:=tV) (e:=1) NF hi (aKB _) rfl rfl]
 rfl
theorem N3 {b g:Nat} {rows:List Nat} {w:Bool} {H:aA} {j d:Nat} (hr:aG H b g=some (rows.map tV,1,w)) (hj:rows[j]? = some d):bH false 1 (.ptr b g j 0) H=some (VI (d:Int)):=qC hr hj
theorem adT {n i:Nat} {outs:List Nat} (h:i<n):bK 1 (.ref 0 0 0 n n) (VI (i:Int)) [.row 0 (outs.map tV) 1 true]=some (.ptr 0 0 i 0):=by rw[bB NF h,aL9]
theorem wr {x:Int} (n:Nat) (h:x=n) (hn:n≤9223372036854775807):IntKind.i64.wrap x=(n:Int):=wrapN n h hn
theorem B5 (a b:Nat) (I0:b≤a) (ha:(aD 1000000000 a).length≤17592186044416):TC 156 [cC a,cC b] (cC (a-b)):=by
 refine TC.walk ⟨true,false⟩ Ke rfl (aMp rfl) (by simp[aO,cM]) (pU _) ?_
 have hle:=fB (b:=1000000000) (by decide) I0
 simp only[E1,Cm,Ox,cQ,VX,Nat.reduceEqDiff,Nat.reduceAdd]
 refine aP (fun(s:Nat×List Nat×Nat) ρ H=>s.1=s.2.1.length∧s.1≤(aD 1000000000 a).length∧H=[.row s.2.1.length (s.2.1.map tV) 1 true]∧(∀d∈s.2.1,d<1000000000)∧s.2.2≤1∧val 1000000000 ((aD 1000000000 a).take s.1)+1000000000^s.1*s.2.2=val 1000000000 s.2.1+val 1000000000 ((aD 1000000000 b).take s.1) ∧
  ρ 0=cC a∧ρ 1=cC b∧ρ 5 = .ref 0 s.2.1.length 0 s.2.1.length s.2.1.length∧ρ 6=VI s.2.2∧ρ 11=VI (aD 1000000000 a).length∧ρ 12=VI s.1) (fun s=>(aD 1000000000 a).length-s.1) (0,[],0) ⟨rfl,aK5 _,rfl,by simp,by simp,by simp[val],rfl,rfl,rfl,rfl,rfl,rfl⟩ ?_
 rintro⟨i,outs,l⟩ ρ H ⟨hi,uW,rfl,nK,hc,hv,g0,g1,g5,g6,g11,g12⟩
 simp only at hi uW nK hc hv g5 g6 g12
 by_cases bZ:(i:Int)<((aD 1000000000 a).length:Int)
 ·have hx:=Qc (b:=1000000000) (by decide) (n:=a) (i:=i) (by omega)
  have e1:bK 1 (cC a) (VI i) [.row outs.length (outs.map tV) 1 true]=some (.cJ (tV (a / 1000000000^i % 1000000000)) 0):=aI (f:=tV) (t := .op) (size:=1) (k := .i64) hx rfl
  have c2:=Gh b i
  have t1:=HB (b:=1000000000) (aD 1000000000 a) i
  have t2:=HB (b:=1000000000) (aD 1000000000 b) i
  rw[Lr (by decide)] at t1 t2
  have lx:=aK3 (a / 1000000000^i) (show 0<1000000000 by decide)
  have ly:=aK3 (b / 1000000000^i) (show 0<1000000000 by decide)
  generalize a / 1000000000^i % 1000000000=x at *
  generalize b / 1000000000^i % 1000000000=y at *
  have wi:IntKind.i64.wrap ((i:Int)+1)=((i+1:Nat):Int):=wrapN (i+1) (by omega) (by omega)
  have w1:IntKind.i64.wrap ((x:Int)-(y:Int))=(x:Int)-(y:Int):=wrap64 (by omega) (by omega)
  have w2:IntKind.i64.wrap ((x:Int)-(y:Int)-(l:Int))=(x:Int)-(y:Int)-(l:Int):=wrap64 (by omega) (by omega)
  have step:∀r l':Nat,r<1000000000→l'≤1→r+y+l=x+1000000000*l'→(∀d∈outs++[r],d<1000000000)∧val 1000000000 ((aD 1000000000 a).take (i+1))+1000000000^(i+1)*l'=val 1000000000 (outs++[r])+val 1000000000 ((aD 1000000000 b).take (i+1)):=by
   intro r l' hr _ hd
   refine⟨fun d h => ?_,?_⟩
   ·rcases List.mem_append.1 h with h | h
    ·exact nK d h
    ·rw[List.mem_singleton.1 h];exact hr
   ·rw[t1,t2,vY,←hi,aL2]
    exact Mw hv hd
  by_cases mI:(x:Int)-(y:Int)-(l:Int)<0
  ·obtain⟨r,hr⟩:∃r:Nat,r+y+l=x+1000000000:=⟨x+1000000000-l-y,by omega⟩
   have w3:IntKind.i64.wrap ((x:Int)-(y:Int)-(l:Int)+1000000000)=(r:Int):=wrapN r (by omega) (by omega)
   obtain⟨s1,s2⟩:=step r 1 (by omega) (aKB _) (by omega)
   have a1:=apS (ds:=outs) (d:=r) (by omega)
   simp only[oY,g0,g1,g5,g6,g11,g12,bZ,e1,c2,w1,w2,w3,wi,mI,wB,zT,a1,VX,Nat.reduceEqDiff,Nat.reduceAdd]
   refine⟨(i+1,outs++[r],1),by simp only;omega,by simp;omega,by simp only;omega,by simp,s1,aKB _,s2,?_⟩
   simp only[aKM,aMQ]
   try (repeat' apply aMh)<;>first | rfl | trivial
  ·obtain⟨r,hr⟩:∃r:Nat,r+y+l=x:=⟨x-l-y,by omega⟩
   obtain⟨s1,s2⟩:=step r 0 (by omega) (by omega) (by omega)
   have er:(x:Int)-(y:Int)-(l:Int)=(r:Int):=by omega
   have a1:=apS (ds:=outs) (d:=r) (by omega)
   have w3:IntKind.i64.wrap ((x:Int)-(y:Int)-(l:Int))=(r:Int):=wrapN r er (by omega)
   have Kp:¬(r:Int)<0:=by omega
   simp only[oY,g0,g1,g5,g6,g11,g12,bZ,e1,c2,w1,w3,wi,Kp,wB,zT,a1,VX,Nat.reduceEqDiff,Nat.reduceAdd]
   refine⟨(i+1,outs++[r],0),by simp only;omega,by simp;omega,by simp only;omega,by simp,s1,aK5 _,s2,?_⟩
   simp only[aKM,aMQ]
   try (repeat' apply aMh)<;>first | rfl | trivial
 ·have mC:i=(aD 1000000000 a).length:=by omega
  rw[mC,aLO,aLu (l:=aD 1000000000 b) hle,cN (by decide),cN (by decide)] at hv
  have dS:=sF nK
  rw[←hi,mC] at dS
  have Hh:val 1000000000 outs=a-b:=by
   rcases aKE l 1 with h | h
   ·have:l=0:=by omega
    subst this
    rw[aMH] at hv
    omega
   ·have:l=1:=by omega
    subst this
    rw[Nat.mul_one] at hv
    omega
  simp only[oY,g0,g1,g5,g6,g11,g12,bZ,VX,Nat.reduceEqDiff,Nat.reduceAdd]
  refine K6 nK rfl (by omega) Hh ?_
  simp only[VX,Nat.reduceEqDiff,Nat.reduceAdd]
  exact UI _
theorem fP (a b:Nat) (ha:(aD 1000000000 a).length≤17592186044416) (hb:(aD 1000000000 b).length≤17592186044416):TC 152 [cC a,cC b] (cC (a*b)):=by
 refine TC.walk ⟨true,false⟩ Kv rfl (aMp rfl) (by simp[aO,cM]) (pU _) ?_
 have va:=cN (b:=1000000000) (by decide) a
 have vb:=cN (b:=1000000000) (by decide) b
 have la:=gK (b:=1000000000) (by decide) a
 have lb:=gK (b:=1000000000) (by decide) b
 unfold cC
 generalize aD 1000000000 a=xs at *
 generalize aD 1000000000 b=ys at *
 have w0:IntKind.i64.wrap ((xs.length:Int)+(ys.length:Int))=((xs.length+ys.length:Nat):Int):=wrapN _ (by omega) (by omega)
 simp only[Fv,DI,eW,w0,Te (xs.length+ys.length) (by omega),VX,Nat.reduceEqDiff,Nat.reduceAdd]
 generalize hN:xs.length+ys.length=N at *
 refine aP (fun(s:Nat×List Nat) ρ H=>s.1≤xs.length∧H=[.row 0 (s.2.map tV) 1 true]∧s.2.length=N∧(∀d∈s.2,d<1000000000)∧val 1000000000 (s.2.take (s.1+ys.length))=val 1000000000 (xs.take s.1)*b∧(∀j,s.1+ys.length≤j→j<N→s.2[j]? = some 0) ∧
  ρ 0=jI xs∧ρ 1=jI ys∧ρ 5 = .ref 0 0 0 N N∧ρ 17=VI xs.length∧ρ 18=VI s.1) (fun s=>xs.length-s.1) (0,aLr N 0) ⟨aK5 _,rfl,by simp,Cw (by decide) _,by simp[val,aMT,vA],fun j _ h=>by simp[List.getElem?_replicate,h],rfl,rfl,rfl,rfl,rfl⟩ ?_
 rintro⟨i,outs⟩ ρ H ⟨hi,rfl,iB,nK,hv,hzr,g0,g1,g5,g17,g18⟩
 simp only at hi iB nK hv hzr g18
 by_cases bZ:(i:Int)<(xs.length:Int)
 ·obtain⟨x,hx⟩:∃x,xs[i]? = some x:=⟨_,aKI (by omega)⟩
  have lx:=la x (aLv hx)
  have e1:∀os:List Nat,bK 1 (jI xs) (VI i) [.row 0 (os.map tV) 1 true]=some (.cJ (tV x) 0):=fun os=>aI (f:=tV) (t := .op) (size:=1) (k := .i64) hx rfl
  simp only[vO,g0,g1,g5,g17,g18,bZ,eW,VX,Nat.reduceEqDiff,Nat.reduceAdd]
  refine aP (fun(s:Nat×List Nat×Nat) ρ H=>s.1≤ys.length∧H=[.row 0 (s.2.1.map tV) 1 true]∧s.2.1.length=N∧(∀d∈s.2.1,d<1000000000)∧s.2.2<1000000000 ∧
   val 1000000000 (s.2.1.take (i+s.1))+1000000000^(i+s.1)*s.2.2=val 1000000000 (outs.take (i+s.1))+1000000000^i*(x*val 1000000000 (ys.take s.1))∧(∀j,i+s.1≤j→s.2.1[j]? = outs[j]?) ∧
   ρ 0=jI xs∧ρ 1=jI ys∧ρ 5 = .ref 0 0 0 N N∧ρ 6=VI i∧ρ 7=VI s.2.2∧ρ 17=VI xs.length∧ρ 18=VI i∧ρ 22=VI ys.length∧ρ 23=VI s.1) (fun s=>ys.length-s.1) (0,outs,0) ⟨aK5 _,rfl,iB,nK,by simp,by simp[val],fun _ _=>rfl,by (repeat' apply aMh)<;>first | rfl | trivial⟩ ?_
  rintro⟨k,os,c⟩ tG H ⟨hk,rfl,Tv,Tk,hc,Qr,I1,k0,k1,k5,k6,k7,Il,W9,k22,k23⟩
  simp only at hk Tv Tk hc Qr I1 k7 k23
  have wi:IntKind.i64.wrap ((i:Int)+1)=((i+1:Nat):Int):=wrapN (i+1) (by omega) (by omega)
  by_cases T2:(k:Int)<(ys.length:Int)
  ·obtain⟨y,hy⟩:∃y,ys[k]? = some y:=⟨_,aKI (by omega)⟩
   have ly:=lb y (aLv hy)
   obtain⟨o,ho⟩:∃o,os[i+k]? = some o:=⟨_,aKI (by omega)⟩
   have lo:=Tk o (aLv ho)
   have ho':outs[i+k]? = some o:=by rw[←I1 (i+k) (aKB _)];exact ho
   have f1:bK 1 (jI ys) (VI k) [.row 0 (os.map tV) 1 true]=some (.cJ (tV y) 0):=aI (f:=tV) (t := .op) (size:=1) (k := .i64) hy rfl
   have w1:IntKind.i64.wrap ((i:Int)+(k:Int))=((i+k:Nat):Int):=wrapN _ (by omega) (by omega)
   have f2:bK 1 (.ref 0 0 0 N N) (VI ((i+k:Nat):Int)) [.row 0 (os.map tV) 1 true]=some (.ptr 0 0 (i+k) 0):=adT (by omega)
   have f3:bH false 1 (.ptr 0 0 (i+k) 0) [.row 0 (os.map tV) 1 true]=some (VI (o:Int)):=N3 NF ho
   have f4:∀s:Nat,bL 0 1 (.ptr 0 0 (i+k) 0) (VI (s:Int)) [.row 0 (os.map tV) 1 true]=some [.row 0 ((os.set (i+k) s).map tV) 1 true]:=fun s=>Tn (by omega)
   have CT:x*y≤999999999*999999999:=aMU (by omega) (by omega)
   have w5:IntKind.i64.wrap ((x:Int)*(y:Int))=((x*y:Nat):Int):=wrapN _ (by simp) (by omega)
   have w6:IntKind.i64.wrap ((o:Int)+((x*y:Nat):Int))=((o+x*y:Nat):Int):=wrapN _ (by omega) (by omega)
   have w7:IntKind.i64.wrap (((o+x*y:Nat):Int)+(c:Int))=((o+x*y+c:Nat):Int):=wrapN _ (by omega) (by omega)
   have wk:IntKind.i64.wrap ((k:Int)+1)=((k+1:Nat):Int):=wrapN (k+1) (by omega) (by omega)
   have r1:=Rj (o+x*y+c)
   have q1:=Rs (o+x*y+c) (by omega)
   simp only[wQ,k0,k1,k5,k6,k7,Il,W9,k22,k23,T2,e1,f1,f2,f3,f4,w1,w5,w6,w7,wk,r1,q1,VX,Nat.reduceEqDiff,Nat.reduceAdd]
   have hq:(o+x*y+c) / 1000000000<1000000000:=aMV (by omega)
   refine⟨(k+1,os.set (i+k) ((o+x*y+c) % 1000000000),(o+x*y+c) / 1000000000),by simp only;omega,by omega,rfl,by rw[aMz];exact Tv,nW Tk (aK3 _ (by decide)),hq,?_,fun j hj => ?_,by (repeat' apply aMh)<;>first | rfl | trivial⟩
   ·have h1:=aMK (o+x*y+c) 1000000000
    rw[show o+x*y+c=c+(x*y+o) by omega] at h1 ⊢
    rw[←Nat.add_assoc,fH (by omega),bE ho',bE hy,aL2]
    rw[aMP] at Qr ⊢
    exact Vg Qr h1
   ·rw[aK0 (by omega)]
    exact I1 j (by omega)
  ·have hke:k=ys.length:=by omega
   subst hke
   rw[aLO,vb,hv] at Qr
   have w1:IntKind.i64.wrap ((i:Int)+(ys.length:Int))=((i+ys.length:Nat):Int):=wrapN _ (by omega) (by omega)
   have CI:os[i+ys.length]? = some 0:=by rw[I1 _ (aKB _)];exact hzr _ (aKB _) (by omega)
   have f2:bK 1 (.ref 0 0 0 N N) (VI ((i+ys.length:Nat):Int)) [.row 0 (os.map tV) 1 true]=some (.ptr 0 0 (i+ys.length) 0):=adT (by omega)
   have f3:bH false 1 (.ptr 0 0 (i+ys.length) 0) [.row 0 (os.map tV) 1 true]=some (VI ((0:Nat):Int)):=N3 NF CI
   have f4:∀s:Nat,bL 0 1 (.ptr 0 0 (i+ys.length) 0) (VI (s:Int)) [.row 0 (os.map tV) 1 true]=some [.row 0 ((os.set (i+ys.length) s).map tV) 1 true]:=fun s=>Tn (by omega)
   have w2:IntKind.i64.wrap (((0:Nat):Int)+(c:Int))=(c:Int):=wrapN _ (by omega) (by omega)
   simp only[wQ,k0,k1,k5,k6,k7,Il,W9,k22,k23,T2,eW,f2,f3,f4,w1,w2,wi,VX,Nat.reduceEqDiff,Nat.reduceAdd]
   refine⟨(i+1,os.set (i+ys.length) c),by simp only;omega,by omega,rfl,by rw[aMz];exact Tv,nW Tk hc,?_,fun j hj Hu => ?_,by (repeat' apply aMh)<;>first | rfl | trivial⟩
   ·rw[show i+1+ys.length=i+ys.length+1 by omega,fH (by omega),Qr,bE hx,aK6,aMR]
   ·rw[aK0 (by omega),I1 j (by omega)]
    exact hzr j (by omega) Hu
 ·have mC:i=xs.length:=by omega
  subst mC
  rw[hN,aLO,va,aLu (by omega)] at hv
  simp only[vO,g0,g1,g5,g17,g18,bZ,VX,Nat.reduceEqDiff,Nat.reduceAdd]
  refine K6 (m:=a*b) nK iB.symm (by omega) hv ?_
  simp only[VX,Nat.reduceEqDiff,Nat.reduceAdd]
  exact UI _
theorem EF (a:Nat) (ha:(aD 1000000000 a).length≤17592186044416):TC 201 [cC a] (if (aD 1000000000 a).length≤2 then .eJ [VI a,VB true] else .eJ [VI 0,VB false]):=by
 refine TC.walk ⟨true,false⟩ Nr rfl (aMp rfl) (by simp[aO,cM]) (by split<;>rfl) ?_
 by_cases h2:(aD 1000000000 a).length≤2
 ·rw[if_pos h2]
  have h3:¬(2:Int)<((aD 1000000000 a).length:Int):=by omega
  have c0:TC 186 [cC a,VI 0] (VI ((a % 1000000000:Nat):Int)):=by have:=Gh a 0;rwa [aMN,Nat.div_one] at this
  have c1:TC 186 [cC a,VI 1] (VI ((a / 1000000000 % 1000000000:Nat):Int)):=by have:=Gh a 1;rwa [Nat.pow_one] at this
  have bI:=iP (b:=1000000000) (by decide) a
  have hp:1000000000^(aD 1000000000 a).length≤1000000000^2:=aME (by decide) h2
  have hm:a / 1000000000<1000000000:=aMV (by omega)
  rw[aL5 hm] at c1
  have hmd:=aMK a 1000000000
  have w1:IntKind.i64.wrap (1000000000*((a / 1000000000:Nat):Int))=((1000000000*(a / 1000000000):Nat):Int):=wrapN _ (by omega) (by omega)
  have w2:IntKind.i64.wrap (((a % 1000000000:Nat):Int)+((1000000000*(a / 1000000000):Nat):Int))=(a:Int):=wrapN _ (by omega) (by omega)
  simp only[CD,Ad,cQ,h3,c0,c1,w1,w2,VX,Nat.reduceEqDiff,Nat.reduceAdd]
  exact aL rfl
 ·rw[if_neg h2]
  have h3:(2:Int)<((aD 1000000000 a).length:Int):=by omega
  simp only[CD,Ad,cQ,h3,VX,Nat.reduceEqDiff,Nat.reduceAdd]
  exact aL rfl
theorem alY {outs:List Nat} {n cap x:Nat} (hn:n=outs.length) (hc:n<cap):dR 0 1 8 (.ref 0 0 0 n cap) [VI (x:Int)] [.row 0 ((outs++aLr (cap-n) 0).map tV) 1 true]=some (.ref 0 0 0 (n+1) cap,[.row 0 (((outs++[x])++aLr (cap-(n+1)) 0).map tV) 1 true]):=by
 subst hn
 simp only[dR,aT,List.length_map,aKM,aMq,aKL,aMe,aL9]
 rw[if_pos ⟨by decide,by decide⟩,if_pos ⟨trivial,aKB _,by omega⟩,if_pos (by omega),if_neg (by omega),if_pos (by omega)]
 congr 3
 have e:aLr (cap-outs.length) 0=(0:Nat)::aLr (cap-(outs.length+1)) 0:=by
  rw[show cap-outs.length=(cap-(outs.length+1))+1 by omega,List.replicate_succ]
 simp only[dF,List.set_cons_zero,e,aMY,List.map_cons,aKL,aMe,List.map_nil]
 congr 1
 rw[aMZ (by simp),←List.drop_drop,List.drop_left' (by simp)]
 simp
theorem Bo (a d:Nat) (Ft:0<d) (hd:d<1000000000) (ha:(aD 1000000000 a).length<17592186044416):TC 203 [cC a,VI (d:Int)] (cC (a*d)):=by
 refine TC.walk ⟨true,false⟩ Ir rfl (aMp rfl) (by simp[aO,cM];rfl) (pU _) ?_
 have w0:IntKind.i64.wrap (((aD 1000000000 a).length:Int)+1)=(((aD 1000000000 a).length+1:Nat):Int):=wrapN _ (by omega) (by omega)
 have mk:BA [.int .i64 0] 8 (VI 0) (VI (((aD 1000000000 a).length+1:Nat):Int)) []=some (.ref 0 0 0 0 ((aD 1000000000 a).length+1),[.row 0 ((([]:List Nat)++aLr ((aD 1000000000 a).length+1-0) 0).map tV) 1 true]):=by
  simp only[BA]
  rw[if_pos ⟨by omega,by omega,by omega,by omega⟩]
  simp
  rfl
 simp only[DM,A3,cQ,w0,mk,VX,Nat.reduceEqDiff,Nat.reduceAdd]
 refine aP (fun(s:Nat×List Nat×Nat) ρ H=>s.1=s.2.1.length∧s.1≤(aD 1000000000 a).length∧H=[.row 0 ((s.2.1++aLr ((aD 1000000000 a).length+1-s.1) 0).map tV) 1 true]∧s.2.2<d∧aD 1000000000 (a*d)=s.2.1++aD 1000000000 (a / 1000000000^s.1*d+s.2.2) ∧
  ρ 1=VI d∧ρ 5 = .ref 0 0 0 s.1 ((aD 1000000000 a).length+1)∧ρ 6=VI s.2.2∧ρ 14=cC a∧ρ 15=VI (aD 1000000000 a).length∧ρ 16=VI s.1) (fun s=>(aD 1000000000 a).length-s.1) (0,[],0) ⟨rfl,aK5 _,rfl,Ft,by simp,rfl,rfl,rfl,rfl,rfl,rfl⟩ ?_
 rintro⟨i,outs,c⟩ ρ H ⟨hi,uW,rfl,hc,hv,g1,g5,g6,g14,g15,g16⟩
 simp only at hi uW hc hv g5 g6 g16
 by_cases bZ:(i:Int)<((aD 1000000000 a).length:Int)
 ·have hx:=Qc (b:=1000000000) (by decide) (n:=a) (i:=i) (by omega)
  have hA:=(G0 (b:=1000000000) (by decide) (n:=a) (i:=i)).1 (by omega)
  have e1:∀H,bK 1 (cC a) (VI i) H=some (.cJ (tV (a / 1000000000^i % 1000000000)) 0):=fun H=>aI (f:=tV) (t := .op) (size:=1) (k := .i64) hx rfl
  have lx:=aK3 (a / 1000000000^i) (show 0<1000000000 by decide)
  have fW:a / 1000000000^i*d+c≠0:=by
   have:=Nat.mul_ne_zero hA (show d≠0 by omega)
   omega
  rw[afT (by decide) fW,←vP] at hv
  generalize a / 1000000000^i % 1000000000=x at *
  have hxd:x*d≤999999999*999999999:=aMU (by omega) (by omega)
  have w1:IntKind.i64.wrap ((x:Int)*(d:Int))=((x*d:Nat):Int):=wrapN _ (by simp) (by omega)
  have w2:IntKind.i64.wrap (((x*d:Nat):Int)+(c:Int))=((x*d+c:Nat):Int):=wrapN _ (by omega) (by omega)
  have wi:IntKind.i64.wrap ((i:Int)+1)=((i+1:Nat):Int):=wrapN (i+1) (by omega) (by omega)
  have r1:=Rj (x*d+c)
  have q1:=Rs (x*d+c) (by omega)
  have a1:=alY (outs:=outs) (n:=i) (cap:=(aD 1000000000 a).length+1) (x:=(x*d+c) % 1000000000) hi (by omega)
  have hq:(x*d+c) / 1000000000<d:=by
   rw[aMX (by decide)]
   have h1:x*d≤999999999*d:=aK2 _ (by omega)
   omega
  simp only[nP,g1,g5,g6,g14,g15,g16,bZ,e1,w1,w2,wi,r1,q1,wB,zT,a1,VX,Nat.reduceEqDiff,Nat.reduceAdd]
  refine⟨(i+1,outs++[(x*d+c) % 1000000000],(x*d+c) / 1000000000),by simp only;omega,by simp;omega,by simp only;omega,rfl,hq,by rw[hv,aMn];rfl,?_⟩
  try (repeat' apply aMh)<;>first | rfl | trivial
 ·have mC:i=(aD 1000000000 a).length:=by omega
  have hz:a / 1000000000^i=0:=by
   have:=mt (G0 (b:=1000000000) (by decide) (n:=a) (i:=i)).2
   omega
  rw[hz,Nat.zero_mul,aL9] at hv
  by_cases hcp:(0:Int)<(c:Int)
  ·rw[FE (b:=1000000000) (by decide) (show c≠0 by omega) (show c<1000000000 by omega)] at hv
   have a1:=alY (outs:=outs) (n:=i) (cap:=(aD 1000000000 a).length+1) (x:=c) hi (by omega)
   simp only[nP,g1,g5,g6,g14,g15,g16,bZ,hcp,wB,zT,a1,VX,Nat.reduceEqDiff,Nat.reduceAdd]
   rw[cC,hv]
   rw[Zk aT (by simp;omega) (by omega) (fQ fun _=>rfl)]
   rw[aMY,aMZ (by simp;omega)]
  ·have hc0:c=0:=by omega
   rw[hc0,cE,aLJ] at hv
   simp only[nP,g1,g5,g6,g14,g15,g16,bZ,hcp,VX,Nat.reduceEqDiff,Nat.reduceAdd]
   rw[cC,hv]
   rw[Zk aT (by simp;omega) (by omega) (fQ fun _=>rfl)]
   rw[aMY,aMZ (by simp;omega)]
theorem NR (a b:Nat) (ha:a≤9223372036854775807) (hb:0<b):dK .quo (.int .i64 (a:Int)) (.int .i64 (b:Int))=some (.int .i64 ((a / b:Nat):Int)):=by
 have h1:¬((b:Int)=0):=by omega
 have h2:(a:Int).tdiv (b:Int)=((a / b:Nat):Int):=by rw[aMC (by omega)];simp
 have h3:a / b≤a:=Nat.div_le_self _ _
 simp only[dK,if_true,h1,if_false,h2]
 generalize a / b=q at *
 rw[wrap64 (by omega) (by omega)]
theorem Oy (a b:Nat) (hb:0<b):dK .rem (.int .i64 (a:Int)) (.int .i64 (b:Int))=some (.int .i64 ((a % b:Nat):Int)):=by
 have h1:¬((b:Int)=0):=by omega
 have h2:(a:Int).tmod (b:Int)=((a % b:Nat):Int):=by rw[aMD (by omega)];simp
 simp only[dK,if_true,h1,if_false,h2]
theorem amI {r d x:Nat} (hr:r<d) (hd:d<1000000000) (hx:x<1000000000):r*1000000000+x≤9223372036854775807:=by omega
theorem ayO {r d x:Nat} (Ft:0<d) (hr:r<d) (hx:x<1000000000):(r*1000000000+x) / d<1000000000:=by
 rw[aMX Ft]
 omega
theorem Bp (a d:Nat) (Ft:0<d) (hdT:d<1000000000) (ha:(aD 1000000000 a).length≤17592186044416):TC 202 [cC a,VI (d:Int)] (.eJ [cC (a / d),VI ((a % d:Nat):Int)]):=by
 refine TC.walk ⟨true,false⟩ IN rfl (aMp rfl) (by simp[aO,cM];rfl) (by simp[hJ,sR,pU,qE]) ?_
 have va:=cN (b:=1000000000) (by decide) a
 have la:=gK (b:=1000000000) (by decide) a
 unfold cC
 generalize aD 1000000000 a=xs at *
 have w0:IntKind.i64.wrap ((xs.length:Int)-1)=(xs.length:Int)-1:=wrap64 (by omega) (by omega)
 simp only[Dj,Bv,eW,w0,Te xs.length (by omega),VX,Nat.reduceEqDiff,Nat.reduceAdd]
 refine aP (fun(s:Nat×List Nat×Nat) ρ H=>s.1≤xs.length∧H=[.row 0 (s.2.1.map tV) 1 true]∧s.2.1.length=xs.length∧(∀d∈s.2.1,d<1000000000)∧s.2.2<d∧val 1000000000 (s.2.1.drop s.1)*d+s.2.2=val 1000000000 (xs.drop s.1) ∧
  ρ 0=jI xs∧ρ 1=VI d∧ρ 6 = .ref 0 0 0 xs.length xs.length∧ρ 7=VI s.2.2∧ρ 8=VI ((s.1:Int)-1)) (fun s=>s.1) (xs.length,aLr xs.length 0,0) ⟨aKB _,rfl,by simp,Cw (by decide) _,Ft,by simp[val,aMW],rfl,rfl,rfl,rfl,rfl⟩ ?_
 rintro⟨j,outs,r⟩ ρ H ⟨hj,rfl,iB,nK,hr,hv,g0,g1,g6,g7,g8⟩
 simp only at hj iB nK hr hv g7 g8
 by_cases hz:(0:Int)≤(j:Int)-1
 ·obtain⟨i,rfl⟩:∃i,j=i+1:=⟨j-1,by omega⟩
  obtain⟨x,hx⟩:∃x,xs[i]? = some x:=⟨_,aKI (by omega)⟩
  have lx:=la x (aLv hx)
  have Ed:((i+1:Nat):Int)-1=(i:Int):=by omega
  rw[Ed] at g8 hz
  have e1:=aI (f:=tV) (t := .op) (H:=[.row 0 (outs.map tV) 1 true]) (size:=1) (k := .i64) hx rfl
  have e3:bK 1 (.ref 0 0 0 xs.length xs.length) (VI i) [.row 0 (outs.map tV) 1 true]=some (.ptr 0 0 i 0):=adT (by omega)
  have e4:∀s:Nat,bL 0 1 (.ptr 0 0 i 0) (VI (s:Int)) [.row 0 (outs.map tV) 1 true]=some [.row 0 ((outs.set i s).map tV) 1 true]:=fun s=>Tn (by omega)
  have w2:IntKind.i64.wrap ((i:Int)-1)=(i:Int)-1:=wrap64 (by omega) (by omega)
  have w4:IntKind.i64.wrap ((r:Int)*1000000000)=((r*1000000000:Nat):Int):=wrapN _ (by omega) (by omega)
  have w5:IntKind.i64.wrap (((r*1000000000:Nat):Int)+(x:Int))=((r*1000000000+x:Nat):Int):=wrapN _ (by omega) (by omega)
  have GZ:r*1000000000+x≤9223372036854775807:=amI hr hdT lx
  have q1:=NR (r*1000000000+x) d GZ Ft
  have q2:=Oy (r*1000000000+x) d Ft
  have hq:(r*1000000000+x) / d<1000000000:=ayO Ft hr lx
  simp only[tC,g0,g1,g6,g7,g8,hz,e1,e3,e4,w2,w4,w5,q1,q2,VX,Nat.reduceEqDiff,Nat.reduceAdd]
  refine⟨(i,outs.set i ((r*1000000000+x) / d),(r*1000000000+x) % d),by simp only;omega,by omega,rfl,by rw[aMz];exact iB,nW nK hq,aK3 _ Ft,?_,by (repeat' apply aMh)<;>first | rfl | trivial⟩
  have h1:=aMK (r*1000000000+x) d
  rw[set_drop (by omega),vQ,xA hx,←hv]
  exact WN h1
 ·have Xk:j=0:=by omega
  subst Xk
  rw[aLN,aLN,va] at hv
  have h1:a / d=val 1000000000 outs:=by
   rw[←hv,aL3,Nat.mul_add_div Ft,aL8 hr,aMI]
  have h2:a % d=r:=by
   rw[←hv,aL3,Nat.mul_add_mod,aL5 hr]
  simp only[tC,g0,g1,g6,g7,g8,hz,VX,Nat.reduceEqDiff,Nat.reduceAdd]
  refine K6 (m:=a / d) nK iB.symm (by omega) h1.symm ?_
  simp only[g7,VX,Nat.reduceEqDiff,Nat.reduceAdd]
  rw[h2]
  exact aL (by simp[bA,aO,BJ,cC,qE])
end Go.PM