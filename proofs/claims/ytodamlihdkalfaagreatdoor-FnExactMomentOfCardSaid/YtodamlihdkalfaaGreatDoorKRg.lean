/- Texts of a claim, in one: part 7. -/
import Derived.Test.YtodamlihdkalfaaGreatDoorKRf
set_option linter.unusedSimpArgs false
set_option linter.unusedVariables false
namespace Go.PM
abbrev uV (d:Nat):VV := .sc (.int .u32 (d:Int))
abbrev yX (ds:List Nat):VV:=bL uV ds
def bD (n:Nat):VV:=yX (aC 4294967296 n)
theorem PY:∀d:Nat,(aB (uV d)).length=1:=fun _=>rfl
theorem Uj (ds:List Nat):aR (yX ds)=true:=jA PY fun _=>rfl
theorem VU (ds:List Nat):gO (yX ds)=true:=By PY (fun _=>rfl) fun _=>rfl
theorem bH (n:Nat):aR (bD n)=true:=Uj _
theorem oB (n:Nat):gO (bD n)=true:=VU _
theorem Ca:bD 0 = .tree [] .op:=by rw[bD,bQ];rfl
theorem SA (a b:Nat) (ha:a<18446744073709551616) (hb:0<b):cX .quo (.int .u64 (a:Int)) (.int .u64 (b:Int))=some (.int .u64 ((a / b:Nat):Int)):=by
 have h1:¬((b:Int)=0):=by omega
 have h2:(a:Int).tdiv (b:Int)=((a / b:Nat):Int):=by rw[Int.tdiv_eq_ediv_of_nonneg (by omega)];simp
 have h3:a / b≤a:=Nat.div_le_self _ _
 simp only[cX,if_true,h1,if_false,h2]
 rw[eH _ (by omega)]
theorem Mm (a b:Nat) (hb:0<b):cX .rem (.int .u64 (a:Int)) (.int .u64 (b:Int))=some (.int .u64 ((a % b:Nat):Int)):=by
 have h1:¬((b:Int)=0):=by omega
 have h2:(a:Int).tmod (b:Int)=((a % b:Nat):Int):=by rw[Int.tmod_eq_emod_of_nonneg (by omega)];simp
 simp only[cX,if_true,h1,if_false,h2]
theorem acB (n s:Nat) (hn:n<4294967296) (hs:s≤31):cX .shl (.int .u64 (n:Int)) (.int .i64 (s:Int))=some (.int .u64 ((n*2^s:Nat):Int)):=by
 have h1:¬((s:Int)<0):=by omega
 have h2:Nat.min (Int.toNat (s:Int)) IntKind.u64.bits=s:=by
  rw[Int.toNat_natCast]
  exact Nat.min_eq_left (by show s≤64;omega)
 have h3:2^s≤2^31:=Nat.pow_le_pow_right (by decide) hs
 have h4:n*2^s≤n*2^31:=Nat.mul_le_mul_left _ h3
 simp only[cX,h1,if_false,h2]
 congr 2
 have e:(n:Int)*2^s=((n*2^s:Nat):Int):=by simp
 rw[e]
 exact eH _ (by omega)
theorem V5 (n s:Nat) (hs:s≤31):cX .shr (.int .u64 (n:Int)) (.int .i64 (s:Int))=some (.int .u64 ((n / 2^s:Nat):Int)):=by
 have h1:¬((s:Int)<0):=by omega
 have h2:Nat.min (Int.toNat (s:Int)) IntKind.u64.bits=s:=by
  rw[Int.toNat_natCast]
  exact Nat.min_eq_left (by show s≤64;omega)
 simp only[cX,h1,if_false,h2]
 congr 2
 rw[Int.fdiv_eq_ediv_of_nonneg _ (by exact Int.le_of_lt (Int.pow_pos (by decide)))]
 simp
theorem aaO (a m s:Nat) (ha:a<2^s) (hm:m*2^s+a<4294967296):cX .or (.int .u32 (a:Int)) (.int .u32 ((m*2^s:Nat):Int))=some (.int .u32 ((a+m*2^s:Nat):Int)):=by
 have e:a ||| (m*2^s)=a+m*2^s:=by
  have:=Nat.shiftLeft_add_eq_or_of_lt ha m
  rw[Nat.shiftLeft_eq] at this
  rw[Nat.or_comm,←this,Nat.add_comm]
 have e1:(BitVec.ofInt IntKind.u32.bits (a:Int) ||| BitVec.ofInt IntKind.u32.bits ((m*2^s:Nat):Int)).toNat=a+m*2^s:=by
  show (BitVec.ofInt 32 (a:Int) ||| BitVec.ofInt 32 ((m*2^s:Nat):Int)).toNat=a+m*2^s
  rw[BitVec.toNat_or,BitVec.ofInt_natCast,BitVec.ofInt_natCast,BitVec.toNat_ofNat,BitVec.toNat_ofNat,Nat.mod_eq_of_lt (by omega),Nat.mod_eq_of_lt (by omega),e]
 simp only[cX,if_true,e1]
 rw[wrap32,Nat.mod_eq_of_lt (by omega)]
section
variable {rows:List Nat} {b g c n e:Nat} {w:Bool} {H:aA}
theorem HJ {m d:Nat} (hr:aQ H b g=some (rows.map uV,1,w)) (hn:n≤rows.length) (hc:n≤c) (he:rows.take n=aC 4294967296 m):fz (d+2) H (.ref b g 0 n c)=some (bD m):=by
 have:aR (.ref b g 0 n c)=false:=rfl
 unfold fz
 simp only[this,hr,Bool.false_eq_true,if_false]
 have A7:aJ ((rows.map uV).take n)=true:=by rw[←List.map_take];exact dQ fun _=>rfl
 rw[if_pos ⟨by simpa using hn,hc⟩,List.drop_zero,mapM_pure A7,←List.map_take,he]
 rfl
theorem Me {m:Nat} (hr:aQ H b g=some (rows.map uV,1,w)) (hn:n≤rows.length) (hc:n≤c) (he:rows.take n=aC 4294967296 m):fz depth H (.ref b g 0 n c)=some (bD m):=HJ (d:=6) hr hn hc he
theorem bG {d:Nat} {u u' v v':VV} (h1:fz (d+1) H u=some u') (h2:fz (d+1) H v=some v'):fz (d+2) H (.eQ [u,v])=some (.eQ [u',v']):=by
 have e:fz (d+2) H (.eQ [u,v])=if aR (.eQ [u,v])=true then some (.eQ [u,v]) else ([u,v].mapM (fz (d+1) H)).map .eQ:=rfl
 rw[e]
 by_cases hp:aR (.eQ [u,v])=true
 ·rw[if_pos hp]
  simp only[aR,aJ,Bool.and_eq_true,and_true] at hp
  rw[aH hp.1] at h1
  rw[aH hp.2] at h2
  cases h1
  cases h2
  rfl
 ·rw[if_neg hp,List.mapM_cons,h1,List.mapM_cons,h2]
  rfl
theorem gT {j d:Nat} (hr:aQ H b g=some (rows.map uV,1,w)) (hj:rows[j]? = some d):dU false 1 (.ptr b g j 0) H=some (uV d):=rL hr hj
theorem MR {xs:List Nat} {m d:Nat} (hm:xs.length=m+1) (hd:xs[m]? = some d) (h:d≠0):xs.getLast? ≠ some 0:=by
 rw[List.getLast?_eq_getElem?,hm,Nat.add_sub_cancel,hd]
 simpa using h
end
theorem U4 {rows:List Nat} {b g n c:Nat} {w:Bool} {H:aA} {lo:Nat} (hr:aQ H b g=some (rows.map uV,1,w)) (hn:n≤rows.length) (hc:n≤c) (Bf:n≤70368744177664) (hd:∀d∈rows.take n,d<4294967296) :
  qX 182 [.ref b g 0 n c] lo H fun r H'=>H'=H∧∃k,k≤n∧r = .ref b g 0 k c∧rows.take k=aC 4294967296 (val 4294967296 (rows.take n)):=by
 refine qX.walk ⟨true,false⟩ wY (Nat.le_of_ble_eq_true rfl) ?_
 simp only[tF,qC,VX,Nat.reduceEqDiff,Nat.reduceAdd]
 refine aY (fun(k:Nat) ρ H'=>k≤n∧H'=H∧val 4294967296 (rows.take k)=val 4294967296 (rows.take n)∧ρ 0 = .ref b g 0 k c) (fun k=>k) n ⟨Nat.le_refl _,rfl,rfl,rfl⟩ ?_
 rintro k ρ H' ⟨hk,rfl,hv,h0⟩
 have e0:oG (.ref b g 0 k c) H'=some (VI k):=gK hr
 have done:(rows.take k).getLast? ≠ some 0→rows.take k=aC 4294967296 (val 4294967296 (rows.take n)):=fun eW=>by
  rw[←hv,JC (by decide) (fun d h=>hd d ?_) eW]
  exact(List.take_sublist_take_left hk).mem h
 rcases Nat.eq_zero_or_pos k with hz | hp
 ·subst hz
  simp only[eJ,h0,e0,Int.reduceLT,Int.natCast_zero,VX,Nat.reduceEqDiff,Nat.reduceAdd]
  exact⟨0,hk,rfl,done (by simp)⟩
 ·obtain⟨m,rfl⟩:∃m,k=m+1:=⟨k-1,by omega⟩
  obtain⟨d,Wf⟩:∃d,rows[m]? = some d:=⟨_,List.getElem?_eq_getElem (by omega)⟩
  have A7:(0:Int)<((m+1:Nat):Int):=by omega
  have w1:IntKind.i64.wrap (((m+1:Nat):Int)-1)=(m:Int):=by rw[wrap64 (by omega) (by omega)];omega
  have e1:bE 1 (.ref b g 0 (m+1) c) (VI m) H'=some (.ptr b g m 0):=by rw[bB hr (by omega),Nat.zero_add]
  have e2:=gT hr Wf
  by_cases BD:(d:Int)=0
  ·have hd1:d=0:=by omega
   subst hd1
   have e3:Ei 1 (.ref b g 0 (m+1) c) none (some (VI m)) none H'=some (.ref b g 0 m c):=xA hr (by omega)
   simp only[eJ,h0,e0,A7,w1,e1,e2,e3,BD,VX,Nat.reduceEqDiff,Nat.reduceAdd]
   refine⟨m,by omega,by omega,?_,rfl⟩
   rw[←hv,aU Wf,Nat.mul_zero,Nat.add_zero]
  ·simp only[eJ,h0,e0,A7,w1,e1,e2,BD,VX,Nat.reduceEqDiff,Nat.reduceAdd]
   refine⟨m+1,hk,rfl,done (MR (m:=m) (d:=d) (by rw[List.length_take];omega) ?_ (by omega))⟩
   rw[List.getElem?_take_of_lt (by omega)]
   exact Wf
theorem Uy (ds:List Nat) (t:TK) {lo:Nat} {H:aA} (h:∀d∈ds,d<4294967296) (hlen:ds.length≤70368744177664) :
  qX 182 [.tree (ds.map uV) t] lo H fun r H'=>H'=H∧∃t',(t'=t∨t' = .op)∧r = .tree ((aC 4294967296 (val 4294967296 ds)).map uV) t':=by
 refine qX.walk ⟨true,false⟩ wY (Nat.le_of_ble_eq_true rfl) ?_
 simp only[tF,qC,VX,Nat.reduceEqDiff,Nat.reduceAdd]
 refine aY (fun(s:List Nat×TK) ρ H'=>(∀d∈s.1,d<4294967296)∧val 4294967296 s.1=val 4294967296 ds∧s.1.length≤ds.length∧H'=H∧(s.2=t∨s.2 = .op)∧ρ 0 = .tree (s.1.map uV) s.2) (fun s=>s.1.length) (ds,t) ⟨h,rfl,Nat.le_refl _,rfl,.inl rfl,rfl⟩ ?_
 rintro⟨xs,t'⟩ ρ H' ⟨hx,hv,hl,rfl,ht,h0⟩
 simp only at hx hv hl ht h0
 have done:xs.getLast? ≠ some 0→xs=aC 4294967296 (val 4294967296 ds):=fun eW=>by rw[←hv,JC (by decide) hx eW]
 rcases Nat.eq_zero_or_pos xs.length with hz | hp
 ·have hxn:xs=[]:=List.length_eq_zero_iff.1 hz
  subst hxn
  simp only[eJ,h0,Int.reduceLT,Int.natCast_zero,VX,Nat.reduceEqDiff,Nat.reduceAdd]
  exact⟨t',ht,by rw[←done (by simp)];rfl⟩
 ·obtain⟨m,hm⟩:∃m,xs.length=m+1:=⟨xs.length-1,by omega⟩
  obtain⟨d,hd⟩:∃d,xs[m]? = some d:=⟨_,List.getElem?_eq_getElem (by omega)⟩
  have A7:(0:Int)<((m+1:Nat):Int):=by omega
  have w1:IntKind.i64.wrap (((m+1:Nat):Int)-1)=(m:Int):=by rw[wrap64 (by omega) (by omega)];omega
  have e1:=aM (f:=uV) (t:=t') (H:=H') (size:=1) (k := .i64) hd rfl
  by_cases BD:(d:Int)=0
  ·have hd1:d=0:=by omega
   subst hd1
   have e2:=Gw (f:=uV) (size:=1) (t:=t') (H:=H') (k2 := .i64) (xs:=xs) (h:=m) PY (by omega) (by omega)
   have Ps:xs=xs.take m++[0]:=by
    have:=List.take_append_drop m xs
    have h3:=(List.getElem?_eq_some_iff.1 hd)
    rw[List.drop_eq_getElem_cons h3.1,h3.2,List.drop_of_length_le (by omega)] at this
    exact this.symm
   simp only[eJ,h0,hm,A7,w1,e1,e2,BD,VX,Nat.reduceEqDiff,Nat.reduceAdd]
   refine⟨(xs.take m,.op),by simp only[List.length_take];omega,fun d hd=>hx d (List.mem_of_mem_take hd),?_,by simp only[List.length_take];omega,.inr rfl,rfl⟩
   rw[←hv]
   conv=>rhs;rw[Ps]
   rw[qB]
   simp
  ·simp only[eJ,h0,hm,A7,w1,e1,BD,VX,Nat.reduceEqDiff,Nat.reduceAdd]
   exact⟨t',ht,by rw[←done (MR hm hd (by omega))]⟩
theorem pG {rows:List Nat} {b g n c:Nat} {w:Bool} {H:aA} {K:VV→aA→Prop} {m lo:Nat} (hr:aQ H b g=some (rows.map uV,1,w)) (hn:n≤rows.length) (hc:n≤c) (Bf:n≤70368744177664) (hd:∀d∈rows.take n,d<4294967296) (hm:val 4294967296 (rows.take n)=m)
  (hk:∀k,k≤n→rows.take k=aC 4294967296 m→K (.ref b g 0 k c) H):dD 182 [.ref b g 0 n c] lo H K:=by
 refine nN rfl ((U4 hr hn hc Bf hd).mono ?_)
 rintro r H' ⟨rfl,k,h1,rfl,h2⟩
 rw[hm] at h2
 exact hk k h1 h2
theorem Ix {ds:List Nat} {t:TK} {lo:Nat} {H:aA} {K:VV→aA→Prop} {m:Nat} (h:∀d∈ds,d<4294967296) (hlen:ds.length≤70368744177664) (hm:val 4294967296 ds=m) (hk:∀t',(t'=t∨t' = .op)→K (.tree ((aC 4294967296 m).map uV) t') H):dD 182 [.tree (ds.map uV) t] lo H K:=by
 refine nN rfl ((Uy ds t h hlen).mono ?_)
 rintro r H' ⟨rfl,t',h1,rfl⟩
 rw[hm]
 exact hk t' h1
theorem YO {H:aA} {m:Nat} {t:TK} (ht:t = .cl 1∨t = .op):fz depth H (.tree ((aC 4294967296 m).map uV) t)=some (bD m):=by
 rcases ht with rfl | rfl
 ·exact ZW (dQ fun _=>rfl)
 ·exact aG (bH m)
end Go.PM
namespace Go.PM
theorem kT (n:Nat) (h:n<18446744073709551616):TC 101 [VK .u64 n] (bD n):=by
 refine TC.walk ⟨true,false⟩ Md rfl (Nat.le_of_ble_eq_true rfl) rfl (oB _) ?_
 have e1:=Ws (H:=[]) (z:=[.int .u32 0]) (u:=uV (n % 4294967296)) (v:=uV (n / 4294967296 % 4294967296)) rfl rfl rfl rfl rfl
 have hm:∀d∈[n % 4294967296,n / 4294967296 % 4294967296],d<4294967296:=by
  intro d hd
  simp only[List.mem_cons,List.not_mem_nil,or_false] at hd
  rcases hd with rfl | rfl<;>exact Nat.mod_lt _ (by decide)
 have hv:val 4294967296 [n % 4294967296,n / 4294967296 % 4294967296]=n:=by
  simp only[val]
  have:=Nat.mod_add_div n 4294967296
  rw[Nat.mod_eq_of_lt (show n / 4294967296<4294967296 by omega)]
  omega
 simp only[II,DY,wrap32,qP,e1,VX,Nat.reduceEqDiff,Nat.reduceAdd]
 refine Ix (ds:=[n % 4294967296,n / 4294967296 % 4294967296]) (t := .cl 1) hm (by show 2≤70368744177664;decide) hv fun t' ht => ?_
 simp only[VX,Nat.reduceEqDiff,Nat.reduceAdd]
 exact YO ht
theorem zC (n:Nat) (hn:(aC 4294967296 n).length≤17592186044416):TC 218 [bD n] (if (aC 4294967296 n).length≤2 then .eQ [VK .u64 n,VB true] else .eQ [VK .u64 0,VB false]):=by
 refine TC.walk ⟨true,false⟩ Du rfl (Nat.le_of_ble_eq_true rfl) (by simp[aJ,bH]) (by split<;>rfl) ?_
 have hv:=bW (b:=4294967296) (by decide) n
 have hl:=eE (b:=4294967296) (by decide) n
 unfold bD yX
 generalize aC 4294967296 n=ds at *
 have w1:IntKind.i64.wrap ((ds.length:Int)-1)=(ds.length:Int)-1:=wrap64 (by omega) (by omega)
 simp only[zF,vJ,w1,VX,Nat.reduceEqDiff,Nat.reduceAdd]
 by_cases h2:ds.length≤2
 ·rw[if_pos h2]
  have c2:(ds.length:Int)≤2:=by omega
  refine aY (fun(j:Nat) ρ H=>j≤ds.length∧H=[]∧ρ 0=bL uV ds∧ρ 4=VK .u64 (val 4294967296 (ds.drop j):Nat)∧ρ 5=VI ((j:Int)-1)) (fun j=>j) ds.length ⟨Nat.le_refl _,rfl,rfl,by rw[List.drop_length];rfl,rfl⟩ ?_
  rintro j ρ H ⟨hj,rfl,g0,g4,g5⟩
  by_cases hz:(0:Int)≤(j:Int)-1
  ·obtain⟨i,rfl⟩:∃i,j=i+1:=⟨j-1,by omega⟩
   obtain⟨x,hx⟩:∃x,ds[i]? = some x:=⟨_,List.getElem?_eq_getElem (by omega)⟩
   have Kd:((i+1:Nat):Int)-1=(i:Int):=by omega
   rw[Kd] at g5 hz
   have e1:=aM (f:=uV) (t := .op) (H:=[]) (size:=1) (k := .i64) hx rfl
   have lx:=hl x (List.mem_of_getElem? hx)
   have ld:=mO (b:=4294967296) (xs:=ds.drop (i+1)) fun d hd=>hl d (List.mem_of_mem_drop hd)
   have hle:(ds.drop (i+1)).length≤1:=by rw[List.length_drop];omega
   have hpw:4294967296^(ds.drop (i+1)).length≤4294967296^1:=Nat.pow_le_pow_right (by decide) hle
   rw[Nat.pow_one] at hpw
   have w2:IntKind.i64.wrap ((i:Int)-1)=(i:Int)-1:=wrap64 (by omega) (by omega)
   have w3:IntKind.u64.wrap (x:Int)=(x:Int):=eH _ (by omega)
   have w4:IntKind.u64.wrap (((val 4294967296 (ds.drop (i+1))*4294967296:Nat):Int)+(x:Int))=((val 4294967296 (ds.drop i):Nat):Int):=by
    rw[qG hx,←Int.natCast_add,eH _ (by omega)]
    congr 1
    omega
   have w5:=B7 (val 4294967296 (ds.drop (i+1))) .u64 (by omega)
   simp only[jS,g0,g4,g5,hz,c2,e1,w2,w3,w4,w5,VX,Nat.reduceEqDiff,Nat.reduceAdd]
   exact⟨i,by omega,by omega,by (repeat' apply And.intro)<;>first | rfl | trivial⟩
  ·have Qq:j=0:=by omega
   subst Qq
   rw[List.drop_zero,hv] at g4
   simp only[jS,g0,g4,g5,hz,c2,VX,Nat.reduceEqDiff,Nat.reduceAdd]
   exact aG rfl
 ·rw[if_neg h2]
  have c2:¬(ds.length:Int)≤2:=by omega
  have c3:(0:Int)≤(ds.length:Int)-1:=by omega
  refine aY (fun(j:Nat) ρ H=>H=[]∧ρ 0=bL uV ds∧ρ 4=VK .u64 0∧ρ 5=VI ((ds.length:Int)-1)) (fun j=>j) 0 ⟨rfl,rfl,rfl,rfl⟩ ?_
  rintro j ρ H ⟨rfl,g0,g4,g5⟩
  simp only[jS,g0,g4,g5,c2,c3,VX,Nat.reduceEqDiff,Nat.reduceAdd]
  exact aG rfl
theorem iP (a b:Nat) (ha:(aC 4294967296 a).length≤17592186044416) (hb:(aC 4294967296 b).length≤17592186044416):TC 170 [bD a,bD b] (VI (dY a b)):=by
 refine TC.walk ⟨true,false⟩ Fb rfl (Nat.le_of_ble_eq_true rfl) (by simp[aJ,bH]) rfl ?_
 have fin:∀ {x:Int},x=dY a b→fz depth [] (VI x)=some (VI (dY a b)):=fun h=>by rw[h];exact aG rfl
 unfold bD yX
 by_cases hl:(((aC 4294967296 a).length:Nat):Int)=(((aC 4294967296 b).length:Nat):Int)
 ·have A5:(aC 4294967296 a).length=(aC 4294967296 b).length:=by omega
  have w1:IntKind.i64.wrap ((((aC 4294967296 b).length:Nat):Int)-1)=(((aC 4294967296 b).length:Nat):Int)-1:=wrap64 (by omega) (by omega)
  simp only[pT,nL,hl,w1,VX,Nat.reduceEqDiff,Nat.reduceAdd]
  refine aY (fun(j:Nat) ρ H=>j≤(aC 4294967296 b).length∧H=[]∧(aC 4294967296 a).drop j=(aC 4294967296 b).drop j∧ρ 0=bL uV (aC 4294967296 a)∧ρ 1=bL uV (aC 4294967296 b)∧ρ 5=VI ((j:Int)-1)) (fun j=>j) (aC 4294967296 b).length ⟨Nat.le_refl _,rfl,by rw[List.drop_length,←A5,List.drop_length],rfl,rfl,rfl⟩ ?_
  rintro j ρ H ⟨hj,rfl,hd,h0,h1,h5⟩
  by_cases hz:(0:Int)≤(j:Int)-1
  ·obtain⟨i,rfl⟩:∃i,j=i+1:=⟨j-1,by omega⟩
   obtain⟨x,hx⟩:∃x,(aC 4294967296 a)[i]? = some x:=⟨_,List.getElem?_eq_getElem (by omega)⟩
   obtain⟨y,hy⟩:∃y,(aC 4294967296 b)[i]? = some y:=⟨_,List.getElem?_eq_getElem (by omega)⟩
   have Kd:((i+1:Nat):Int)-1=(i:Int):=by omega
   have e1:=aM (f:=uV) (t := .op) (H:=[]) (size:=1) (k := .i64) hx rfl
   have e2:=aM (f:=uV) (t := .op) (H:=[]) (size:=1) (k := .i64) hy rfl
   rw[Kd] at h5 hz
   have w2:IntKind.i64.wrap ((i:Int)-1)=(i:Int)-1:=wrap64 (by omega) (by omega)
   by_cases AI:(x:Int)=(y:Int)
   ·simp only[jG,h0,h1,h5,hz,e1,e2,AI,w2,VX,Nat.reduceEqDiff,Nat.reduceAdd]
    have aaM:x=y:=by omega
    subst aaM
    refine⟨i,by omega,by omega,?_⟩
    obtain⟨g1,g2⟩:=List.getElem?_eq_some_iff.1 hx
    obtain⟨g3,g4⟩:=List.getElem?_eq_some_iff.1 hy
    rw[List.drop_eq_getElem_cons g1,List.drop_eq_getElem_cons g3,g2,g4,hd]
    exact⟨rfl,rfl⟩
   ·by_cases aX:(x:Int)<(y:Int)
    ·simp only[jG,h0,h1,h5,hz,e1,e2,AI,aX,VX,Nat.reduceEqDiff,Nat.reduceAdd]
     refine fin ?_
     have:=Cm (eE (by decide) a) A5 hx hy hd (by omega)
     rw[bW (by decide),bW (by decide)] at this
     simp[dY,this]
    ·simp only[jG,h0,h1,h5,hz,e1,e2,AI,aX,VX,Nat.reduceEqDiff,Nat.reduceAdd]
     refine fin ?_
     have:=Cm (eE (by decide) b) A5.symm hy hx hd.symm (by omega)
     rw[bW (by decide),bW (by decide)] at this
     rw[dY,if_neg (by omega),if_neg (by omega)]
  ·have Qq:j=0:=by omega
   subst Qq
   simp only[jG,h0,h1,h5,hz,VX,Nat.reduceEqDiff,Nat.reduceAdd]
   refine fin ?_
   have:=NJ (b:=4294967296) (by decide) (by simpa using hd)
   subst this
   simp[dY]
 ·by_cases aX:(((aC 4294967296 a).length:Nat):Int)<(((aC 4294967296 b).length:Nat):Int)
  ·simp only[pT,nL,hl,aX,VX,Nat.reduceEqDiff,Nat.reduceAdd]
   refine fin ?_
   have:=Cd (b:=4294967296) (by decide) (m:=a) (n:=b) (by omega)
   simp[dY,this]
  ·simp only[pT,nL,hl,aX,VX,Nat.reduceEqDiff,Nat.reduceAdd]
   refine fin ?_
   have:=Cd (b:=4294967296) (by decide) (m:=b) (n:=a) (by omega)
   rw[dY,if_neg (by omega),if_neg (by omega)]
end Go.PM
namespace Go.PM
theorem iH {es:List VV} {g e:Nat} {w:Bool}:aQ [.row g es e w] 0 g=some (es,e,w):=bT
theorem NQ {x y:Nat} {ρ:cR} {Q:VQ} (hx:(aC 4294967296 x).length≤17592186044416) (hl:(aC 4294967296 y).length≤(aC 4294967296 x).length) (h0:ρ 0=bD x) (h1:ρ 1=bD y) (h5:ρ 5 = .ref 0 0 0 ((aC 4294967296 x).length+1) ((aC 4294967296 x).length+1)) (h6:ρ 6=VK .u64 0) (h20:ρ 20=VI (aC 4294967296 x).length) (h21:ρ 21=VI 0)
  (hQ:∀(aW:cR) (outs:List Nat) (c:Nat),aW 0=bD x→aW 5 = .ref 0 0 0 ((aC 4294967296 x).length+1) ((aC 4294967296 x).length+1)→aW 6=VK .u64 (c:Nat)→outs.length=(aC 4294967296 x).length+1→(∀d∈outs,d<4294967296)→c≤1→x+y=val 4294967296 (outs.take (aC 4294967296 x).length)+4294967296^(aC 4294967296 x).length*c→Q (.exit 0) aW [.row 0 (outs.map uV) 1 true]) :
  VW ⟨true,false⟩ 0 (.loop jF) Q ρ [.row 0 ((List.replicate ((aC 4294967296 x).length+1) 0).map uV) 1 true]:=by
 unfold bD at h0 h1 hQ
 have vx:=bW (b:=4294967296) (by decide) x
 have vy:=bW (b:=4294967296) (by decide) y
 have lx:=eE (b:=4294967296) (by decide) x
 have ly:=eE (b:=4294967296) (by decide) y
 generalize aC 4294967296 x=xs at *
 generalize aC 4294967296 y=ys at *
 refine aY (fun(s:Nat×List Nat×Nat) ρ H=>s.1≤xs.length∧H=[.row 0 (s.2.1.map uV) 1 true]∧s.2.1.length=xs.length+1∧(∀d∈s.2.1,d<4294967296)∧s.2.2≤1∧val 4294967296 (xs.take s.1)+val 4294967296 (ys.take s.1)=val 4294967296 (s.2.1.take s.1)+4294967296^s.1*s.2.2 ∧
  ρ 0=yX xs∧ρ 1=yX ys∧ρ 5 = .ref 0 0 0 (xs.length+1) (xs.length+1)∧ρ 6=VK .u64 s.2.2∧ρ 20=VI xs.length∧ρ 21=VI s.1) (fun s=>xs.length-s.1) (0,List.replicate (xs.length+1) 0,0) ?_ ?_
 ·exact⟨Nat.zero_le _,rfl,by simp,xP (by decide) _,by simp,by simp[val],h0,h1,h5,h6,h20,h21⟩
 ·rintro⟨i,outs,c⟩ ρ H ⟨hi,rfl,iF,jQ,hc,hv,g0,g1,g5,g6,g20,g21⟩
  simp only at hi iF jQ hc hv g6 g21
  by_cases dA:(i:Int)<(xs.length:Int)
  ·obtain⟨a,ha⟩:∃a,xs[i]? = some a:=⟨_,List.getElem?_eq_getElem (by omega)⟩
   have la:=lx a (List.mem_of_getElem? ha)
   have e1:=aM (f:=uV) (t := .op) (H:=[.row 0 (outs.map uV) 1 true]) (size:=1) (k := .i64) ha rfl
   have w1:IntKind.u64.wrap (a:Int)=(a:Int):=eH _ (by omega)
   have w2:IntKind.u64.wrap ((c:Int)+(a:Int))=((c+a:Nat):Int):=by rw[←Int.natCast_add];exact eH _ (by omega)
   have wi:IntKind.i64.wrap ((i:Int)+1)=((i+1:Nat):Int):=wrapN (i+1) (by omega) (by omega)
   have e3:=bB (H:=[.row 0 (outs.map uV) 1 true]) (b:=0) (g:=0) (o:=0) (n:=xs.length+1) (c:=xs.length+1) (i:=i) (k := .i64) iH (by omega)
   have e4:∀s:Nat,cQ 0 1 (.ptr 0 0 i 0) (uV s) [.row 0 (outs.map uV) 1 true]=some [.row 0 ((outs.set i s).map uV) 1 true]:=fun s=>by
    rw[fH (f:=uV) (e:=1) iH (by omega) (Nat.le_refl _) rfl rfl]
    rfl
   have step:∀b,b<4294967296→(∀d,ys[i]? = some d→d=b)→(ys.length≤i→b=0) →
     (i+1≤xs.length∧(outs.set i ((c+a+b) % 4294967296)).length=xs.length+1∧(∀d∈outs.set i ((c+a+b) % 4294967296),d<4294967296)∧(c+a+b) / 4294967296≤1∧val 4294967296 (xs.take (i+1))+val 4294967296 (ys.take (i+1))=val 4294967296 ((outs.set i ((c+a+b) % 4294967296)).take (i+1))+4294967296^(i+1)*((c+a+b) / 4294967296)):=by
    intro b hb h1 h2
    refine⟨by omega,by rw[List.length_set];exact iF,kC jQ (Nat.mod_lt _ (by decide)),by omega,?_⟩
    have hy:val 4294967296 (ys.take (i+1))=val 4294967296 (ys.take i)+4294967296^i*b:=by
     cases QV:ys[i]? with
     | some d=>rw[aU QV,h1 d QV]
     |
      none =>
      have hle:=List.getElem?_eq_none_iff.1 QV
      rw[h2 hle,iI hle,iI (by omega),Nat.mul_zero,Nat.add_zero]
    rw[aU ha,hy,dL (by omega),Nat.pow_succ]
    exact Dx hv rfl (Nat.mod_add_div _ _)
   by_cases aX:(i:Int)<(ys.length:Int)
   ·obtain⟨b,hb⟩:∃b,ys[i]? = some b:=⟨_,List.getElem?_eq_getElem (by omega)⟩
    have lb:=ly b (List.mem_of_getElem? hb)
    have e2:=aM (f:=uV) (t := .op) (H:=[.row 0 (outs.map uV) 1 true]) (size:=1) (k := .i64) hb rfl
    have w3:IntKind.u64.wrap (b:Int)=(b:Int):=eH _ (by omega)
    have w4:IntKind.u64.wrap (((c+a:Nat):Int)+(b:Int))=((c+a+b:Nat):Int):=by rw[←Int.natCast_add];exact eH _ (by omega)
    obtain⟨s1,s2,s3,s4,s5⟩:=step b lb (fun d hd=>by rw[hb] at hd;injection hd with hd;exact hd.symm) (fun h=>by omega)
    simp only[jF,g0,g1,g5,g6,g20,g21,dA,aX,e1,e2,e3,e4,w1,w2,w3,w4,wi,wrap32,qP,VX,Nat.reduceEqDiff,Nat.reduceAdd]
    exact⟨(i+1,outs.set i ((c+a+b) % 4294967296),(c+a+b) / 4294967296),by simp only;omega,s1,rfl,s2,s3,s4,s5,by (repeat' apply And.intro)<;>first | rfl | trivial⟩
   ·obtain⟨s1,s2,s3,s4,s5⟩:=step 0 (by decide) (fun d hd=>by have:=(List.getElem?_eq_some_iff.1 hd).1;omega) (fun _=>rfl)
    simp only[Nat.add_zero] at s2 s3 s4 s5
    simp only[jF,g0,g1,g5,g6,g20,g21,dA,aX,e1,e3,e4,w1,w2,wi,wrap32,qP,VX,Nat.reduceEqDiff,Nat.reduceAdd]
    exact⟨(i+1,outs.set i ((c+a) % 4294967296),(c+a) / 4294967296),by simp only;omega,s1,rfl,s2,s3,s4,s5,by (repeat' apply And.intro)<;>first | rfl | trivial⟩
  ·have rS:i=xs.length:=by omega
   subst rS
   simp only[jF,g0,g1,g5,g6,g20,g21,dA,VX,Nat.reduceEqDiff,Nat.reduceAdd]
   refine hQ _ outs c g0 g5 g6 iF jQ hc ?_
   rw[List.take_length,List.take_of_length_le (l:=ys) hl,vx,vy] at hv
   exact hv
theorem A2 (a b:Nat) (ha:(aC 4294967296 a).length≤17592186044416) (hb:(aC 4294967296 b).length≤17592186044416):TC 174 [bD a,bD b] (bD (a+b)):=by
 refine TC.walk ⟨true,false⟩ F6 rfl (Nat.le_of_ble_eq_true rfl) (by simp[aJ,bH]) (oB _) ?_
 have mk:∀n:Nat,n≤17592186044416→yK [.int .u32 0] 4 (VI ((n+1:Nat):Int)) (VI ((n+1:Nat):Int)) []=some (.ref 0 0 0 (n+1) (n+1),[.row 0 ((List.replicate (n+1) 0).map uV) 1 true]):=fun n hn=>uE (f:=uV) (x:=0) rfl (by omega) (by omega)
 have fin:∀(x y:Nat) (outs:List Nat) (c:Nat),(aC 4294967296 x).length≤17592186044416→x+y=a+b→outs.length=(aC 4294967296 x).length+1→(∀d∈outs,d<4294967296)→c≤1→x+y=val 4294967296 (outs.take (aC 4294967296 x).length)+4294967296^(aC 4294967296 x).length*c →
   bE 1 (.ref 0 0 0 ((aC 4294967296 x).length+1) ((aC 4294967296 x).length+1)) (VI ((aC 4294967296 x).length:Nat)) [.row 0 (outs.map uV) 1 true]=some (.ptr 0 0 (0+(aC 4294967296 x).length) 0) ∧
   cQ 0 1 (.ptr 0 0 (aC 4294967296 x).length 0) (uV (c % 4294967296)) [.row 0 (outs.map uV) 1 true]=some [.row 0 ((outs.set (aC 4294967296 x).length (c % 4294967296)).map uV) 1 true] ∧
   ∀lo K,(∀k,k≤(aC 4294967296 x).length+1→(outs.set (aC 4294967296 x).length (c % 4294967296)).take k=aC 4294967296 (a+b)→K (.ref 0 0 0 k ((aC 4294967296 x).length+1)) [.row 0 ((outs.set (aC 4294967296 x).length (c % 4294967296)).map uV) 1 true]) →
    dD 182 [.ref 0 0 0 ((aC 4294967296 x).length+1) ((aC 4294967296 x).length+1)] lo [.row 0 ((outs.set (aC 4294967296 x).length (c % 4294967296)).map uV) 1 true] K:=by
  intro x y outs c hx AI iF jQ hc hv
  have Fa:=kC (i:=(aC 4294967296 x).length) jQ (show c % 4294967296<4294967296 from Nat.mod_lt _ (by decide))
  have Is:val 4294967296 (outs.set (aC 4294967296 x).length (c % 4294967296))=a+b:=by
   have h1:=dL (b:=4294967296) (xs:=outs) (i:=(aC 4294967296 x).length) (d:=c % 4294967296) (by omega)
   rw[List.take_of_length_le (by rw[List.length_set];omega)] at h1
   rw[h1,Nat.mod_eq_of_lt (Nat.lt_of_le_of_lt hc (by decide)),←hv,AI]
  refine⟨bB iH (by omega),?_,?_⟩
  ·rw[fH (f:=uV) (e:=1) iH (by omega) (Nat.le_refl _) rfl rfl]
   rfl
  ·intro lo K hk
   have aaZ:(outs.set (aC 4294967296 x).length (c % 4294967296)).length=(aC 4294967296 x).length+1:=by rw[List.length_set];exact iF
   exact pG iH (by omega) (Nat.le_refl _) (by omega) (fun d hd=>Fa d (List.mem_of_mem_take hd)) (by rw[List.take_of_length_le (by omega)];exact Is) hk
 by_cases hsw:(((aC 4294967296 a).length:Nat):Int)<(((aC 4294967296 b).length:Nat):Int)
 ·have w1:IntKind.i64.wrap (((aC 4294967296 b).length:Int)+1)=(((aC 4294967296 b).length+1:Nat):Int):=wrapN _ (by omega) (by omega)
  simp only[vQ,rO,bD,hsw,w1,mk _ hb,VX,Nat.reduceEqDiff,Nat.reduceAdd]
  refine NQ (x:=b) (y:=a) hb (by omega) rfl rfl rfl rfl rfl rfl ?_
  intro aW outs c g0 g5 g6 iF jQ hc hv
  obtain⟨e1,e2,e3⟩:=fin b a outs c hb (by omega) iF jQ hc hv
  simp only[g0,g5,g6,bD,wrap32,e1,e2,VX,Nat.reduceEqDiff,Nat.reduceAdd]
  refine e3 _ _ fun k hk he => ?_
  simp only[VX,Nat.reduceEqDiff,Nat.reduceAdd]
  exact Me iH (by rw[List.length_set];omega) hk he
 ·have w1:IntKind.i64.wrap (((aC 4294967296 a).length:Int)+1)=(((aC 4294967296 a).length+1:Nat):Int):=wrapN _ (by omega) (by omega)
  simp only[vQ,rO,bD,hsw,w1,mk _ ha,VX,Nat.reduceEqDiff,Nat.reduceAdd]
  refine NQ (x:=a) (y:=b) ha (by omega) rfl rfl rfl rfl rfl rfl ?_
  intro aW outs c g0 g5 g6 iF jQ hc hv
  obtain⟨e1,e2,e3⟩:=fin a b outs c ha rfl iF jQ hc hv
  simp only[g0,g5,g6,bD,wrap32,e1,e2,VX,Nat.reduceEqDiff,Nat.reduceAdd]
  refine e3 _ _ fun k hk he => ?_
  simp only[VX,Nat.reduceEqDiff,Nat.reduceAdd]
  exact Me iH (by rw[List.length_set];omega) hk he
end Go.PM
namespace Go.PM
theorem JF {x:Int} {r:Nat} (h:x+4294967296=r) (hx:x<0) (hr:0≤x+4294967296):IntKind.u32.wrap x=(r:Int):=by rw[IntKind.wrap_u32];omega
theorem P7 (n:Nat) (hn:n≤70368744177664):yK [.int .u32 0] 4 (VI (n:Int)) (VI (n:Int)) []=some (.ref 0 0 0 n n,[.row 0 ((List.replicate n 0).map uV) 1 true]):=uE (f:=uV) (x:=0) rfl (by omega) (by omega)
theorem MH {outs:List Nat} {i d:Nat} (hi:i<outs.length):cQ 0 1 (.ptr 0 0 i 0) (uV d) [.row 0 (outs.map uV) 1 true]=some [.row 0 ((outs.set i d).map uV) 1 true]:=by
 rw[fH (f:=uV) (e:=1) iH hi (Nat.le_refl _) rfl rfl]
 rfl
theorem Bt (a b:Nat) (DN:b≤a) (ha:(aC 4294967296 a).length≤17592186044416):TC 181 [bD a,bD b] (bD (a-b)):=by
 refine TC.walk ⟨true,false⟩ F4 rfl (Nat.le_of_ble_eq_true rfl) (by simp[aJ,bH]) (oB _) ?_
 have va:=bW (b:=4294967296) (by decide) a
 have vb:=bW (b:=4294967296) (by decide) b
 have la:=eE (b:=4294967296) (by decide) a
 have lb:=eE (b:=4294967296) (by decide) b
 have hle:=dG (b:=4294967296) (by decide) DN
 unfold bD
 generalize aC 4294967296 a=xs at *
 generalize aC 4294967296 b=ys at *
 simp only[BN,yE,P7 xs.length (by omega),VX,Nat.reduceEqDiff,Nat.reduceAdd]
 refine aY (fun(s:Nat×List Nat×Nat) ρ H=>s.1≤xs.length∧H=[.row 0 (s.2.1.map uV) 1 true]∧s.2.1.length=xs.length∧(∀d∈s.2.1,d<4294967296)∧s.2.2≤1∧val 4294967296 (xs.take s.1)+4294967296^s.1*s.2.2=val 4294967296 (s.2.1.take s.1)+val 4294967296 (ys.take s.1) ∧
  ρ 0=yX xs∧ρ 1=yX ys∧ρ 5 = .ref 0 0 0 xs.length xs.length∧ρ 6=VI s.2.2∧ρ 13=VI xs.length∧ρ 14=VI s.1) (fun s=>xs.length-s.1) (0,List.replicate xs.length 0,0) ⟨Nat.zero_le _,rfl,by simp,xP (by decide) _,by simp,by simp[val],rfl,rfl,rfl,rfl,rfl,rfl⟩ ?_
 rintro⟨i,outs,l⟩ ρ H ⟨hi,rfl,iF,jQ,hc,hv,g0,g1,g5,g6,g13,g14⟩
 simp only at hi iF jQ hc hv g6 g14
 by_cases dA:(i:Int)<(xs.length:Int)
 ·obtain⟨x,hx⟩:∃x,xs[i]? = some x:=⟨_,List.getElem?_eq_getElem (by omega)⟩
  have lx:=la x (List.mem_of_getElem? hx)
  have e1:=aM (f:=uV) (t := .op) (H:=[.row 0 (outs.map uV) 1 true]) (size:=1) (k := .i64) hx rfl
  have w1:IntKind.i64.wrap (x:Int)=(x:Int):=wrapN x rfl (by omega)
  have w2:IntKind.i64.wrap ((x:Int)-(l:Int))=(x:Int)-(l:Int):=wrap64 (by omega) (by omega)
  have wi:IntKind.i64.wrap ((i:Int)+1)=((i+1:Nat):Int):=wrapN (i+1) (by omega) (by omega)
  have e3:bE 1 (.ref 0 0 0 xs.length xs.length) (VI i) [.row 0 (outs.map uV) 1 true]=some (.ptr 0 0 i 0):=by rw[bB iH (by omega),Nat.zero_add]
  have e4:∀s:Nat,cQ 0 1 (.ptr 0 0 i 0) (uV s) [.row 0 (outs.map uV) 1 true]=some [.row 0 ((outs.set i s).map uV) 1 true]:=fun s=>MH (by omega)
  have step:∀y r l':Nat,y<4294967296→r<4294967296→l'≤1→(∀d,ys[i]? = some d→d=y)→(ys.length≤i→y=0)→r+y+l=x+4294967296*l' →
    i+1≤xs.length∧(outs.set i r).length=xs.length∧(∀d∈outs.set i r,d<4294967296)∧l'≤1∧val 4294967296 (xs.take (i+1))+4294967296^(i+1)*l'=val 4294967296 ((outs.set i r).take (i+1))+val 4294967296 (ys.take (i+1)):=by
   intro y r l' _ hr A5 h1 h2 hd
   refine⟨by omega,by rw[List.length_set];exact iF,kC jQ hr,A5,?_⟩
   have hy:val 4294967296 (ys.take (i+1))=val 4294967296 (ys.take i)+4294967296^i*y:=by
    cases QV:ys[i]? with
    | some d=>rw[aU QV,h1 d QV]
    |
     none =>
     have hle:=List.getElem?_eq_none_iff.1 QV
     rw[h2 hle,iI hle,iI (by omega),Nat.mul_zero,Nat.add_zero]
   rw[aU hx,hy,dL (by omega),Nat.pow_succ]
   exact GH hv hd
  by_cases aX:(i:Int)<(ys.length:Int)
  ·obtain⟨y,hy⟩:∃y,ys[i]? = some y:=⟨_,List.getElem?_eq_getElem (by omega)⟩
   have ly:=lb y (List.mem_of_getElem? hy)
   have e2:=aM (f:=uV) (t := .op) (H:=[.row 0 (outs.map uV) 1 true]) (size:=1) (k := .i64) hy rfl
   have w3:IntKind.i64.wrap (y:Int)=(y:Int):=wrapN y rfl (by omega)
   have w4:IntKind.i64.wrap ((x:Int)-(l:Int)-(y:Int))=(x:Int)-(l:Int)-(y:Int):=wrap64 (by omega) (by omega)
   by_cases lP:(x:Int)-(l:Int)-(y:Int)<0
   ·obtain⟨r,hr⟩:∃r:Nat,r+y+l=x+4294967296:=⟨x+4294967296-l-y,by omega⟩
    have w5:IntKind.u32.wrap ((x:Int)-(l:Int)-(y:Int))=(r:Int):=JF (by omega) lP (by omega)
    obtain⟨s1,s2,s3,s4,s5⟩:=step y r 1 ly (by omega) (Nat.le_refl _) (fun d hd=>by rw[hy] at hd;injection hd with hd;exact hd.symm) (fun h=>by omega) (by omega)
    simp only[gU,g0,g1,g5,g6,g13,g14,dA,aX,lP,e1,e2,e3,e4,w1,w2,w3,w4,w5,wi,VX,Nat.reduceEqDiff,Nat.reduceAdd]
    exact⟨(i+1,outs.set i r,1),by simp only;omega,s1,rfl,s2,s3,s4,s5,by (repeat' apply And.intro)<;>first | rfl | trivial⟩
   ·obtain⟨r,hr⟩:∃r:Nat,r+y+l=x:=⟨x-l-y,by omega⟩
    have w5:IntKind.u32.wrap ((x:Int)-(l:Int)-(y:Int))=(r:Int):=by rw[IntKind.wrap_u32];omega
    obtain⟨s1,s2,s3,s4,s5⟩:=step y r 0 ly (by omega) (by omega) (fun d hd=>by rw[hy] at hd;injection hd with hd;exact hd.symm) (fun h=>by omega) (by omega)
    simp only[gU,g0,g1,g5,g6,g13,g14,dA,aX,lP,e1,e2,e3,e4,w1,w2,w3,w4,w5,wi,VX,Nat.reduceEqDiff,Nat.reduceAdd]
    exact⟨(i+1,outs.set i r,0),by simp only;omega,s1,rfl,s2,s3,s4,s5,by (repeat' apply And.intro)<;>first | rfl | trivial⟩
  ·by_cases lP:(x:Int)-(l:Int)<0
   ·obtain⟨r,hr⟩:∃r:Nat,r+l=x+4294967296:=⟨x+4294967296-l,by omega⟩
    have w5:IntKind.u32.wrap ((x:Int)-(l:Int))=(r:Int):=JF (by omega) lP (by omega)
    obtain⟨s1,s2,s3,s4,s5⟩:=step 0 r 1 (by decide) (by omega) (Nat.le_refl _) (fun d hd=>by have:=(List.getElem?_eq_some_iff.1 hd).1;omega) (fun _=>rfl) (by omega)
    simp only[gU,g0,g1,g5,g6,g13,g14,dA,aX,lP,e1,e3,e4,w1,w2,w5,wi,VX,Nat.reduceEqDiff,Nat.reduceAdd]
    exact⟨(i+1,outs.set i r,1),by simp only;omega,s1,rfl,s2,s3,s4,s5,by (repeat' apply And.intro)<;>first | rfl | trivial⟩
   ·obtain⟨r,hr⟩:∃r:Nat,r+l=x:=⟨x-l,by omega⟩
    have w5:IntKind.u32.wrap ((x:Int)-(l:Int))=(r:Int):=by rw[IntKind.wrap_u32];omega
    obtain⟨s1,s2,s3,s4,s5⟩:=step 0 r 0 (by decide) (by omega) (by omega) (fun d hd=>by have:=(List.getElem?_eq_some_iff.1 hd).1;omega) (fun _=>rfl) (by omega)
    simp only[gU,g0,g1,g5,g6,g13,g14,dA,aX,lP,e1,e3,e4,w1,w2,w5,wi,VX,Nat.reduceEqDiff,Nat.reduceAdd]
    exact⟨(i+1,outs.set i r,0),by simp only;omega,s1,rfl,s2,s3,s4,s5,by (repeat' apply And.intro)<;>first | rfl | trivial⟩
 ·have rS:i=xs.length:=by omega
  subst rS
  rw[List.take_length,List.take_of_length_le (l:=ys) hle,List.take_of_length_le (l:=outs) (by omega),va,vb] at hv
  have gF:=mO jQ
  rw[iF] at gF
  have Is:val 4294967296 outs=a-b:=by
   rcases Nat.lt_or_ge l 1 with h | h
   ·have:l=0:=by omega
    subst this
    rw[Nat.mul_zero] at hv
    omega
   ·have:l=1:=by omega
    subst this
    rw[Nat.mul_one] at hv
    omega
  simp only[gU,g0,g1,g5,g6,g13,g14,dA,VX,Nat.reduceEqDiff,Nat.reduceAdd]
  refine pG (m:=a-b) iH (by omega) (Nat.le_refl _) (by omega) (fun d hd=>jQ d (List.mem_of_mem_take hd)) (by rw[List.take_of_length_le (by omega)];exact Is) fun k hk he => ?_
  simp only[VX,Nat.reduceEqDiff,Nat.reduceAdd]
  exact Me iH (by omega) hk he
theorem O2 {P Q A B Y x c r q o y W:Nat} (Ka:A+P*Q*c=B+P*(x*Y)) (h1:r+W*q=c+(x*y+o)):A+P*Q*r+P*Q*W*q=B+P*Q*o+P*(x*(Y+Q*y)):=by
 have h2:P*Q*(r+W*q)=P*Q*(c+(x*y+o)):=by rw[h1]
 grind
theorem gM (a b:Nat) (ha:(aC 4294967296 a).length≤17592186044416) (hb:(aC 4294967296 b).length≤17592186044416):TC 180 [bD a,bD b] (bD (a*b)):=by
 refine TC.walk ⟨true,false⟩ F3 rfl (Nat.le_of_ble_eq_true rfl) (by simp[aJ,bH]) (oB _) ?_
 have va:=bW (b:=4294967296) (by decide) a
 have vb:=bW (b:=4294967296) (by decide) b
 have la:=eE (b:=4294967296) (by decide) a
 have lb:=eE (b:=4294967296) (by decide) b
 unfold bD
 generalize aC 4294967296 a=xs at *
 generalize aC 4294967296 b=ys at *
 have w0:IntKind.i64.wrap ((xs.length:Int)+(ys.length:Int))=((xs.length+ys.length:Nat):Int):=wrapN _ (by omega) (by omega)
 simp only[Bj,yY,w0,P7 (xs.length+ys.length) (by omega),VX,Nat.reduceEqDiff,Nat.reduceAdd]
 generalize hN:xs.length+ys.length=N at *
 refine aY (fun(s:Nat×List Nat) ρ H=>s.1≤xs.length∧H=[.row 0 (s.2.map uV) 1 true]∧s.2.length=N∧(∀d∈s.2,d<4294967296)∧val 4294967296 (s.2.take (s.1+ys.length))=val 4294967296 (xs.take s.1)*b ∧
  ρ 0=yX xs∧ρ 1=yX ys∧ρ 5 = .ref 0 0 0 N N∧ρ 17=yX xs∧ρ 18=VI xs.length∧ρ 19=VI s.1) (fun s=>xs.length-s.1) (0,List.replicate N 0) ⟨Nat.zero_le _,rfl,by simp,xP (by decide) _,by simp[val,List.take_replicate,oY],rfl,rfl,rfl,rfl,rfl,rfl⟩ ?_
 rintro⟨i,outs⟩ ρ H ⟨hi,rfl,iF,jQ,hv,g0,g1,g5,g17,g18,g19⟩
 simp only at hi iF jQ hv g19
 by_cases dA:(i:Int)<(xs.length:Int)
 ·obtain⟨x,hx⟩:∃x,xs[i]? = some x:=⟨_,List.getElem?_eq_getElem (by omega)⟩
  have lx:=la x (List.mem_of_getElem? hx)
  have e1:=aM (f:=uV) (t := .op) (H:=[.row 0 (outs.map uV) 1 true]) (size:=1) (k := .i64) hx rfl
  simp only[pP,g0,g1,g5,g17,g18,g19,dA,e1,VX,Nat.reduceEqDiff,Nat.reduceAdd]
  refine aY (fun(s:Nat×List Nat×Nat) ρ H=>s.1≤ys.length∧H=[.row 0 (s.2.1.map uV) 1 true]∧s.2.1.length=N∧(∀d∈s.2.1,d<4294967296)∧s.2.2<4294967296 ∧
   val 4294967296 (s.2.1.take (i+s.1))+4294967296^(i+s.1)*s.2.2=val 4294967296 (outs.take (i+s.1))+4294967296^i*(x*val 4294967296 (ys.take s.1))∧(∀j,i+s.1≤j→s.2.1[j]? = outs[j]?) ∧
   ρ 0=yX xs∧ρ 1=yX ys∧ρ 5 = .ref 0 0 0 N N∧ρ 6=VI i∧ρ 7=uV x∧ρ 8=VK .u64 s.2.2∧ρ 17=yX xs∧ρ 18=VI xs.length∧ρ 19=VI i∧ρ 24=yX ys∧ρ 25=VI ys.length∧ρ 26=VI s.1) (fun s=>ys.length-s.1) (0,outs,0) ⟨Nat.zero_le _,rfl,iF,jQ,by simp,by simp[val],fun _ _=>rfl,by (repeat' apply And.intro)<;>first | rfl | trivial⟩ ?_
  rintro⟨k,os,c⟩ Lc H ⟨hk,rfl,Mj,Mw,hc,Ka,DM,k0,k1,k5,k6,k7,k8,Fx,UN,Yf,k24,k25,k26⟩
  simp only at hk Mj Mw hc Ka DM k8 k26
  have wi:IntKind.i64.wrap ((i:Int)+1)=((i+1:Nat):Int):=wrapN (i+1) (by omega) (by omega)
  by_cases hkn:(k:Int)<(ys.length:Int)
  ·obtain⟨y,hy⟩:∃y,ys[k]? = some y:=⟨_,List.getElem?_eq_getElem (by omega)⟩
   have ly:=lb y (List.mem_of_getElem? hy)
   obtain⟨o,ho⟩:∃o,os[i+k]? = some o:=⟨_,List.getElem?_eq_getElem (by omega)⟩
   have lo:=Mw o (List.mem_of_getElem? ho)
   have W5:outs[i+k]? = some o:=by rw[←DM (i+k) (Nat.le_refl _)];exact ho
   have f1:=aM (f:=uV) (t := .op) (H:=[.row 0 (os.map uV) 1 true]) (size:=1) (k := .i64) hy rfl
   have w1:IntKind.i64.wrap ((i:Int)+(k:Int))=((i+k:Nat):Int):=wrapN _ (by omega) (by omega)
   have f2:bE 1 (.ref 0 0 0 N N) (VI ((i+k:Nat):Int)) [.row 0 (os.map uV) 1 true]=some (.ptr 0 0 (i+k) 0):=by rw[bB iH (by omega),Nat.zero_add]
   have f3:dU false 1 (.ptr 0 0 (i+k) 0) [.row 0 (os.map uV) 1 true]=some (uV o):=gT iH ho
   have f4:∀s:Nat,cQ 0 1 (.ptr 0 0 (i+k) 0) (uV s) [.row 0 (os.map uV) 1 true]=some [.row 0 ((os.set (i+k) s).map uV) 1 true]:=fun s=>MH (by omega)
   have AI:x*y≤4294967295*4294967295:=Nat.mul_le_mul (by omega) (by omega)
   have w2:IntKind.u64.wrap (x:Int)=(x:Int):=eH _ (by omega)
   have w3:IntKind.u64.wrap (y:Int)=(y:Int):=eH _ (by omega)
   have w4:IntKind.u64.wrap (o:Int)=(o:Int):=eH _ (by omega)
   have w5:IntKind.u64.wrap ((x:Int)*(y:Int))=((x*y:Nat):Int):=by rw[←Int.natCast_mul];exact eH _ (by omega)
   have w6:IntKind.u64.wrap (((x*y:Nat):Int)+(o:Int))=((x*y+o:Nat):Int):=by rw[←Int.natCast_add];exact eH _ (by omega)
   have w7:IntKind.u64.wrap ((c:Int)+((x*y+o:Nat):Int))=((c+(x*y+o):Nat):Int):=by rw[←Int.natCast_add];exact eH _ (by omega)
   have wk:IntKind.i64.wrap ((k:Int)+1)=((k+1:Nat):Int):=wrapN (k+1) (by omega) (by omega)
   simp only[pV,k0,k1,k5,k6,k7,k8,Fx,UN,Yf,k24,k25,k26,hkn,f1,f2,f3,f4,w1,w2,w3,w4,w5,w6,w7,wk,wrap32,qP,VX,Nat.reduceEqDiff,Nat.reduceAdd]
   have hq:(c+(x*y+o)) / 4294967296<4294967296:=Nat.div_lt_of_lt_mul (by omega)
   refine⟨(k+1,os.set (i+k) ((c+(x*y+o)) % 4294967296),(c+(x*y+o)) / 4294967296),by simp only;omega,by omega,rfl,by rw[List.length_set];exact Mj,kC Mw (Nat.mod_lt _ (by decide)),hq,?_,fun j hj => ?_,by (repeat' apply And.intro)<;>first | rfl | trivial⟩
   ·have h1:=Nat.mod_add_div (c+(x*y+o)) 4294967296
    rw[←Nat.add_assoc,dL (by omega),aU W5,aU hy,Nat.pow_succ]
    rw[Nat.pow_add] at Ka ⊢
    exact O2 Ka h1
   ·rw[List.getElem?_set_ne (by omega)]
    exact DM j (by omega)
  ·have hke:k=ys.length:=by omega
   subst hke
   rw[List.take_length,vb,hv] at Ka
   have w1:IntKind.i64.wrap ((i:Int)+(ys.length:Int))=((i+ys.length:Nat):Int):=wrapN _ (by omega) (by omega)
   have f2:bE 1 (.ref 0 0 0 N N) (VI ((i+ys.length:Nat):Int)) [.row 0 (os.map uV) 1 true]=some (.ptr 0 0 (i+ys.length) 0):=by rw[bB iH (by omega),Nat.zero_add]
   have f4:∀s:Nat,cQ 0 1 (.ptr 0 0 (i+ys.length) 0) (uV s) [.row 0 (os.map uV) 1 true]=some [.row 0 ((os.set (i+ys.length) s).map uV) 1 true]:=fun s=>MH (by omega)
   simp only[pV,k0,k1,k5,k6,k7,k8,Fx,UN,Yf,k24,k25,k26,hkn,f2,f4,w1,wi,wrap32,VX,Nat.reduceEqDiff,Nat.reduceAdd]
   refine⟨(i+1,os.set (i+ys.length) (c % 4294967296)),by simp only;omega,by omega,rfl,by rw[List.length_set];exact Mj,kC Mw (Nat.mod_lt _ (by decide)),?_,by (repeat' apply And.intro)<;>first | rfl | trivial⟩
   rw[show i+1+ys.length=i+ys.length+1 by omega,dL (by omega),Nat.mod_eq_of_lt hc,Ka,aU hx,Nat.add_mul,Nat.mul_assoc]
 ·have rS:i=xs.length:=by omega
  subst rS
  rw[hN,List.take_length,va,List.take_of_length_le (by omega)] at hv
  simp only[pP,g0,g1,g5,g17,g18,g19,dA,VX,Nat.reduceEqDiff,Nat.reduceAdd]
  refine pG (m:=a*b) iH (by omega) (Nat.le_refl _) (by omega) (fun d hd=>jQ d (List.mem_of_mem_take hd)) (by rw[List.take_of_length_le (by omega)];exact hv) fun k hk he => ?_
  simp only[VX,Nat.reduceEqDiff,Nat.reduceAdd]
  exact Me iH (by omega) hk he
end Go.PM
namespace Go.PM
theorem set_drop {xs:List Nat} {i d:Nat} (h:i<xs.length):(xs.set i d).drop i=d::xs.drop (i+1):=by
 rw[List.drop_eq_getElem_cons (by rw[List.length_set];exact h),List.getElem_set_self,J3 h]
theorem So (n k:Nat) (hn:n≤70368744177664) {H:aA}:yK [.int .u32 0] 4 (VI (n:Int)) (VI (n:Int)) H=some (.ref H.length 0 0 n n,H++[.row 0 ((List.replicate n 0).map uV) 1 true]):=uE (f:=uV) (x:=0) rfl (by omega) (by omega)
theorem NF {A q t r x d W:Nat} (h1:t+d*q=r*W+x):(q+W*A)*d+t=x+W*(A*d+r):=by grind
theorem Rr {A B P S W c m x q:Nat} (hv:A+P*c=B*S) (h1:m*S+W*q=x*S):A+P*(c+m*S)+P*W*q=(B+P*x)*S:=by
 have h2:P*(m*S+W*q)=P*(x*S):=by rw[h1]
 grind
theorem tL (a d:Nat) (BD:0<d) (hdW:d<4294967296) (ha:(aC 4294967296 a).length≤17592186044416):TC 183 [bD a,uV d] (.eQ [bD (a / d),uV (a % d)]):=by
 refine TC.walk ⟨true,false⟩ AP rfl (Nat.le_of_ble_eq_true rfl) (by simp[aJ,bH,aR,lS]) (by simp[gO,pM,oB,lS]) ?_
 have va:=bW (b:=4294967296) (by decide) a
 have la:=eE (b:=4294967296) (by decide) a
 unfold bD
 generalize aC 4294967296 a=xs at *
 have w0:IntKind.i64.wrap ((xs.length:Int)-1)=(xs.length:Int)-1:=wrap64 (by omega) (by omega)
 have wd:IntKind.u64.wrap (d:Int)=(d:Int):=eH _ (by omega)
 simp only[tI,qY,w0,P7 xs.length (by omega),VX,Nat.reduceEqDiff,Nat.reduceAdd]
 refine aY (fun(s:Nat×List Nat×Nat) ρ H=>s.1≤xs.length∧H=[.row 0 (s.2.1.map uV) 1 true]∧s.2.1.length=xs.length∧(∀d∈s.2.1,d<4294967296)∧s.2.2<d∧val 4294967296 (s.2.1.drop s.1)*d+s.2.2=val 4294967296 (xs.drop s.1) ∧
  ρ 0=yX xs∧ρ 1=uV d∧ρ 6 = .ref 0 0 0 xs.length xs.length∧ρ 7=VK .u64 s.2.2∧ρ 8=VI ((s.1:Int)-1)) (fun s=>s.1) (xs.length,List.replicate xs.length 0,0) ⟨Nat.le_refl _,rfl,by simp,xP (by decide) _,BD,by simp[val,List.drop_replicate],rfl,rfl,rfl,rfl,rfl⟩ ?_
 rintro⟨j,outs,r⟩ ρ H ⟨hj,rfl,iF,jQ,hr,hv,g0,g1,g6,g7,g8⟩
 simp only at hj iF jQ hr hv g7 g8
 by_cases hz:(0:Int)≤(j:Int)-1
 ·obtain⟨i,rfl⟩:∃i,j=i+1:=⟨j-1,by omega⟩
  obtain⟨x,hx⟩:∃x,xs[i]? = some x:=⟨_,List.getElem?_eq_getElem (by omega)⟩
  have lx:=la x (List.mem_of_getElem? hx)
  have Kd:((i+1:Nat):Int)-1=(i:Int):=by omega
  rw[Kd] at g8 hz
  have e1:=aM (f:=uV) (t := .op) (H:=[.row 0 (outs.map uV) 1 true]) (size:=1) (k := .i64) hx rfl
  have e3:bE 1 (.ref 0 0 0 xs.length xs.length) (VI i) [.row 0 (outs.map uV) 1 true]=some (.ptr 0 0 i 0):=by rw[bB iH (by omega),Nat.zero_add]
  have e4:∀s:Nat,cQ 0 1 (.ptr 0 0 i 0) (uV s) [.row 0 (outs.map uV) 1 true]=some [.row 0 ((outs.set i s).map uV) 1 true]:=fun s=>MH (by omega)
  have w2:IntKind.i64.wrap ((i:Int)-1)=(i:Int)-1:=wrap64 (by omega) (by omega)
  have w3:IntKind.u64.wrap (x:Int)=(x:Int):=eH _ (by omega)
  have w4:IntKind.u64.wrap (((r*4294967296:Nat):Int)+(x:Int))=((r*4294967296+x:Nat):Int):=by rw[←Int.natCast_add];exact eH _ (by omega)
  have w5:=B7 r .u64 (by omega)
  have q1:=SA (r*4294967296+x) d (by omega) BD
  have q2:=Mm (r*4294967296+x) d BD
  have hq:(r*4294967296+x) / d<4294967296:=by
   rw[Nat.div_lt_iff_lt_mul BD]
   have:(r+1)*4294967296≤d*4294967296:=Nat.mul_le_mul_right _ hr
   rw[Nat.mul_comm 4294967296 d]
   omega
  simp only[lA,g0,g1,g6,g7,g8,hz,e1,e3,e4,w2,w3,w4,w5,wd,q1,q2,wrap32,Nat.mod_eq_of_lt hq,VX,Nat.reduceEqDiff,Nat.reduceAdd]
  refine⟨(i,outs.set i ((r*4294967296+x) / d),(r*4294967296+x) % d),by simp only;omega,by omega,rfl,by rw[List.length_set];exact iF,kC jQ hq,Nat.mod_lt _ BD,?_,by (repeat' apply And.intro)<;>first | rfl | trivial⟩
  have h1:=Nat.mod_add_div (r*4294967296+x) d
  rw[set_drop (by omega),pO,qG hx,←hv]
  exact NF h1
 ·have Qq:j=0:=by omega
  subst Qq
  rw[List.drop_zero,List.drop_zero,va] at hv
  have h1:a / d=val 4294967296 outs:=by
   rw[←hv,Nat.mul_comm,Nat.mul_add_div BD,Nat.div_eq_of_lt hr,Nat.add_zero]
  have h2:a % d=r:=by
   rw[←hv,Nat.mul_comm,Nat.mul_add_mod,Nat.mod_eq_of_lt hr]
  simp only[lA,g0,g1,g6,g7,g8,hz,VX,Nat.reduceEqDiff,Nat.reduceAdd]
  refine pG (m:=a / d) iH (by omega) (Nat.le_refl _) (by omega) (fun d hd=>jQ d (List.mem_of_mem_take hd)) (by rw[List.take_of_length_le (by omega)];exact h1.symm) fun k hk he => ?_
  simp only[wrap32,Nat.mod_eq_of_lt (show r<4294967296 by omega),g7,VX,Nat.reduceEqDiff,Nat.reduceAdd]
  rw[h2]
  exact bG (d:=6) (HJ (d:=5) iH (by omega) hk he) (aH rfl)
theorem Ew {n g e:Nat} {es:List VV} {w:Bool}:aQ (List.replicate n iY.dead++[.row g es e w]) n g=some (es,e,w):=by rw[ZC];exact bT
theorem aoU {n:Nat} (xs:List Nat):wM n (xs.map uV)=true:=by
 rw[EM]
 intro x hx
 obtain⟨y,_,rfl⟩:=List.mem_map.1 hx
 rfl
theorem vI (a s:Nat) (hs:s≤31) (ha:(aC 4294967296 a).length≤17592186044416):FC 220 [bD a,VI s] fun n r L=>∃outs:List Nat,r = .ref n 0 0 ((aC 4294967296 a).length+1) ((aC 4294967296 a).length+1)∧L=[.row 0 (outs.map uV) 1 true]∧outs.length=(aC 4294967296 a).length+1∧(∀d∈outs,d<4294967296)∧val 4294967296 outs=a*2^s∧(∀d,outs[(aC 4294967296 a).length]? = some d→d<2^s):=by
 refine FC.walk ⟨true,false⟩ BI (Nat.le_of_ble_eq_true rfl) fun n => ?_
 have va:=bW (b:=4294967296) (by decide) a
 have la:=eE (b:=4294967296) (by decide) a
 unfold bD
 generalize aC 4294967296 a=xs at *
 have hS:0<2^s:=Nat.pow_pos (by decide)
 have hSW:2^s*2^(32-s)=4294967296:=by rw[←Nat.pow_add,show s+(32-s)=32 by omega]
 have w0:IntKind.i64.wrap ((xs.length:Int)+1)=((xs.length+1:Nat):Int):=wrapN _ (by omega) (by omega)
 simp only[wG,sJ,w0,So (xs.length+1) n (by omega),List.length_replicate,VX,Nat.reduceEqDiff,Nat.reduceAdd]
 refine aY (fun(t:Nat×List Nat×Nat) ρ H=>t.1≤xs.length∧H=List.replicate n .dead++[.row 0 (t.2.1.map uV) 1 true]∧t.2.1.length=xs.length+1∧(∀d∈t.2.1,d<4294967296)∧t.2.1[t.1]? = some t.2.2∧t.2.2<2^s∧val 4294967296 (t.2.1.take t.1)+4294967296^t.1*t.2.2=val 4294967296 (xs.take t.1)*2^s ∧
  ρ 1=VI s∧ρ 5 = .ref n 0 0 (xs.length+1) (xs.length+1)∧ρ 13=yX xs∧ρ 14=VI xs.length∧ρ 15=VI t.1) (fun t=>xs.length-t.1) (0,List.replicate (xs.length+1) 0,0) ⟨Nat.zero_le _,rfl,by simp,xP (by decide) _,by simp,hS,by simp[val],rfl,rfl,rfl,rfl,rfl⟩ ?_
 rintro⟨i,outs,c⟩ ρ H ⟨hi,rfl,iF,jQ,hoc,hc,hv,g1,g5,g13,g14,g15⟩
 simp only at hi iF jQ hoc hc hv g15
 by_cases dA:(i:Int)<(xs.length:Int)
 ·obtain⟨x,hx⟩:∃x,xs[i]? = some x:=⟨_,List.getElem?_eq_getElem (by omega)⟩
  have lx:=la x (List.mem_of_getElem? hx)
  have e1:=aM (f:=uV) (t := .op) (H:=List.replicate n .dead++[.row 0 (outs.map uV) 1 true]) (size:=1) (k := .i64) hx rfl
  have wx:IntKind.u64.wrap (x:Int)=(x:Int):=eH _ (by omega)
  have wi:IntKind.i64.wrap ((i:Int)+1)=((i+1:Nat):Int):=wrapN (i+1) (by omega) (by omega)
  have w5:=acB x s lx hs
  obtain⟨m,hm⟩:∃m,(x*2^s) % 4294967296=m*2^s:=by
   refine⟨x % 2^(32-s),?_⟩
   rw[←hSW,Nat.mul_comm x,Nat.mul_mod_mul_left,Nat.mul_comm]
  have hhi:(x*2^s) / 4294967296<2^s:=by
   rw[Nat.div_lt_iff_lt_mul (by decide),Nat.mul_comm (2^s)]
   exact Nat.mul_lt_mul_of_pos_right lx hS
  have aX:(x*2^s) % 4294967296<4294967296:=Nat.mod_lt _ (by decide)
  have hmm:m<2^(32-s):=by
   have:m*2^s<2^(32-s)*2^s:=by rw[←hm,Nat.mul_comm (2^(32-s)) (2^s),hSW];exact aX
   exact Nat.lt_of_mul_lt_mul_right this
  have acO:m*2^s+c<4294967296:=by
   have:(m+1)*2^s≤2^(32-s)*2^s:=Nat.mul_le_mul_right _ hmm
   rw[Nat.mul_comm (2^(32-s)),hSW,Nat.add_mul] at this
   omega
  have or1:=aaO c m s hc acO
  have e3:bE 1 (.ref n 0 0 (xs.length+1) (xs.length+1)) (VI i) (List.replicate n .dead++[.row 0 (outs.map uV) 1 true])=some (.ptr n 0 i 0):=by rw[bB Ew (by omega),Nat.zero_add]
  have e4:dU false 1 (.ptr n 0 i 0) (List.replicate n .dead++[.row 0 (outs.map uV) 1 true])=some (uV c):=gT Ew hoc
  have e5:∀(os:List Nat) (j t:Nat),j<os.length→cQ n 1 (.ptr n 0 j 0) (uV t) (List.replicate n .dead++[.row 0 (os.map uV) 1 true])=some (List.replicate n .dead++[.row 0 ((os.set j t).map uV) 1 true]):=fun os j t hj=>by
   rw[fH (f:=uV) (e:=1) Ew hj (Nat.le_refl _) rfl rfl,adF]
   rfl
  have e6:bE 1 (.ref n 0 0 (xs.length+1) (xs.length+1)) (VI ((i+1:Nat):Int)) (List.replicate n .dead++[.row 0 ((outs.set i (c+m*2^s)).map uV) 1 true])=some (.ptr n 0 (i+1) 0):=by rw[bB Ew (by omega),Nat.zero_add]
  have e7:=e5 outs i (c+m*2^s) (by omega)
  have e8:=e5 (outs.set i (c+m*2^s)) (i+1) ((x*2^s) / 4294967296) (by rw[List.length_set];omega)
  have hq:(x*2^s) / 4294967296 % 4294967296=(x*2^s) / 4294967296:=Nat.mod_eq_of_lt (by
   have:2^s≤2^31:=Nat.pow_le_pow_right (by decide) hs
   omega)
  simp only[lR,g1,g5,g13,g14,g15,dA,e1,e3,e4,e6,e7,e8,wx,wi,w5,wrap32,qP,hm,or1,hq,VX,Nat.reduceEqDiff,Nat.reduceAdd]
  refine⟨(i+1,(outs.set i (c+m*2^s)).set (i+1) ((x*2^s) / 4294967296),(x*2^s) / 4294967296),by simp only;omega,by omega,rfl,by rw[List.length_set,List.length_set];exact iF,
   kC (kC jQ (by omega)) (by
    have:2^s≤2^31:=Nat.pow_le_pow_right (by decide) hs
    omega),by rw[List.getElem?_set_self (by rw[List.length_set];omega)],hhi,?_,by (repeat' apply And.intro)<;>first | rfl | trivial⟩
  rw[List.take_set_of_le (Nat.le_refl _),dL (by omega),aU hx,Nat.pow_succ]
  have h1:=Nat.mod_add_div (x*2^s) 4294967296
  rw[hm] at h1
  exact Rr hv h1
 ·have rS:i=xs.length:=by omega
  subst rS
  rw[List.take_length,va] at hv
  have Is:val 4294967296 outs=a*2^s:=by
   have h1:=aU (b:=4294967296) hoc
   rw[List.take_of_length_le (by omega)] at h1
   rw[h1]
   exact hv
  simp only[lR,g1,g5,g13,g14,g15,dA,VX,Nat.reduceEqDiff,Nat.reduceAdd]
  exact⟨_,rfl,by simp[wO],by simp[oQ,aoU outs],outs,rfl,iF,jQ,Is,fun d hd=>by rw[hoc] at hd;injection hd with hd;omega⟩
end Go.PM
namespace Go.PM
theorem Mn {H:aA} {b b' g:Nat} {x:iY} (h:b≠b'):aQ (H.set b x) b' g=aQ H b' g:=by
 unfold aQ
 rw[List.getElem?_set_ne h]
theorem lK {H:aA} {b g e:Nat} {es lD:List VV} {w w':Bool} (h:aQ H b g=some (es,e,w)):aQ (H.set b (.row g lD e w')) b g=some (lD,e,w'):=by
 have aX:b<H.length:=by
  unfold aQ at h
  split at h
  ·rename_i hb
   exact(List.getElem?_eq_some_iff.1 hb).1
  ·cases h
 unfold aQ
 rw[List.getElem?_set_self aX]
 simp
theorem kL {H:aA} {b:Nat} {x y:iY}:(H.set b x).set b y=H.set b y:=by rw[List.set_set]
theorem tT {H:aA} {b g e:Nat} {es:List VV} {w:Bool} (h:aQ H b g=some (es,e,w)):H.set b (.row g es e w)=H:=by
 apply List.ext_getElem?
 intro i
 by_cases hi:b=i
 ·subst hi
  unfold aQ at h
  split at h
  ·rename_i hb
   split at h
   ·rename_i hg
    cases h
    rw[List.getElem?_set_self (List.getElem?_eq_some_iff.1 hb).1,hb,hg]
   ·cases h
  ·cases h
 ·rw[List.getElem?_set_ne hi]
theorem Vq {H:aA} {b g o i lo d:Nat} {pre gG post:List Nat} (hr:aQ H b g=some ((pre++gG++post).map uV,1,true)) (ho:pre.length=o) (hi:i<gG.length) (gF:lo≤b) :
  cQ lo 1 (.ptr b g (o+i) 0) (uV d) H=some (H.set b (.row g ((pre++gG.set i d++post).map uV) 1 true)):=by
 rw[fH (f:=uV) (e:=1) hr (by simp only[List.length_append];omega) gF rfl rfl,SM ho hi]
theorem QN {H:aA} {lo b g o L c b2 g2 n2 c2 t:Nat} {pre gG post vs KQ:List Nat} {w2:Bool} (hr:aQ H b g=some ((pre++gG++post).map uV,1,true)) (YE:aQ H b2 g2=some (KQ.map uV,1,w2)) (hb:b≠b2) (gF:lo≤b)
  (ho:pre.length=o) (hL:gG.length=L) (apO:L≤70368744177664) (Nc:KQ.take n2=vs) (ZA:n2≤KQ.length) (hle:n2≤L) (Th:∀d∈gG,d<4294967296) (D9:∀d∈vs,d<4294967296) (ht:t<4294967296) (uL:t*val 4294967296 vs≤val 4294967296 gG+val 4294967296 vs) :
  qX 221 [.ref b g o L c,.ref b2 g2 0 n2 c2,VK .u64 t] lo H fun r H'=>∃oX:List Nat,H'=H.set b (.row g ((pre++oX++post).map uV) 1 true)∧oX.length=L∧(∀d∈oX,d<4294967296) ∧
   ((r=VB false∧val 4294967296 oX+t*val 4294967296 vs=val 4294967296 gG)∨(r=VB true∧val 4294967296 gG<t*val 4294967296 vs∧val 4294967296 oX+t*val 4294967296 vs=val 4294967296 gG+val 4294967296 vs)):=by
 refine qX.walk ⟨true,false⟩ Hr (Nat.le_of_ble_eq_true rfl) ?_
 have CU:vs.length=n2:=by rw[←Nc,List.length_take];omega
 have wP:∀i,i<n2→KQ[i]? = vs[i]? := fun i hi=>by rw[←Nc,List.getElem?_take_of_lt hi]
 have Mj:=mO Th
 have Ka:=mO D9
 rw[hL] at Mj
 rw[CU] at Ka
 have hVL:val 4294967296 vs≤4294967296^L:=Nat.le_trans (Nat.le_of_lt Ka) (Nat.pow_le_pow_right (by decide) hle)
 have e0:∀ {K:aA} {es:List VV},aQ K b g=some (es,1,true)→oG (.ref b g o L c) K=some (VI L):=fun h=>gK h
 have e00:∀ {K:aA},aQ K b2 g2=some (KQ.map uV,1,w2)→oG (.ref b2 g2 0 n2 c2) K=some (VI n2):=fun h=>gK h
 have rd:∀(s:List Nat),s.length=L→aQ (H.set b (.row g ((pre++s++post).map uV) 1 true)) b g=some ((pre++s++post).map uV,1,true):=fun s _=>lK hr
 have rd2:∀(s:List Nat),aQ (H.set b (.row g ((pre++s++post).map uV) 1 true)) b2 g2=some (KQ.map uV,1,w2):=fun s=>by rw[Mn hb];exact YE
 have wi:∀i:Nat,i<L→IntKind.i64.wrap ((i:Int)+1)=((i+1:Nat):Int):=fun i hi=>wrapN (i+1) (by omega) (by omega)
 have back:∀(ρ:cR) (s:List Nat),s.length=L→(∀d∈s,d<4294967296)→(∀s2:List Nat,s2.length=L→(∀d∈s2,d<4294967296)→∀c,val 4294967296 s+val 4294967296 vs=val 4294967296 s2+4294967296^L*c→val 4294967296 s2+t*val 4294967296 vs=val 4294967296 gG+val 4294967296 vs)→val 4294967296 gG<t*val 4294967296 vs→ρ 0 = .ref b g o L c→ρ 1 = .ref b2 g2 0 n2 c2→ρ 7=VK .u64 0→ρ 58=VI L→ρ 59=VI 0 →
   VW ⟨true,false⟩ lo (.loop jU) (xT 2 (lF (VW ⟨true,false⟩ lo (.seq (.dX [⟨(some 6),(.mv (.const (.bool true))),none,false,[]⟩]) .ret) (AD [.tmp 6] fun r H'=>∃oX:List Nat,H'=H.set b (.row g ((pre++oX++post).map uV) 1 true)∧oX.length=L∧(∀d∈oX,d<4294967296)∧((r=VB false∧val 4294967296 oX+t*val 4294967296 vs=val 4294967296 gG)∨(r=VB true∧val 4294967296 gG<t*val 4294967296 vs∧val 4294967296 oX+t*val 4294967296 vs=val 4294967296 gG+val 4294967296 vs)))) (AD [.tmp 6] fun r H'=>∃oX:List Nat,H'=H.set b (.row g ((pre++oX++post).map uV) 1 true)∧oX.length=L∧(∀d∈oX,d<4294967296)∧((r=VB false∧val 4294967296 oX+t*val 4294967296 vs=val 4294967296 gG)∨(r=VB true∧val 4294967296 gG<t*val 4294967296 vs∧val 4294967296 oX+t*val 4294967296 vs=val 4294967296 gG+val 4294967296 vs))))) ρ (H.set b (.row g ((pre++s++post).map uV) 1 true)):=by
  intro ρ s hs Mw IM Zi g0 g1 g7 g58 g59
  refine aY (fun(u:Nat×List Nat×Nat) ρ K=>u.1≤L∧K=H.set b (.row g ((pre++u.2.1++post).map uV) 1 true)∧u.2.1.length=L∧(∀d∈u.2.1,d<4294967296)∧u.2.2≤1∧val 4294967296 (s.take u.1)+val 4294967296 (vs.take u.1)=val 4294967296 (u.2.1.take u.1)+4294967296^u.1*u.2.2∧(∀j,u.1≤j→u.2.1[j]? = s[j]?) ∧
   ρ 0 = .ref b g o L c∧ρ 1 = .ref b2 g2 0 n2 c2∧ρ 7=VK .u64 u.2.2∧ρ 58=VI L∧ρ 59=VI u.1) (fun u=>L-u.1) (0,s,0) ⟨Nat.zero_le _,rfl,hs,Mw,by simp,by simp[val],fun _ _=>rfl,g0,g1,g7,g58,g59⟩ ?_
  rintro⟨i,outs,cy⟩ Lc K ⟨hi,rfl,iF,jQ,hc,hv,DM,k0,k1,k7,k58,k59⟩
  simp only at hi iF jQ hc hv DM k7 k59
  by_cases dA:(i:Int)<(L:Int)
  ·obtain⟨x,hx⟩:∃x,outs[i]? = some x:=⟨_,List.getElem?_eq_getElem (by omega)⟩
   have lx:=jQ x (List.mem_of_getElem? hx)
   have Ud:s[i]? = some x:=by rw[←DM i (Nat.le_refl _)];exact hx
   have e1:bE 1 (.ref b g o L c) (VI i) (H.set b (.row g ((pre++outs++post).map uV) 1 true))=some (.ptr b g (o+i) 0):=bB (rd outs iF) (by omega)
   have e2:dU false 1 (.ptr b g (o+i) 0) (H.set b (.row g ((pre++outs++post).map uV) 1 true))=some (uV x):=gT (rd outs iF) (by rw[LP ho (by omega)];exact hx)
   have e3:∀d:Nat,cQ lo 1 (.ptr b g (o+i) 0) (uV d) (H.set b (.row g ((pre++outs++post).map uV) 1 true))=some (H.set b (.row g ((pre++outs.set i d++post).map uV) 1 true)):=fun d=>by
    rw[Vq (rd outs iF) ho (by omega) gF,kL]
   have e4:=e00 (rd2 outs)
   have w1:IntKind.u64.wrap (x:Int)=(x:Int):=eH _ (by omega)
   have w2:IntKind.u64.wrap ((cy:Int)+(x:Int))=((cy+x:Nat):Int):=by rw[←Int.natCast_add];exact eH _ (by omega)
   have wii:=wi i (by omega)
   have step:∀y,y<4294967296→(∀d,vs[i]? = some d→d=y)→(vs.length≤i→y=0) →
     (i+1≤L∧(outs.set i ((cy+x+y) % 4294967296)).length=L∧(∀d∈outs.set i ((cy+x+y) % 4294967296),d<4294967296)∧(cy+x+y) / 4294967296≤1∧val 4294967296 (s.take (i+1))+val 4294967296 (vs.take (i+1))=val 4294967296 ((outs.set i ((cy+x+y) % 4294967296)).take (i+1))+4294967296^(i+1)*((cy+x+y) / 4294967296))∧∀j,i+1≤j→(outs.set i ((cy+x+y) % 4294967296))[j]? = s[j]? := by
    intro y hy h1 h2
    refine⟨⟨by omega,by rw[List.length_set];exact iF,kC jQ (Nat.mod_lt _ (by decide)),by omega,?_⟩,fun j hj=>by rw[List.getElem?_set_ne (by omega)];exact DM j (by omega)⟩
    have hy':val 4294967296 (vs.take (i+1))=val 4294967296 (vs.take i)+4294967296^i*y:=by
     cases QV:vs[i]? with
     | some d=>rw[aU QV,h1 d QV]
     |
      none =>
      have hle:=List.getElem?_eq_none_iff.1 QV
      rw[h2 hle,iI hle,iI (by omega),Nat.mul_zero,Nat.add_zero]
    rw[aU Ud,hy',dL (by omega),Nat.pow_succ]
    exact Dx hv rfl (Nat.mod_add_div _ _)
   by_cases aX:(i:Int)<(n2:Int)
   ·obtain⟨y,hy⟩:∃y,vs[i]? = some y:=⟨_,List.getElem?_eq_getElem (by omega)⟩
    have ly:=D9 y (List.mem_of_getElem? hy)
    have f1:bE 1 (.ref b2 g2 0 n2 c2) (VI i) (H.set b (.row g ((pre++outs++post).map uV) 1 true))=some (.ptr b2 g2 i 0):=by rw[bB (rd2 outs) (by omega),Nat.zero_add]
    have f2:dU false 1 (.ptr b2 g2 i 0) (H.set b (.row g ((pre++outs++post).map uV) 1 true))=some (uV y):=gT (rd2 outs) (by rw[wP i (by omega)];exact hy)
    have w3:IntKind.u64.wrap (y:Int)=(y:Int):=eH _ (by omega)
    have w4:IntKind.u64.wrap (((cy+x:Nat):Int)+(y:Int))=((cy+x+y:Nat):Int):=by rw[←Int.natCast_add];exact eH _ (by omega)
    obtain⟨⟨s1,s2,s3,s4,s5⟩,s6⟩:=step y ly (fun d hd=>by rw[hy] at hd;injection hd with hd;exact hd.symm) (fun h=>by omega)
    simp only[jU,k0,k1,k7,k58,k59,dA,aX,e1,e2,e3,e4,f1,f2,w1,w2,w3,w4,wii,wrap32,qP,VX,Nat.reduceEqDiff,Nat.reduceAdd]
    exact⟨(i+1,outs.set i ((cy+x+y) % 4294967296),(cy+x+y) / 4294967296),by simp only;omega,s1,rfl,s2,s3,s4,s5,s6,by (repeat' apply And.intro)<;>first | rfl | trivial⟩
   ·obtain⟨⟨s1,s2,s3,s4,s5⟩,s6⟩:=step 0 (by decide) (fun d hd=>by have:=(List.getElem?_eq_some_iff.1 hd).1;omega) (fun _=>rfl)
    simp only[Nat.add_zero] at s2 s3 s4 s5 s6
    simp only[jU,k0,k1,k7,k58,k59,dA,aX,e1,e2,e3,e4,w1,w2,wii,wrap32,qP,VX,Nat.reduceEqDiff,Nat.reduceAdd]
    exact⟨(i+1,outs.set i ((cy+x) % 4294967296),(cy+x) / 4294967296),by simp only;omega,s1,rfl,s2,s3,s4,s5,s6,by (repeat' apply And.intro)<;>first | rfl | trivial⟩
  ·have rS:i=L:=by omega
   subst rS
   rw[List.take_of_length_le (by omega),List.take_of_length_le (by omega),List.take_of_length_le (by omega)] at hv
   simp only[jU,k0,k1,k7,k58,k59,dA,VX,Nat.reduceEqDiff,Nat.reduceAdd]
   exact⟨outs,rfl,iF,jQ,.inr ⟨Zi,IM outs iF jQ cy hv⟩⟩
 simp only[C4,AL,e0 hr,VX,Nat.reduceEqDiff,Nat.reduceAdd]
 refine aY (fun(u:Nat×List Nat×Nat×Nat) ρ K=>u.1≤L∧K=H.set b (.row g ((pre++u.2.1++post).map uV) 1 true)∧u.2.1.length=L∧(∀d∈u.2.1,d<4294967296)∧u.2.2.1<4294967296∧u.2.2.2≤1∧val 4294967296 (gG.take u.1)+4294967296^u.1*(u.2.2.1+u.2.2.2)=val 4294967296 (u.2.1.take u.1)+t*val 4294967296 (vs.take u.1)∧(∀j,u.1≤j→u.2.1[j]? = gG[j]?) ∧
  ρ 0 = .ref b g o L c∧ρ 1 = .ref b2 g2 0 n2 c2∧ρ 2=VK .u64 t∧ρ 7=VK .u64 u.2.2.1∧ρ 8=VI u.2.2.2∧ρ 13=VI L∧ρ 14=VI u.1) (fun u=>L-u.1) (0,gG,0,0) ⟨Nat.zero_le _,(tT hr).symm,hL,Th,by simp,by simp,by simp[val],fun _ _=>rfl,by (repeat' apply And.intro)<;>first | rfl | trivial⟩ ?_
 rintro⟨i,outs,cy,l⟩ ρ K ⟨hi,rfl,iF,jQ,hc,DJ,hv,DM,k0,k1,k2,k7,k8,zJ,AR⟩
 simp only at hi iF jQ hc DJ hv DM k7 k8 AR
 by_cases dA:(i:Int)<(L:Int)
 ·obtain⟨x,hx⟩:∃x,outs[i]? = some x:=⟨_,List.getElem?_eq_getElem (by omega)⟩
  have lx:=jQ x (List.mem_of_getElem? hx)
  have Ud:gG[i]? = some x:=by rw[←DM i (Nat.le_refl _)];exact hx
  have e1:bE 1 (.ref b g o L c) (VI i) (H.set b (.row g ((pre++outs++post).map uV) 1 true))=some (.ptr b g (o+i) 0):=bB (rd outs iF) (by omega)
  have e2:dU false 1 (.ptr b g (o+i) 0) (H.set b (.row g ((pre++outs++post).map uV) 1 true))=some (uV x):=gT (rd outs iF) (by rw[LP ho (by omega)];exact hx)
  have e3:∀d:Nat,cQ lo 1 (.ptr b g (o+i) 0) (uV d) (H.set b (.row g ((pre++outs++post).map uV) 1 true))=some (H.set b (.row g ((pre++outs.set i d++post).map uV) 1 true)):=fun d=>by
   rw[Vq (rd outs iF) ho (by omega) gF,kL]
  have e4:=e00 (rd2 outs)
  have wii:=wi i (by omega)
  have w1:IntKind.i64.wrap (x:Int)=(x:Int):=wrapN x rfl (by omega)
  have step:∀y c1,y<4294967296→c1=cy+t*y→(∀d,vs[i]? = some d→d=y)→(vs.length≤i→y=0) →
    c1 / 4294967296<4294967296∧IntKind.i64.wrap ((x:Int)-((c1 % 4294967296:Nat):Int)-(l:Int))=(x:Int)-((c1 % 4294967296:Nat):Int)-(l:Int)∧IntKind.i64.wrap ((x:Int)-((c1 % 4294967296:Nat):Int))=(x:Int)-((c1 % 4294967296:Nat):Int) ∧
    ∃r l',l'≤1∧((x:Int)-((c1 % 4294967296:Nat):Int)-(l:Int)<0↔l'=1)∧IntKind.u32.wrap ((x:Int)-((c1 % 4294967296:Nat):Int)-(l:Int))=((r:Nat):Int) ∧
    (i+1≤L∧(outs.set i r).length=L∧(∀d∈outs.set i r,d<4294967296)∧c1 / 4294967296<4294967296∧l'≤1∧val 4294967296 (gG.take (i+1))+4294967296^(i+1)*(c1 / 4294967296+l')=val 4294967296 ((outs.set i r).take (i+1))+t*val 4294967296 (vs.take (i+1))∧∀j,i+1≤j→(outs.set i r)[j]? = gG[j]?):=by
   intro y c1 hy hc1 h1 h2
   have hty:t*y≤4294967295*4294967295:=Nat.mul_le_mul (by omega) (by omega)
   have hm:=Nat.mod_lt c1 (show 0<4294967296 by decide)
   have hdv:=Nat.mod_add_div c1 4294967296
   have hq:c1 / 4294967296<4294967296:=Nat.div_lt_of_lt_mul (by omega)
   refine⟨hq,wrap64 (by omega) (by omega),wrap64 (by omega) (by omega),?_⟩
   obtain⟨r,l',A5,Fo,hd,hlw,lP⟩:∃r l':Nat,l'≤1∧r<4294967296∧r+c1 % 4294967296+l=x+4294967296*l'∧IntKind.u32.wrap ((x:Int)-((c1 % 4294967296:Nat):Int)-(l:Int))=((r:Nat):Int)∧((x:Int)-((c1 % 4294967296:Nat):Int)-(l:Int)<0↔l'=1):=by
    by_cases hn:(x:Int)-((c1 % 4294967296:Nat):Int)-(l:Int)<0
    ·exact⟨x+4294967296-c1 % 4294967296-l,1,by omega,by omega,by omega,JF (by omega) hn (by omega),fun _=>rfl,fun _=>hn⟩
    ·exact⟨x-c1 % 4294967296-l,0,by omega,by omega,by omega,by rw[IntKind.wrap_u32];omega,fun h=>absurd h hn,fun h=>by omega⟩
   refine⟨r,l',A5,lP,hlw,by omega,by rw[List.length_set];exact iF,kC jQ Fo,hq,A5,?_,fun j hj=>by rw[List.getElem?_set_ne (by omega)];exact DM j (by omega)⟩
   have hy':val 4294967296 (vs.take (i+1))=val 4294967296 (vs.take i)+4294967296^i*y:=by
    cases QV:vs[i]? with
    | some d=>rw[aU QV,h1 d QV]
    |
     none =>
     have hle:=List.getElem?_eq_none_iff.1 QV
     rw[h2 hle,iI hle,iI (by omega),Nat.mul_zero,Nat.add_zero]
   rw[aU Ud,hy',dL (by omega),Nat.pow_succ]
   have:=TI hv hc1 hdv.symm hd
   rw[this,Nat.mul_add,Nat.mul_left_comm t]
  by_cases aX:(i:Int)<(n2:Int)
  ·obtain⟨y,hy⟩:∃y,vs[i]? = some y:=⟨_,List.getElem?_eq_getElem (by omega)⟩
   have ly:=D9 y (List.mem_of_getElem? hy)
   have f1:bE 1 (.ref b2 g2 0 n2 c2) (VI i) (H.set b (.row g ((pre++outs++post).map uV) 1 true))=some (.ptr b2 g2 i 0):=by rw[bB (rd2 outs) (by omega),Nat.zero_add]
   have f2:dU false 1 (.ptr b2 g2 i 0) (H.set b (.row g ((pre++outs++post).map uV) 1 true))=some (uV y):=gT (rd2 outs) (by rw[wP i (by omega)];exact hy)
   have w3:IntKind.u64.wrap (y:Int)=(y:Int):=eH _ (by omega)
   have hty:t*y≤4294967295*4294967295:=Nat.mul_le_mul (by omega) (by omega)
   have w4:IntKind.u64.wrap ((t:Int)*(y:Int))=((t*y:Nat):Int):=by rw[←Int.natCast_mul];exact eH _ (by omega)
   have w5:IntKind.u64.wrap ((cy:Int)+((t*y:Nat):Int))=((cy+t*y:Nat):Int):=by rw[←Int.natCast_add];exact eH _ (by omega)
   have w6:IntKind.i64.wrap (((cy+t*y) % 4294967296:Nat):Int)=(((cy+t*y) % 4294967296:Nat):Int):=wrapN _ rfl (by omega)
   obtain⟨_,a1,a2,r,l',A5,lP,hw,s1,s2,s3,s4,s5,s6,s7⟩:=step y (cy+t*y) ly rfl (fun d hd=>by rw[hy] at hd;injection hd with hd;exact hd.symm) (fun h=>by omega)
   by_cases hn:(x:Int)-(((cy+t*y) % 4294967296:Nat):Int)-(l:Int)<0
   ·have:=lP.1 hn
    subst this
    simp only[eU,k0,k1,k2,k7,k8,zJ,AR,dA,aX,e1,e2,e3,e4,f1,f2,w1,w3,w4,w5,w6,a1,a2,hn,hw,wii,wrap32,qP,VX,Nat.reduceEqDiff,Nat.reduceAdd]
    exact⟨(i+1,outs.set i r,(cy+t*y) / 4294967296,1),by simp only;omega,s1,rfl,s2,s3,s4,s5,s6,s7,by (repeat' apply And.intro)<;>first | rfl | trivial⟩
   ·have:l'=0:=by
     have:l'≠1:=fun h=>hn (lP.2 h)
     omega
    subst this
    simp only[eU,k0,k1,k2,k7,k8,zJ,AR,dA,aX,e1,e2,e3,e4,f1,f2,w1,w3,w4,w5,w6,a1,a2,hn,hw,wii,wrap32,qP,VX,Nat.reduceEqDiff,Nat.reduceAdd]
    exact⟨(i+1,outs.set i r,(cy+t*y) / 4294967296,0),by simp only;omega,s1,rfl,s2,s3,s4,s5,s6,s7,by (repeat' apply And.intro)<;>first | rfl | trivial⟩
  ·have w6:IntKind.i64.wrap ((cy % 4294967296:Nat):Int)=((cy % 4294967296:Nat):Int):=wrapN _ rfl (by omega)
   obtain⟨_,a1,a2,r,l',A5,lP,hw,s1,s2,s3,s4,s5,s6,s7⟩:=step 0 cy (by decide) (by simp) (fun d hd=>by have:=(List.getElem?_eq_some_iff.1 hd).1;omega) (fun _=>rfl)
   by_cases hn:(x:Int)-((cy % 4294967296:Nat):Int)-(l:Int)<0
   ·have:=lP.1 hn
    subst this
    simp only[eU,k0,k1,k2,k7,k8,zJ,AR,dA,aX,e1,e2,e3,e4,w1,w6,a1,a2,hn,hw,wii,wrap32,qP,VX,Nat.reduceEqDiff,Nat.reduceAdd]
    exact⟨(i+1,outs.set i r,cy / 4294967296,1),by simp only;omega,s1,rfl,s2,s3,s4,s5,s6,s7,by (repeat' apply And.intro)<;>first | rfl | trivial⟩
   ·have:l'=0:=by
     have:l'≠1:=fun h=>hn (lP.2 h)
     omega
    subst this
    simp only[eU,k0,k1,k2,k7,k8,zJ,AR,dA,aX,e1,e2,e3,e4,w1,w6,a1,a2,hn,hw,wii,wrap32,qP,VX,Nat.reduceEqDiff,Nat.reduceAdd]
    exact⟨(i+1,outs.set i r,cy / 4294967296,0),by simp only;omega,s1,rfl,s2,s3,s4,s5,s6,s7,by (repeat' apply And.intro)<;>first | rfl | trivial⟩
 ·have rS:i=L:=by omega
  subst rS
  rw[List.take_of_length_le (by omega),List.take_of_length_le (by omega),List.take_of_length_le (by omega)] at hv
  have aaZ:=mO jQ
  rw[iF] at aaZ
  by_cases hz:l=0∧cy=0
  ·obtain⟨rfl,rfl⟩:=hz
   simp only[eU,k0,k1,k2,k7,k8,zJ,AR,dA,Int.natCast_zero,VX,Nat.reduceEqDiff,Nat.reduceAdd]
   exact⟨outs,rfl,iF,jQ,.inl (by simpa using hv.symm)⟩
  ·have T9:cy+l=1:=by
    rcases Vm hv aaZ hVL uL with h | h<;>omega
   rw[T9,Nat.mul_one] at hv
   have Zi:val 4294967296 gG<t*val 4294967296 vs:=by omega
   have fin:∀s2:List Nat,s2.length=i→(∀d∈s2,d<4294967296)→∀c,val 4294967296 outs+val 4294967296 vs=val 4294967296 s2+4294967296^i*c→val 4294967296 s2+t*val 4294967296 vs=val 4294967296 gG+val 4294967296 vs:=by
    intro s2 h2 h3 c h4
    have h5:=mO h3
    rw[h2] at h5
    exact Xw hv h4 h5 hVL uL Mj (by omega)
   have hlen:=e0 (rd outs iF)
   by_cases xX:(l:Int)=0
   ·have hcy:¬(cy:Int)=0:=by omega
    simp only[eU,k0,k1,k2,k7,k8,zJ,AR,dA,xX,hcy,hlen,VX,Nat.reduceEqDiff,Nat.reduceAdd]
    exact back _ outs iF jQ fin Zi k0 k1 (by rfl) (by rfl) (by rfl)
   ·simp only[eU,k0,k1,k2,k7,k8,zJ,AR,dA,xX,hlen,VX,Nat.reduceEqDiff,Nat.reduceAdd]
    exact back _ outs iF jQ fin Zi k0 k1 (by rfl) (by rfl) (by rfl)
end Go.PM
namespace Go.PM
theorem tR {d:Nat} {H:aA}:fz (d+1) H (.tree [] .nil)=some (bD 0):=by
 rw[Ca]
 unfold fz
 have:aR (.tree [] .nil)=false:=by simp[aR]
 simp only[this,Bool.false_eq_true,if_false]
 rfl
theorem Wk {d:Nat} {H:aA} {m:Nat} {t:TK} (ht:t = .cl 1∨t = .op):fz (d+2) H (.tree ((aC 4294967296 m).map uV) t)=some (bD m):=by
 rcases ht with rfl | rfl
 ·unfold fz
  have:aR (.tree ((aC 4294967296 m).map uV) (.cl 1))=false:=by simp[aR]
  simp only[this,Bool.false_eq_true,if_false]
  rw[mapM_pure (dQ fun _=>rfl)]
  rfl
 ·exact aH (bH m)
abbrev H3 (us ws os:List Nat):aA:=[.row 0 (us.map uV) 1 true,.row 0 (ws.map uV) 1 true,.row 0 (os.map uV) 1 true]
theorem AV {us ws os:List Nat}:aQ (H3 us ws os) 0 0=some (us.map uV,1,true):=rfl
theorem aiE {us ws os:List Nat}:aQ (H3 us ws os) 1 0=some (ws.map uV,1,true):=rfl
theorem YZ {us ws os:List Nat}:aQ (H3 us ws os) 2 0=some (os.map uV,1,true):=rfl
theorem Ug {us:List Nat} {i n N V:Nat} (hN:us.length=N) (dA:i+n<N) (hd:∀d∈us,d<4294967296) (hV:V<4294967296^n) (Au:val 4294967296 (us.drop (i+1))<V) :
  us=us.take i++(us.drop i).take (n+1)++us.drop (i+(n+1))∧(us.take i).length=i∧((us.drop i).take (n+1)).length=n+1∧val 4294967296 ((us.drop i).take (n+1))<4294967296*V∧val 4294967296 (us.drop i)=val 4294967296 ((us.drop i).take (n+1))∧val 4294967296 (us.drop (i+(n+1)))=0∧∀j,j<n+1→((us.drop i).take (n+1))[j]? = us[i+j]? := by
 obtain⟨x,hx⟩:∃x,us[i]? = some x:=⟨_,List.getElem?_eq_getElem (by omega)⟩
 have lx:=hd x (List.mem_of_getElem? hx)
 have h1:=qG (b:=4294967296) hx
 have h2:val 4294967296 (us.drop i)<4294967296*V:=by
  have:4294967296*(val 4294967296 (us.drop (i+1))+1)≤4294967296*V:=Nat.mul_le_mul_left _ Au
  omega
 have h3:=nI (b:=4294967296) (us.drop i) (n+1)
 have h4:((us.drop i).take (n+1)).length=n+1:=by rw[List.length_take,List.length_drop];omega
 rw[h4,List.drop_drop] at h3
 have h5:val 4294967296 (us.drop (i+(n+1)))=0:=by
  rcases Nat.eq_zero_or_pos (val 4294967296 (us.drop (i+(n+1)))) with h | h
  ·exact h
  ·have h6:4294967296^(n+1)*1≤4294967296^(n+1)*val 4294967296 (us.drop (i+(n+1))):=Nat.mul_le_mul_left _ h
   have h7:4294967296*V≤4294967296^(n+1):=by rw[Nat.pow_succ,Nat.mul_comm];exact Nat.mul_le_mul_right _ (by omega)
   omega
 rw[h5,Nat.mul_zero,Nat.add_zero] at h3
 refine⟨?_,by rw[List.length_take];omega,h4,by omega,h3,h5,fun j hj => ?_⟩
 ·rw[List.append_assoc,←List.drop_drop,List.take_append_drop,List.take_append_drop]
 ·rw[List.getElem?_take_of_lt hj,List.getElem?_drop]
theorem OB {x D p w:Nat} (hp:0<p) (hw:p*w=4294967296):(x+4294967296*D) / p=((D % 4294967296*4294967296+x) / p) % 4294967296+4294967296*(D / p)∨¬x<4294967296:=by
 rcases Nat.lt_or_ge x 4294967296 with hx | hx
 ·left
  have h1:(x+4294967296*D) / p / 4294967296=D / p:=by
   rw[Nat.div_div_eq_div_mul,Nat.mul_comm p,←Nat.div_div_eq_div_mul,Nat.add_mul_div_left _ _ (by decide),Nat.div_eq_of_lt hx,Nat.zero_add]
  have h2:(x+4294967296*D) / p % 4294967296=(D % 4294967296*4294967296+x) / p % 4294967296:=by
   have e:x+4294967296*D=(D % 4294967296*4294967296+x)+p*(4294967296*(w*(D / 4294967296))):=by
    have h3:=Nat.mod_add_div D 4294967296
    have h4:p*(4294967296*(w*(D / 4294967296)))=(p*w)*(4294967296*(D / 4294967296)):=by grind
    rw[h4,hw]
    omega
   rw[e,Nat.add_mul_div_left _ _ hp,Nat.add_mul_mod_self_left]
  have:=Nat.mod_add_div ((x+4294967296*D) / p) 4294967296
  rw[h1,h2] at this
  exact this.symm
 ·right
  omega
theorem Qw {x:Nat} (h0:x≠0) (hx:x<4294967296):∃s,s≤31∧TC 219 [uV x] (VI (s:Nat))∧x*2^s<4294967296:=by
 obtain⟨h1,h2,h3⟩:=Lib.bitLenAux_bounds 64 x (by omega) h0
 have h4:Lib.bitLenAux 64 x-1<32:=by
  have:2^(Lib.bitLenAux 64 x-1)<2^32:=by omega
  exact(Nat.pow_lt_pow_iff_right (by decide)).1 this
 refine⟨32-Lib.bitLenAux 64 x,by omega,?_,?_⟩
 ·have:=S9 x hx
  have e:(((32-Lib.bitLenAux 64 x:Nat)):Int)=32-(Lib.bitLen x:Int):=by unfold Lib.bitLen;omega
  rw[e]
  exact this
 ·have:2^Lib.bitLenAux 64 x*2^(32-Lib.bitLenAux 64 x)=4294967296:=by rw[←Nat.pow_add,show Lib.bitLenAux 64 x+(32-Lib.bitLenAux 64 x)=32 by omega]
  rw[←this]
  exact Nat.mul_lt_mul_of_pos_right h3 (Nat.pow_pos (by decide))
theorem TV {us ws os:List Nat} {k N s w0:Nat} {ρ:cR} {Q:VQ} (hs:s≤31) (hw:2^s*w0=4294967296) (hN:us.length=N) (hk:k≤N) (Bf:N≤70368744177664) (hd:∀d∈us,d<4294967296) (g8:ρ 8=VI s) (g9:ρ 9 = .ref 0 0 0 k N) (amT:ρ 147=VI k) (amN:ρ 148=VI 0)
  (hQ:∀(aW:cR) (Dm:List Nat),aW 9 = .ref 0 0 0 k N→aW 13=ρ 13→Dm.length=N→(∀d∈Dm,d<4294967296)→val 4294967296 (Dm.take k)=val 4294967296 (us.take k) / 2^s→Q (.exit 4) aW (H3 Dm ws os)) :
  VW ⟨true,false⟩ 0 (.loop jK) Q ρ (H3 us ws os):=by
 have hp:0<2^s:=Nat.pow_pos (by decide)
 refine aY (fun(t:Nat×List Nat) aW H=>t.1≤k∧H=H3 t.2 ws os∧t.2.length=N∧(∀d∈t.2,d<4294967296)∧(∀j,t.1≤j→t.2[j]? = us[j]?)∧val 4294967296 (t.2.take t.1)+4294967296^t.1*(val 4294967296 ((us.take k).drop t.1) / 2^s)=val 4294967296 (us.take k) / 2^s ∧
  aW 8=VI s∧aW 9 = .ref 0 0 0 k N∧aW 13=ρ 13∧aW 147=VI k∧aW 148=VI t.1) (fun t=>k-t.1) (0,us) ⟨Nat.zero_le _,rfl,hN,hd,fun _ _=>rfl,by simp[val],g8,g9,rfl,amT,amN⟩ ?_
 rintro⟨i,vs⟩ Lc H ⟨hi,rfl,CU,D9,DM,hv,k8,k9,zJ,acP,YP⟩
 simp only at hi CU D9 DM hv YP
 by_cases dA:(i:Int)<(k:Int)
 ·obtain⟨x,hx⟩:∃x,us[i]? = some x:=⟨_,List.getElem?_eq_getElem (by omega)⟩
  have hx2:vs[i]? = some x:=by rw[DM i (Nat.le_refl _)];exact hx
  have lx:=hd x (List.mem_of_getElem? hx)
  have hx3:(us.take k)[i]? = some x:=by rw[List.getElem?_take_of_lt (by omega)];exact hx
  have h1:=qG (b:=4294967296) hx3
  generalize hD:val 4294967296 ((us.take k).drop (i+1))=D at *
  have hlen:oG (.ref 0 0 0 k N) (H3 vs ws os)=some (VI k):=gK AV
  have e1:bE 1 (.ref 0 0 0 k N) (VI i) (H3 vs ws os)=some (.ptr 0 0 i 0):=by rw[bB AV (by omega),Nat.zero_add]
  have e2:dU false 1 (.ptr 0 0 i 0) (H3 vs ws os)=some (uV x):=gT AV hx2
  have e3:∀d:Nat,cQ 0 1 (.ptr 0 0 i 0) (uV d) (H3 vs ws os)=some (H3 (vs.set i d) ws os):=fun d=>by
   rw[fH (f:=uV) (e:=1) AV (by omega) (Nat.le_refl _) rfl rfl]
   rfl
  have wi:IntKind.i64.wrap ((i:Int)+1)=((i+1:Nat):Int):=wrapN (i+1) (by omega) (by omega)
  have wx:IntKind.u64.wrap (x:Int)=(x:Int):=eH _ (by omega)
  have hm:=Nat.mod_lt D (show 0<4294967296 by decide)
  have w5:=B7 (D % 4294967296) .u64 hm
  have w6:IntKind.u64.wrap (((D % 4294967296*4294967296:Nat):Int)+(x:Int))=((D % 4294967296*4294967296+x:Nat):Int):=by rw[←Int.natCast_add];exact eH _ (by omega)
  have w7:=V5 (D % 4294967296*4294967296+x) s hs
  have sd:(x+4294967296*D) / 2^s=((D % 4294967296*4294967296+x) / 2^s) % 4294967296+4294967296*(D / 2^s):=by
   rcases OB (x:=x) (D:=D) hp hw with h | h
   ·exact h
   ·exact absurd lx h
  have next:∃s':Nat×List Nat,k-s'.1<k-i∧s'.1≤k∧H3 (vs.set i (((D % 4294967296*4294967296+x) / 2^s) % 4294967296)) ws os=H3 s'.2 ws os∧s'.2.length=N∧(∀d∈s'.2,d<4294967296)∧(∀j,s'.1≤j→s'.2[j]? = us[j]?)∧val 4294967296 (s'.2.take s'.1)+4294967296^s'.1*(val 4294967296 ((us.take k).drop s'.1) / 2^s)=val 4294967296 (us.take k) / 2^s∧s'.1=i+1:=by
   refine⟨(i+1,vs.set i (((D % 4294967296*4294967296+x) / 2^s) % 4294967296)),by simp only;omega,by simp only;omega,rfl,by simp only[List.length_set];exact CU,kC D9 (Nat.mod_lt _ (by decide)),fun j hj => ?_,?_,rfl⟩
   ·simp only at hj ⊢
    rw[List.getElem?_set_ne (by omega)]
    exact DM j (by omega)
   ·simp only
    rw[dL (by omega),hD,←hv,h1,sd,Nat.pow_succ]
    generalize (D % 4294967296*4294967296+x) / 2^s % 4294967296=q
    generalize D / 2^s=E
    rw[Nat.mul_add,Nat.mul_assoc,Nat.add_assoc]
  obtain⟨s',n1,n2,n3,n4,n5,n6,n7,n8⟩:=next
  by_cases aiF:((i+1:Nat):Int)<(k:Int)
  ·obtain⟨h,hh⟩:∃h,us[i+1]? = some h:=⟨_,List.getElem?_eq_getElem (by omega)⟩
   have hh2:vs[i+1]? = some h:=by rw[DM (i+1) (by omega)];exact hh
   have hhD:D % 4294967296=h:=by
    have hh3:(us.take k)[i+1]? = some h:=by rw[List.getElem?_take_of_lt (by omega)];exact hh
    have:=qG (b:=4294967296) hh3
    rw[hD] at this
    have lh:=hd h (List.mem_of_getElem? hh)
    omega
   have f1:bE 1 (.ref 0 0 0 k N) (VI ((i+1:Nat):Int)) (H3 vs ws os)=some (.ptr 0 0 (i+1) 0):=by rw[bB AV (by omega),Nat.zero_add]
   have f2:dU false 1 (.ptr 0 0 (i+1) 0) (H3 vs ws os)=some (uV h):=gT AV hh2
   have wh:IntKind.u64.wrap (h:Int)=(h:Int):=eH _ (by omega)
   rw[hhD] at w5 w6 w7 n3
   simp only[jK,k8,k9,acP,YP,dA,aiF,hlen,e1,e2,e3,f1,f2,wi,wx,wh,w5,w6,w7,wrap32,VX,Nat.reduceEqDiff,Nat.reduceAdd]
   exact⟨s',n1,n2,n3,n4,n5,n6,n7,zJ,by rw[n8]⟩
  ·have hD0:D=0:=by
    rw[←hD,List.drop_of_length_le (by rw[List.length_take];omega)]
    rfl
   subst hD0
   have w5':cX .shl (.int .u64 0) (.int .u64 32)=some (.int .u64 0):=B7 0 .u64 (by decide)
   have w6':IntKind.u64.wrap ((0:Int)+(x:Int))=(x:Int):=by rw[Int.zero_add];exact wx
   have w7':=V5 x s hs
   simp only[Nat.zero_mod,Nat.zero_mul,Nat.zero_add] at n3
   simp only[jK,k8,k9,acP,YP,dA,aiF,hlen,e1,e2,e3,wi,wx,w5',w6',w7',wrap32,VX,Nat.reduceEqDiff,Nat.reduceAdd]
   exact⟨s',n1,n2,n3,n4,n5,n6,n7,zJ,by rw[n8]⟩
 ·have rS:i=k:=by omega
  subst rS
  rw[List.drop_of_length_le (by rw[List.length_take];omega)] at hv
  simp only[val,Nat.zero_div,Nat.mul_zero,Nat.add_zero] at hv
  simp only[jK,k8,k9,acP,YP,dA,VX,Nat.reduceEqDiff,Nat.reduceAdd]
  exact hQ _ vs k9 zJ CU D9 hv
end Go.PM
namespace Go.PM
theorem Qe {gG vs us ws os:List Nat} {n u2 u1 u0 v1 v0 N k g left:Nat} (G:tJ 4294967296 gG vs n u2 u1 u0 v1 v0) {ρ:cR} {Q:VQ} (hN:us.length=N) (YT:2≤k) (hkN:k<N) (Bf:N≤70368744177664) (Ze:us[k-2]? = some u0)
  (g9:ρ 9 = .ref 0 0 0 N N) (g11:ρ 11=VK .u64 v1) (g12:ρ 12=VK .u64 v0) (g15:ρ 15=VI k) (g17:ρ 17=VK .u64 g) (g18:ρ 18=VK .u64 left) (hh:u2*4294967296+u1=g*v1+left) (hq:val 4294967296 gG / val 4294967296 vs≤g) (hl:left<4294967296) (hgb:g<18446744073709551616)
  (hQ:∀(aW:cR) (g':Nat),val 4294967296 gG / val 4294967296 vs≤g'→g'≤val 4294967296 gG / val 4294967296 vs+1→g'<4294967296→aW 17=VK .u64 g'→aW 8=ρ 8→aW 9=ρ 9→aW 10=ρ 10→aW 11=ρ 11→aW 12=ρ 12→aW 13=ρ 13→aW 14=ρ 14→aW 15=ρ 15→Q (.exit 2) aW (H3 us ws os)) :
  VW ⟨true,false⟩ 0 (.loop fK) Q ρ (H3 us ws os):=by
 have lv1:=G.SI
 have lv0:=G.WL
 have lu0:=G.ZT
 have qlt:=G.YM
 have jO:=G.pos
 refine aY (fun(t:Nat×Nat) aW H=>H=H3 us ws os∧u2*4294967296+u1=t.1*v1+t.2∧val 4294967296 gG / val 4294967296 vs≤t.1∧t.2<4294967296∧t.1<18446744073709551616 ∧
  aW 9 = .ref 0 0 0 N N∧aW 11=VK .u64 v1∧aW 12=VK .u64 v0∧aW 15=VI k∧aW 17=VK .u64 t.1∧aW 18=VK .u64 t.2∧aW 8=ρ 8∧aW 10=ρ 10∧aW 13=ρ 13∧aW 14=ρ 14) (fun t=>4294967296-t.2) (g,left) ⟨rfl,hh,hq,hl,hgb,g9,g11,g12,g15,g17,g18,rfl,rfl,rfl,rfl⟩ ?_
 rintro⟨g,left⟩ Lc H ⟨rfl,hh,hq,hl,hgb,k9,Sv,G3,HL,Fx,UN,k8,UX,zJ,AR⟩
 simp only at hh hq hl hgb Fx UN
 have e1:bE 1 (.ref 0 0 0 N N) (VI ((k-2:Nat):Int)) (H3 us ws os)=some (.ptr 0 0 (k-2) 0):=by rw[bB AV (by omega),Nat.zero_add]
 have e2:dU false 1 (.ptr 0 0 (k-2) 0) (H3 us ws os)=some (uV u0):=gT AV Ze
 have wk:IntKind.i64.wrap ((k:Int)-2)=((k-2:Nat):Int):=wrapN _ (by omega) (by omega)
 have wu:IntKind.u64.wrap (u0:Int)=(u0:Int):=eH _ (by omega)
 have ws:=B7 left .u64 hl
 have wa:IntKind.u64.wrap (((left*4294967296:Nat):Int)+(u0:Int))=((left*4294967296+u0:Nat):Int):=by rw[←Int.natCast_add];exact eH _ (by omega)
 have wl:IntKind.u64.wrap ((left:Int)+(v1:Int))=((left+v1:Nat):Int):=by rw[←Int.natCast_add];exact eH _ (by omega)
 have same:Lc 9=ρ 9∧Lc 11=ρ 11∧Lc 12=ρ 12∧Lc 15=ρ 15:=⟨by rw[k9,g9],by rw[Sv,g11],by rw[G3,g12],by rw[HL,g15]⟩
 obtain⟨s9,s11,s12,s15⟩:=same
 have down:val 4294967296 gG / val 4294967296 vs<g→∃g',g=g'+1∧IntKind.u64.wrap ((g:Int)-1)=(g':Int)∧u2*4294967296+u1=g'*v1+(left+v1)∧val 4294967296 gG / val 4294967296 vs≤g':=by
  intro h
  have ZH:1≤g:=Nat.lt_of_le_of_lt (Nat.zero_le _) h
  obtain⟨g',rfl⟩:∃g',g=g'+1:=⟨g-1,by omega⟩
  refine⟨g',rfl,?_,?_,by omega⟩
  ·rw[show ((g'+1:Nat):Int)-1=(g':Int) by omega]
   exact eH _ (by omega)
  ·rw[hh,Nat.add_mul]
   omega
 by_cases hA:(4294967296:Int)≤(g:Int)
 ·obtain⟨g',VP,wg,Qv,JT⟩:=down (by omega)
  by_cases hB:(4294967296:Int)≤((left+v1:Nat):Int)
  ·obtain⟨c1,c2⟩:=G.broken Qv (by omega)
   simp only[fK,k9,Sv,G3,HL,Fx,UN,hA,hB,wg,wl,VX,Nat.reduceEqDiff,Nat.reduceAdd]
   exact hQ _ g' JT (G.Uc Qv (by omega) c2) c1 rfl k8 s9 UX s11 s12 zJ AR s15
  ·simp only[fK,k9,Sv,G3,HL,Fx,UN,hA,hB,wg,wl,VX,Nat.reduceEqDiff,Nat.reduceAdd]
   exact⟨(g',left+v1),by simp only;omega,Qv,JT,by simp only;omega,by simp only;omega,by rfl,by rfl,k8,UX,zJ,AR⟩
 ·have hgv:g*v0≤4294967295*4294967295:=Nat.mul_le_mul (by omega) (by omega)
  have wm:IntKind.u64.wrap ((g:Int)*(v0:Int))=((g*v0:Nat):Int):=by rw[←Int.natCast_mul];exact eH _ (by omega)
  by_cases hT:((left*4294967296+u0:Nat):Int)<((g*v0:Nat):Int)
  ·obtain⟨g',VP,wg,Qv,JT⟩:=down (G.too hh (by omega))
   by_cases hB:(4294967296:Int)≤((left+v1:Nat):Int)
   ·obtain⟨c1,c2⟩:=G.broken Qv (by omega)
    simp only[fK,k9,Sv,G3,HL,Fx,UN,hA,hB,hT,e1,e2,wk,wu,ws,wa,wm,wg,wl,VX,Nat.reduceEqDiff,Nat.reduceAdd]
    exact hQ _ g' JT (G.Uc Qv (by omega) c2) c1 rfl k8 s9 UX s11 s12 zJ AR s15
   ·simp only[fK,k9,Sv,G3,HL,Fx,UN,hA,hB,hT,e1,e2,wk,wu,ws,wa,wm,wg,wl,VX,Nat.reduceEqDiff,Nat.reduceAdd]
    exact⟨(g',left+v1),by simp only;omega,Qv,JT,by simp only;omega,by simp only;omega,by rfl,by rfl,k8,UX,zJ,AR⟩
  ·simp only[fK,k9,Sv,G3,HL,Fx,UN,hA,hT,e1,e2,wk,wu,ws,wa,wm,VX,Nat.reduceEqDiff,Nat.reduceAdd]
   exact hQ _ g hq (G.Uc hh (by omega) (by omega)) (by omega) Fx k8 s9 UX s11 s12 zJ AR s15
theorem Ig {X S S' R V q Q P w:Nat} (hs:S=q*V+S') (h:X+P*S+P*w*V*Q=R):X+P*S'+P*V*(q+w*Q)=R:=by
 subst hs
 grind
theorem Vs {CE ws US vs:List Nat} {N m n v1 v0 A s:Nat} {ρ:cR} {Q:VQ} (hN:CE.length=N) (hm:m+(n+2)=N) (Bf:N≤70368744177664) (G6:∀d∈CE,d<4294967296) (hws:ws.take (n+2)=vs) (hwl:ws.length=n+3) (CU:vs.length=n+2) (D9:∀d∈vs,d<4294967296) (f1:vs[n+1]? = some v1) (f0:vs[n]? = some v0) (jO:1≤v1)
  (hA:val 4294967296 CE=A) (Au:val 4294967296 (CE.drop m)<val 4294967296 vs) (iF:US.length=m) (jQ:∀d∈US,d<4294967296)
  (g8:ρ 8=VI s) (g9:ρ 9 = .ref 0 0 0 N N) (g10:ρ 10 = .ref 1 0 0 (n+2) (n+3)) (g11:ρ 11=VK .u64 v1) (g12:ρ 12=VK .u64 v0) (g13:ρ 13 = .ref 2 0 0 m m) (g14:ρ 14=VI ((m:Int)-1))
  (hQ:∀(aW:cR) (us os:List Nat),aW 8=VI s→aW 9 = .ref 0 0 0 N N→aW 13 = .ref 2 0 0 m m→us.length=N→(∀d∈us,d<4294967296)→os.length=m→(∀d∈os,d<4294967296)→val 4294967296 us+val 4294967296 vs*val 4294967296 os=A→val 4294967296 us<val 4294967296 vs→Q (.exit 0) aW (H3 us ws os)) :
  VW ⟨true,false⟩ 0 (.loop lW) Q ρ (H3 CE ws US):=by
 have hVb:=mO D9
 rw[CU] at hVb
 refine aY (fun(t:Nat×List Nat×List Nat) aW H=>t.1≤m∧H=H3 t.2.1 ws t.2.2∧t.2.1.length=N∧(∀d∈t.2.1,d<4294967296)∧t.2.2.length=m∧(∀d∈t.2.2,d<4294967296)∧val 4294967296 (t.2.1.drop t.1)<val 4294967296 vs∧val 4294967296 t.2.1+4294967296^t.1*val 4294967296 vs*val 4294967296 (t.2.2.drop t.1)=A ∧
  aW 8=VI s∧aW 9 = .ref 0 0 0 N N∧aW 10 = .ref 1 0 0 (n+2) (n+3)∧aW 11=VK .u64 v1∧aW 12=VK .u64 v0∧aW 13 = .ref 2 0 0 m m∧aW 14=VI ((t.1:Int)-1)) (fun t=>t.1) (m,CE,US) ⟨Nat.le_refl _,rfl,hN,G6,iF,jQ,Au,by rw[List.drop_of_length_le (by simp only;omega)];simpa[val] using hA,g8,g9,g10,g11,g12,g13,g14⟩ ?_
 rintro⟨j,us,os⟩ Lc H ⟨hj,rfl,M5,G6,iF,jQ,aX,hv,k8,k9,UX,Sv,G3,zJ,AR⟩
 simp only at hj M5 G6 iF jQ aX hv AR
 by_cases hz:(0:Int)≤(j:Int)-1
 ·obtain⟨i,rfl⟩:∃i,j=i+1:=⟨j-1,by omega⟩
  have Kd:((i+1:Nat):Int)-1=(i:Int):=by omega
  rw[Kd] at AR hz
  obtain⟨QX,AS,Mj,hsW,We,Vx,wP⟩:=Ug (n:=n+2) M5 (by omega) G6 hVb aX
  generalize Th:(us.drop i).take (n+2+1)=gG at *
  have Mw:∀d∈gG,d<4294967296:=fun d hd=>by rw[←Th] at hd;exact G6 d (List.mem_of_mem_drop (List.mem_of_mem_take hd))
  obtain⟨u2,Z4⟩:∃u2,us[i+(n+2)]? = some u2:=⟨_,List.getElem?_eq_getElem (by omega)⟩
  obtain⟨u1,X7⟩:∃u1,us[i+(n+1)]? = some u1:=⟨_,List.getElem?_eq_getElem (by omega)⟩
  obtain⟨u0,Ze⟩:∃u0,us[i+n]? = some u0:=⟨_,List.getElem?_eq_getElem (by omega)⟩
  have G:tJ 4294967296 gG vs n u2 u1 u0 v1 v0:=⟨by decide,Mw,D9,Mj,CU,by rw[wP _ (by omega)];exact Z4,by rw[wP _ (by omega)];exact X7,by rw[wP _ (by omega)];exact Ze,f1,f0,jO,hsW⟩
  have lu2:=G.ZZ
  have lu1:=G.Vp
  have lv1:=G.SI
  have qlt:=G.YM
  have Gd:=G.Gd
  have acM:oG (.ref 1 0 0 (n+2) (n+3)) (H3 us ws os)=some (VI ((n+2:Nat):Int)):=gK aiE
  have w1:IntKind.i64.wrap ((i:Int)+((n+2:Nat):Int))=((i+(n+2):Nat):Int):=by rw[←Int.natCast_add];exact wrapN _ rfl (by omega)
  have w2:IntKind.i64.wrap (((i+(n+2):Nat):Int)-1)=((i+(n+1):Nat):Int):=wrapN _ (by omega) (by omega)
  have e2:bE 1 (.ref 0 0 0 N N) (VI ((i+(n+2):Nat):Int)) (H3 us ws os)=some (.ptr 0 0 (i+(n+2)) 0):=by rw[bB AV (by omega),Nat.zero_add]
  have e1:bE 1 (.ref 0 0 0 N N) (VI ((i+(n+1):Nat):Int)) (H3 us ws os)=some (.ptr 0 0 (i+(n+1)) 0):=by rw[bB AV (by omega),Nat.zero_add]
  have l2:dU false 1 (.ptr 0 0 (i+(n+2)) 0) (H3 us ws os)=some (uV u2):=gT AV Z4
  have l1:dU false 1 (.ptr 0 0 (i+(n+1)) 0) (H3 us ws os)=some (uV u1):=gT AV X7
  have wu2:IntKind.u64.wrap (u2:Int)=(u2:Int):=eH _ (by omega)
  have wu1:IntKind.u64.wrap (u1:Int)=(u1:Int):=eH _ (by omega)
  have ws2:=B7 u2 .u64 lu2
  have wa:IntKind.u64.wrap (((u2*4294967296:Nat):Int)+(u1:Int))=((u2*4294967296+u1:Nat):Int):=by rw[←Int.natCast_add];exact eH _ (by omega)
  have q1:=SA (u2*4294967296+u1) v1 (by omega) jO
  have q2:=Mm (u2*4294967296+u1) v1 jO
  simp only[lW,k8,k9,UX,Sv,G3,zJ,AR,hz,acM,w1,w2,e1,e2,l1,l2,wu1,wu2,ws2,wa,q1,q2,VX,Nat.reduceEqDiff,Nat.reduceAdd]
  have hh:=Nat.mod_add_div (u2*4294967296+u1) v1
  have hml:=Nat.mod_lt (u2*4294967296+u1) jO
  have hdl:(u2*4294967296+u1) / v1≤u2*4294967296+u1:=Nat.div_le_self _ _
  have Kc:val 4294967296 gG / val 4294967296 vs≤(u2*4294967296+u1) / v1:=by
   have t1:=(BB (n:=n+1) (xs:=gG) Mw (by omega) (by rw[wP _ (by omega)];exact Z4) (by rw[wP _ (by omega)];exact X7)).2
   have t2:=(wS (n:=n+1) D9 CU f1).1
   rw[Nat.le_div_iff_mul_le jO]
   have t3:val 4294967296 gG / val 4294967296 vs*(v1*4294967296^(n+1))≤val 4294967296 gG / val 4294967296 vs*val 4294967296 vs:=Nat.mul_le_mul_left _ t2
   have t4:=Nat.div_mul_le_self (val 4294967296 gG) (val 4294967296 vs)
   have t5:val 4294967296 gG / val 4294967296 vs*v1*4294967296^(n+1)<(u2*4294967296+u1+1)*4294967296^(n+1):=by rw[Nat.mul_assoc];omega
   have:=Nat.lt_of_mul_lt_mul_right t5
   omega
  refine Qe (k:=i+(n+2)) G M5 (by omega) (by omega) Bf (by rw[show i+(n+2)-2=i+n by omega];exact Ze) k9 Sv G3 (by rfl) (by rfl) (by rfl) (by rw[Nat.mul_comm ((u2*4294967296+u1) / v1)];omega) Kc (by omega) (by omega) ?_
  intro Qd g' hq JT hgW r17 r8 r9 r10 r11 ZP Ys r14 r15
  have NS:Qd 15=VI ((i+(n+2):Nat):Int):=r15
  have r8':Qd 8=VI s:=r8.trans k8
  have r9':Qd 9 = .ref 0 0 0 N N:=r9.trans k9
  have aaS:Qd 10 = .ref 1 0 0 (n+2) (n+3):=r10.trans UX
  have adU:Qd 11=VK .u64 v1:=r11.trans Sv
  have Nw:Qd 12=VK .u64 v0:=ZP.trans G3
  have Pk:Qd 13 = .ref 2 0 0 m m:=Ys.trans zJ
  have Om:Qd 14=VI i:=r14.trans AR
  have w3:IntKind.i64.wrap (((i+(n+2):Nat):Int)+1)=((i+(n+3):Nat):Int):=wrapN _ (by omega) (by omega)
  have Wr:Ei 1 (.ref 0 0 0 N N) (some (VI i)) (some (VI ((i+(n+3):Nat):Int))) none (H3 us ws os)=some (.ref 0 0 i (n+3) (N-i)):=by
   rw[Wb AV (by omega) (by omega),Nat.zero_add,Nat.add_sub_cancel_left]
  simp only[r8',r9',aaS,adU,Nw,Pk,Om,NS,r17,w3,Wr,VX,Nat.reduceEqDiff,Nat.reduceAdd]
  have uL:g'*val 4294967296 vs≤val 4294967296 gG+val 4294967296 vs:=by
   have:=Nat.mul_le_mul_right (val 4294967296 vs) JT
   rw[Nat.add_mul,Nat.one_mul] at this
   have:=Nat.div_mul_le_self (val 4294967296 gG) (val 4294967296 vs)
   omega
  refine nN rfl ((QN (pre:=us.take i) (gG:=gG) (post:=us.drop (i+(n+2+1))) (L:=n+3) (o:=i) (by rw[←QX];exact AV) (aiE (us:=us) (ws:=ws) (os:=os)) (by decide) (Nat.zero_le _) AS Mj (by omega) hws (by omega) (by omega) Mw D9 hgW uL).mono ?_)
  rintro r H' ⟨oX,rfl,A5,Wq,hr⟩
  generalize Zh:us.take i++oX++us.drop (i+(n+2+1))=Dm at *
  have Fa:(H3 us ws os).set 0 (.row 0 (Dm.map uV) 1 true)=H3 Dm ws os:=rfl
  rw[Fa]
  have abG:Dm.length=N:=by rw[←Zh,List.length_append,List.length_append,AS,A5,List.length_drop];omega
  have YR:∀d∈Dm,d<4294967296:=fun d hd=>by
   rw[←Zh,List.mem_append,List.mem_append] at hd
   rcases hd with(hd | hd) | hd
   ·exact G6 d (List.mem_of_mem_take hd)
   ·exact Wq d hd
   ·exact G6 d (List.mem_of_mem_drop hd)
  have QJ:Dm.drop i=oX++us.drop (i+(n+2+1)):=by rw[←Zh,List.append_assoc,List.drop_append,List.drop_of_length_le (by omega),AS];simp
  have QU:Dm.take i=us.take i:=by rw[←Zh,List.append_assoc,List.take_append_of_le_length (by omega),List.take_of_length_le (by omega)]
  have OO:val 4294967296 (Dm.drop i)=val 4294967296 oX:=by rw[QJ,wC,Vx,Nat.mul_zero,Nat.add_zero]
  have digit:∀q:Nat,q=val 4294967296 gG / val 4294967296 vs→val 4294967296 oX=val 4294967296 gG % val 4294967296 vs →
    val 4294967296 (Dm.drop i)<val 4294967296 vs∧val 4294967296 Dm+4294967296^i*val 4294967296 vs*val 4294967296 ((os.set i q).drop i)=A:=by
   rintro q PS X3
   have YV:=Nat.mod_lt (val 4294967296 gG) Gd
   refine⟨by rw[OO,X3];exact YV,?_⟩
   have h1:=Nat.div_add_mod (val 4294967296 gG) (val 4294967296 vs)
   rw[←PS,←X3,Nat.mul_comm] at h1
   have h2:=nI (b:=4294967296) us i
   have h3:=nI (b:=4294967296) Dm i
   rw[QU,AS,OO] at h3
   rw[AS,We] at h2
   rw[set_drop (by omega),pO,h3]
   rw[h2,Nat.pow_succ] at hv
   exact Ig h1.symm hv
  have e3:∀d:Nat,bE 1 (.ref 2 0 0 m m) (VI i) (H3 Dm ws os)=some (.ptr 2 0 i 0)∧cQ 0 1 (.ptr 2 0 i 0) (uV d) (H3 Dm ws os)=some (H3 Dm ws (os.set i d)):=fun d=>by
   refine⟨by rw[bB YZ (by omega),Nat.zero_add],?_⟩
   rw[fH (f:=uV) (e:=1) YZ (by omega) (Nat.zero_le _) rfl rfl]
   rfl
  have wi:IntKind.i64.wrap ((i:Int)-1)=(i:Int)-1:=wrap64 (by omega) (by omega)
  rcases hr with⟨rfl,hr⟩ | ⟨rfl,Na,YE⟩
  ·have Cv:g'*val 4294967296 vs≤val 4294967296 gG:=by omega
   have PS:g'=val 4294967296 gG / val 4294967296 vs:=by
    have:=(Nat.le_div_iff_mul_le Gd).2 Cv
    omega
   have X3:val 4294967296 oX=val 4294967296 gG % val 4294967296 vs:=by
    have h1:=Nat.div_add_mod (val 4294967296 gG) (val 4294967296 vs)
    rw[←PS,Nat.mul_comm] at h1
    omega
   obtain⟨d1,d2⟩:=digit g' PS X3
   simp only[r8',r9',aaS,adU,Nw,Pk,Om,NS,r17,(e3 g').1,(e3 g').2,wi,wrap32,Nat.mod_eq_of_lt hgW,VX,Nat.reduceEqDiff,Nat.reduceAdd]
   exact⟨(i,Dm,os.set i g'),by simp only;omega,by omega,rfl,abG,YR,by rw[List.length_set];exact iF,kC jQ hgW,d1,d2,by (repeat' apply And.intro)<;>first | rfl | trivial⟩
  ·have V6:val 4294967296 gG / val 4294967296 vs<g':=(Nat.div_lt_iff_lt_mul Gd).2 Na
   have ZH:1≤g':=Nat.lt_of_le_of_lt (Nat.zero_le _) V6
   obtain⟨q,rfl⟩:∃q,g'=q+1:=⟨g'-1,by omega⟩
   have PS:q=val 4294967296 gG / val 4294967296 vs:=by omega
   have X3:val 4294967296 oX=val 4294967296 gG % val 4294967296 vs:=by
    have h1:=Nat.div_add_mod (val 4294967296 gG) (val 4294967296 vs)
    rw[←PS,Nat.mul_comm] at h1
    rw[Nat.add_mul,Nat.one_mul] at YE
    omega
   have wq:IntKind.u64.wrap (((q+1:Nat):Int)-1)=(q:Int):=by rw[show ((q+1:Nat):Int)-1=(q:Int) by omega];exact eH _ (by omega)
   obtain⟨d1,d2⟩:=digit q PS X3
   simp only[r8',r9',aaS,adU,Nw,Pk,Om,NS,r17,wq,(e3 q).1,(e3 q).2,wi,wrap32,Nat.mod_eq_of_lt (show q<4294967296 by omega),VX,Nat.reduceEqDiff,Nat.reduceAdd]
   exact⟨(i,Dm,os.set i q),by simp only;omega,by omega,rfl,abG,YR,by rw[List.length_set];exact iF,kC jQ (by omega),d1,d2,by (repeat' apply And.intro)<;>first | rfl | trivial⟩
 ·have Qq:j=0:=by omega
  subst Qq
  rw[List.drop_zero] at aX
  rw[Nat.pow_zero,Nat.one_mul,List.drop_zero] at hv
  simp only[lW,k8,k9,UX,Sv,G3,zJ,AR,hz,VX,Nat.reduceEqDiff,Nat.reduceAdd]
  exact hQ _ us os k8 k9 zJ M5 G6 iF jQ hv aX
end Go.PM