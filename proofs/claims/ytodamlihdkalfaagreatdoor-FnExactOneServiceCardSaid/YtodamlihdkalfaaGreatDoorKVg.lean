/- Texts of a claim, in one: part 7. -/
import Derived.Test.YtodamlihdkalfaaGreatDoorKVf
set_option linter.unusedSimpArgs false
set_option linter.unusedVariables false
namespace Go.PM
abbrev uV (d:Nat):VV := .sc (.int .u32 (d:Int))
abbrev AY (ds:List Nat):VV:=bK uV ds
def bX (n:Nat):VV:=AY (aC 4294967296 n)
theorem Rl:∀d:Nat,(aB (uV d)).length=1:=fun _=>rfl
theorem T9 (ds:List Nat):aN (AY ds)=true:=lG Rl fun _=>rfl
theorem Yg (ds:List Nat):fY (AY ds)=true:=BP Rl (fun _=>rfl) fun _=>rfl
theorem bO (n:Nat):aN (bX n)=true:=T9 _
theorem pX (n:Nat):fY (bX n)=true:=Yg _
theorem Lr:bX 0 = .tree [] .op:=by rw[bX,bQ];rfl
theorem Sf (a b:Nat) (ha:a<18446744073709551616) (hb:0<b):dB .quo (.int .u64 (a:Int)) (.int .u64 (b:Int))=some (.int .u64 ((a / b:Nat):Int)):=by
 have h1:¬((b:Int)=0):=by omega
 have h2:(a:Int).tdiv (b:Int)=((a / b:Nat):Int):=by rw[Int.tdiv_eq_ediv_of_nonneg (by omega)];simp
 have h3:a / b≤a:=Nat.div_le_self _ _
 simp only[dB,if_true,h1,if_false,h2]
 rw[dP _ (by omega)]
theorem Lz (a b:Nat) (hb:0<b):dB .rem (.int .u64 (a:Int)) (.int .u64 (b:Int))=some (.int .u64 ((a % b:Nat):Int)):=by
 have h1:¬((b:Int)=0):=by omega
 have h2:(a:Int).tmod (b:Int)=((a % b:Nat):Int):=by rw[Int.tmod_eq_emod_of_nonneg (by omega)];simp
 simp only[dB,if_true,h1,if_false,h2]
theorem afN (n s:Nat) (hn:n<4294967296) (hs:s≤31):dB .shl (.int .u64 (n:Int)) (.int .i64 (s:Int))=some (.int .u64 ((n*2^s:Nat):Int)):=by
 have h1:¬((s:Int)<0):=by omega
 have h2:Nat.min (Int.toNat (s:Int)) IntKind.u64.bits=s:=by
  rw[Int.toNat_natCast]
  exact Nat.min_eq_left (by show s≤64;omega)
 have h3:2^s≤2^31:=Nat.pow_le_pow_right (by decide) hs
 have h4:n*2^s≤n*2^31:=Nat.mul_le_mul_left _ h3
 simp only[dB,h1,if_false,h2]
 congr 2
 have e:(n:Int)*2^s=((n*2^s:Nat):Int):=by simp
 rw[e]
 exact dP _ (by omega)
theorem WK (n s:Nat) (hs:s≤31):dB .shr (.int .u64 (n:Int)) (.int .i64 (s:Int))=some (.int .u64 ((n / 2^s:Nat):Int)):=by
 have h1:¬((s:Int)<0):=by omega
 have h2:Nat.min (Int.toNat (s:Int)) IntKind.u64.bits=s:=by
  rw[Int.toNat_natCast]
  exact Nat.min_eq_left (by show s≤64;omega)
 simp only[dB,h1,if_false,h2]
 congr 2
 rw[Int.fdiv_eq_ediv_of_nonneg _ (by exact Int.le_of_lt (Int.pow_pos (by decide)))]
 simp
theorem adM (a m s:Nat) (ha:a<2^s) (hm:m*2^s+a<4294967296):dB .or (.int .u32 (a:Int)) (.int .u32 ((m*2^s:Nat):Int))=some (.int .u32 ((a+m*2^s:Nat):Int)):=by
 have e:a ||| (m*2^s)=a+m*2^s:=by
  have:=Nat.shiftLeft_add_eq_or_of_lt ha m
  rw[Nat.shiftLeft_eq] at this
  rw[Nat.or_comm,←this,Nat.add_comm]
 have e1:(BitVec.ofInt IntKind.u32.bits (a:Int) ||| BitVec.ofInt IntKind.u32.bits ((m*2^s:Nat):Int)).toNat=a+m*2^s:=by
  show (BitVec.ofInt 32 (a:Int) ||| BitVec.ofInt 32 ((m*2^s:Nat):Int)).toNat=a+m*2^s
  rw[BitVec.toNat_or,BitVec.ofInt_natCast,BitVec.ofInt_natCast,BitVec.toNat_ofNat,BitVec.toNat_ofNat,Nat.mod_eq_of_lt (by omega),Nat.mod_eq_of_lt (by omega),e]
 simp only[dB,if_true,e1]
 rw[wrap32,Nat.mod_eq_of_lt (by omega)]
section
variable {rows:List Nat} {b g c n e:Nat} {w:Bool} {H:aA}
theorem HA {m d:Nat} (hr:aF H b g=some (rows.map uV,1,w)) (hn:n≤rows.length) (hc:n≤c) (he:rows.take n=aC 4294967296 m):fz (d+2) H (.ref b g 0 n c)=some (bX m):=by
 have:aN (.ref b g 0 n c)=false:=rfl
 unfold fz
 simp only[this,hr,Bool.false_eq_true,if_false]
 have BF:aP ((rows.map uV).take n)=true:=by rw[←List.map_take];exact eX fun _=>rfl
 rw[if_pos ⟨by simpa using hn,hc⟩,List.drop_zero,mapM_pure BF,←List.map_take,he]
 rfl
theorem QI {m:Nat} (hr:aF H b g=some (rows.map uV,1,w)) (hn:n≤rows.length) (hc:n≤c) (he:rows.take n=aC 4294967296 m):fz depth H (.ref b g 0 n c)=some (bX m):=HA (d:=6) hr hn hc he
theorem bJ {d:Nat} {u u' v v':VV} (h1:fz (d+1) H u=some u') (h2:fz (d+1) H v=some v'):fz (d+2) H (.dQ [u,v])=some (.dQ [u',v']):=by
 have e:fz (d+2) H (.dQ [u,v])=if aN (.dQ [u,v])=true then some (.dQ [u,v]) else ([u,v].mapM (fz (d+1) H)).map .dQ:=rfl
 rw[e]
 by_cases hp:aN (.dQ [u,v])=true
 ·rw[if_pos hp]
  simp only[aN,aP,Bool.and_eq_true,and_true] at hp
  rw[aH hp.1] at h1
  rw[aH hp.2] at h2
  cases h1
  cases h2
  rfl
 ·rw[if_neg hp,List.mapM_cons,h1,List.mapM_cons,h2]
  rfl
theorem gP {j d:Nat} (hr:aF H b g=some (rows.map uV,1,w)) (hj:rows[j]? = some d):cO false 1 (.ptr b g j 0) H=some (uV d):=oX hr hj
theorem Mw {xs:List Nat} {m d:Nat} (hm:xs.length=m+1) (hd:xs[m]? = some d) (h:d≠0):xs.getLast? ≠ some 0:=by
 rw[List.getLast?_eq_getElem?,hm,Nat.add_sub_cancel,hd]
 simpa using h
end
theorem Xa {rows:List Nat} {b g n c:Nat} {w:Bool} {H:aA} {lo:Nat} (hr:aF H b g=some (rows.map uV,1,w)) (hn:n≤rows.length) (hc:n≤c) (BH:n≤70368744177664) (hd:∀d∈rows.take n,d<4294967296) :
  iV 182 [.ref b g 0 n c] lo H fun r H'=>H'=H∧∃k,k≤n∧r = .ref b g 0 k c∧rows.take k=aC 4294967296 (val 4294967296 (rows.take n)):=by
 refine iV.walk ⟨true,false⟩ wW (Nat.le_of_ble_eq_true rfl) ?_
 simp only[rZ,pU,VX,Nat.reduceEqDiff,Nat.reduceAdd]
 refine aR (fun(k:Nat) ρ H'=>k≤n∧H'=H∧val 4294967296 (rows.take k)=val 4294967296 (rows.take n)∧ρ 0 = .ref b g 0 k c) (fun k=>k) n ⟨Nat.le_refl _,rfl,rfl,rfl⟩ ?_
 rintro k ρ H' ⟨hk,rfl,hv,h0⟩
 have e0:nP (.ref b g 0 k c) H'=some (VI k):=eZ hr
 have done:(rows.take k).getLast? ≠ some 0→rows.take k=aC 4294967296 (val 4294967296 (rows.take n)):=fun eT=>by
  rw[←hv,Ic (by decide) (fun d h=>hd d ?_) eT]
  exact(List.take_sublist_take_left hk).mem h
 rcases Nat.eq_zero_or_pos k with hz | hp
 ·subst hz
  simp only[eV,h0,e0,Int.reduceLT,Int.natCast_zero,VX,Nat.reduceEqDiff,Nat.reduceAdd]
  exact⟨0,hk,rfl,done (by simp)⟩
 ·obtain⟨m,rfl⟩:∃m,k=m+1:=⟨k-1,by omega⟩
  obtain⟨d,WM⟩:∃d,rows[m]? = some d:=⟨_,List.getElem?_eq_getElem (by omega)⟩
  have BF:(0:Int)<((m+1:Nat):Int):=by omega
  have w1:IntKind.i64.wrap (((m+1:Nat):Int)-1)=(m:Int):=by rw[wrap64 (by omega) (by omega)];omega
  have e1:bI 1 (.ref b g 0 (m+1) c) (VI m) H'=some (.ptr b g m 0):=by rw[aQ hr (by omega),Nat.zero_add]
  have e2:=gP hr WM
  by_cases Bx:(d:Int)=0
  ·have hd1:d=0:=by omega
   subst hd1
   have e3:Dg 1 (.ref b g 0 (m+1) c) none (some (VI m)) none H'=some (.ref b g 0 m c):=GI hr (by omega)
   simp only[eV,h0,e0,BF,w1,e1,e2,e3,Bx,VX,Nat.reduceEqDiff,Nat.reduceAdd]
   refine⟨m,by omega,by omega,?_,rfl⟩
   rw[←hv,bH WM,Nat.mul_zero,Nat.add_zero]
  ·simp only[eV,h0,e0,BF,w1,e1,e2,Bx,VX,Nat.reduceEqDiff,Nat.reduceAdd]
   refine⟨m+1,hk,rfl,done (Mw (m:=m) (d:=d) (by rw[List.length_take];omega) ?_ (by omega))⟩
   rw[List.getElem?_take_of_lt (by omega)]
   exact WM
theorem Ub (ds:List Nat) (t:TK) {lo:Nat} {H:aA} (h:∀d∈ds,d<4294967296) (hlen:ds.length≤70368744177664) :
  iV 182 [.tree (ds.map uV) t] lo H fun r H'=>H'=H∧∃t',(t'=t∨t' = .op)∧r = .tree ((aC 4294967296 (val 4294967296 ds)).map uV) t':=by
 refine iV.walk ⟨true,false⟩ wW (Nat.le_of_ble_eq_true rfl) ?_
 simp only[rZ,pU,VX,Nat.reduceEqDiff,Nat.reduceAdd]
 refine aR (fun(s:List Nat×TK) ρ H'=>(∀d∈s.1,d<4294967296)∧val 4294967296 s.1=val 4294967296 ds∧s.1.length≤ds.length∧H'=H∧(s.2=t∨s.2 = .op)∧ρ 0 = .tree (s.1.map uV) s.2) (fun s=>s.1.length) (ds,t) ⟨h,rfl,Nat.le_refl _,rfl,.inl rfl,rfl⟩ ?_
 rintro⟨xs,t'⟩ ρ H' ⟨hx,hv,hl,rfl,ht,h0⟩
 simp only at hx hv hl ht h0
 have done:xs.getLast? ≠ some 0→xs=aC 4294967296 (val 4294967296 ds):=fun eT=>by rw[←hv,Ic (by decide) hx eT]
 rcases Nat.eq_zero_or_pos xs.length with hz | hp
 ·have hxn:xs=[]:=List.length_eq_zero_iff.1 hz
  subst hxn
  simp only[eV,h0,Int.reduceLT,Int.natCast_zero,VX,Nat.reduceEqDiff,Nat.reduceAdd]
  exact⟨t',ht,by rw[←done (by simp)];rfl⟩
 ·obtain⟨m,hm⟩:∃m,xs.length=m+1:=⟨xs.length-1,by omega⟩
  obtain⟨d,hd⟩:∃d,xs[m]? = some d:=⟨_,List.getElem?_eq_getElem (by omega)⟩
  have BF:(0:Int)<((m+1:Nat):Int):=by omega
  have w1:IntKind.i64.wrap (((m+1:Nat):Int)-1)=(m:Int):=by rw[wrap64 (by omega) (by omega)];omega
  have e1:=aK (f:=uV) (t:=t') (H:=H') (size:=1) (k := .i64) hd rfl
  by_cases Bx:(d:Int)=0
  ·have hd1:d=0:=by omega
   subst hd1
   have e2:=GD (f:=uV) (size:=1) (t:=t') (H:=H') (k2 := .i64) (xs:=xs) (h:=m) Rl (by omega) (by omega)
   have Qg:xs=xs.take m++[0]:=by
    have:=List.take_append_drop m xs
    have h3:=(List.getElem?_eq_some_iff.1 hd)
    rw[List.drop_eq_getElem_cons h3.1,h3.2,List.drop_of_length_le (by omega)] at this
    exact this.symm
   simp only[eV,h0,hm,BF,w1,e1,e2,Bx,VX,Nat.reduceEqDiff,Nat.reduceAdd]
   refine⟨(xs.take m,.op),by simp only[List.length_take];omega,fun d hd=>hx d (List.mem_of_mem_take hd),?_,by simp only[List.length_take];omega,.inr rfl,rfl⟩
   rw[←hv]
   conv=>rhs;rw[Qg]
   rw[rS]
   simp
  ·simp only[eV,h0,hm,BF,w1,e1,Bx,VX,Nat.reduceEqDiff,Nat.reduceAdd]
   exact⟨t',ht,by rw[←done (Mw hm hd (by omega))]⟩
theorem qS {rows:List Nat} {b g n c:Nat} {w:Bool} {H:aA} {K:VV→aA→Prop} {m lo:Nat} (hr:aF H b g=some (rows.map uV,1,w)) (hn:n≤rows.length) (hc:n≤c) (BH:n≤70368744177664) (hd:∀d∈rows.take n,d<4294967296) (hm:val 4294967296 (rows.take n)=m)
  (hk:∀k,k≤n→rows.take k=aC 4294967296 m→K (.ref b g 0 k c) H):cZ 182 [.ref b g 0 n c] lo H K:=by
 refine eB rfl ((Xa hr hn hc BH hd).mono ?_)
 rintro r H' ⟨rfl,k,h1,rfl,h2⟩
 rw[hm] at h2
 exact hk k h1 h2
theorem Ji {ds:List Nat} {t:TK} {lo:Nat} {H:aA} {K:VV→aA→Prop} {m:Nat} (h:∀d∈ds,d<4294967296) (hlen:ds.length≤70368744177664) (hm:val 4294967296 ds=m) (hk:∀t',(t'=t∨t' = .op)→K (.tree ((aC 4294967296 m).map uV) t') H):cZ 182 [.tree (ds.map uV) t] lo H K:=by
 refine eB rfl ((Ub ds t h hlen).mono ?_)
 rintro r H' ⟨rfl,t',h1,rfl⟩
 rw[hm]
 exact hk t' h1
theorem ZX {H:aA} {m:Nat} {t:TK} (ht:t = .cl 1∨t = .op):fz depth H (.tree ((aC 4294967296 m).map uV) t)=some (bX m):=by
 rcases ht with rfl | rfl
 ·exact Wm (eX fun _=>rfl)
 ·exact aI (bO m)
end Go.PM
namespace Go.PM
theorem mV (n:Nat) (h:n<18446744073709551616):TC 101 [VK .u64 n] (bX n):=by
 refine TC.walk ⟨true,false⟩ Mr rfl (Nat.le_of_ble_eq_true rfl) rfl (pX _) ?_
 have e1:=Vm (H:=[]) (z:=[.int .u32 0]) (u:=uV (n % 4294967296)) (v:=uV (n / 4294967296 % 4294967296)) rfl rfl rfl rfl rfl
 have hm:∀d∈[n % 4294967296,n / 4294967296 % 4294967296],d<4294967296:=by
  intro d hd
  simp only[List.mem_cons,List.not_mem_nil,or_false] at hd
  rcases hd with rfl | rfl<;>exact Nat.mod_lt _ (by decide)
 have hv:val 4294967296 [n % 4294967296,n / 4294967296 % 4294967296]=n:=by
  simp only[val]
  have:=Nat.mod_add_div n 4294967296
  rw[Nat.mod_eq_of_lt (show n / 4294967296<4294967296 by omega)]
  omega
 simp only[JM,D0,wrap32,lP,e1,VX,Nat.reduceEqDiff,Nat.reduceAdd]
 refine Ji (ds:=[n % 4294967296,n / 4294967296 % 4294967296]) (t := .cl 1) hm (by show 2≤70368744177664;decide) hv fun t' ht => ?_
 simp only[VX,Nat.reduceEqDiff,Nat.reduceAdd]
 exact ZX ht
theorem xY (n:Nat) (hn:(aC 4294967296 n).length≤17592186044416):TC 218 [bX n] (if (aC 4294967296 n).length≤2 then .dQ [VK .u64 n,VB true] else .dQ [VK .u64 0,VB false]):=by
 refine TC.walk ⟨true,false⟩ Du rfl (Nat.le_of_ble_eq_true rfl) (by simp[aP,bO]) (by split<;>rfl) ?_
 have hv:=cL (b:=4294967296) (by decide) n
 have hl:=gF (b:=4294967296) (by decide) n
 unfold bX AY
 generalize aC 4294967296 n=ds at *
 have w1:IntKind.i64.wrap ((ds.length:Int)-1)=(ds.length:Int)-1:=wrap64 (by omega) (by omega)
 simp only[yA,uD,w1,VX,Nat.reduceEqDiff,Nat.reduceAdd]
 by_cases h2:ds.length≤2
 ·rw[if_pos h2]
  have c2:(ds.length:Int)≤2:=by omega
  refine aR (fun(j:Nat) ρ H=>j≤ds.length∧H=[]∧ρ 0=bK uV ds∧ρ 4=VK .u64 (val 4294967296 (ds.drop j):Nat)∧ρ 5=VI ((j:Int)-1)) (fun j=>j) ds.length ⟨Nat.le_refl _,rfl,rfl,by rw[List.drop_length];rfl,rfl⟩ ?_
  rintro j ρ H ⟨hj,rfl,g0,g4,g5⟩
  by_cases hz:(0:Int)≤(j:Int)-1
  ·obtain⟨i,rfl⟩:∃i,j=i+1:=⟨j-1,by omega⟩
   obtain⟨x,hx⟩:∃x,ds[i]? = some x:=⟨_,List.getElem?_eq_getElem (by omega)⟩
   have M3:((i+1:Nat):Int)-1=(i:Int):=by omega
   rw[M3] at g5 hz
   have e1:=aK (f:=uV) (t := .op) (H:=[]) (size:=1) (k := .i64) hx rfl
   have lx:=hl x (List.mem_of_getElem? hx)
   have ld:=oG (b:=4294967296) (xs:=ds.drop (i+1)) fun d hd=>hl d (List.mem_of_mem_drop hd)
   have hle:(ds.drop (i+1)).length≤1:=by rw[List.length_drop];omega
   have hpw:4294967296^(ds.drop (i+1)).length≤4294967296^1:=Nat.pow_le_pow_right (by decide) hle
   rw[Nat.pow_one] at hpw
   have w2:IntKind.i64.wrap ((i:Int)-1)=(i:Int)-1:=wrap64 (by omega) (by omega)
   have w3:IntKind.u64.wrap (x:Int)=(x:Int):=dP _ (by omega)
   have w4:IntKind.u64.wrap (((val 4294967296 (ds.drop (i+1))*4294967296:Nat):Int)+(x:Int))=((val 4294967296 (ds.drop i):Nat):Int):=by
    rw[pE hx,←Int.natCast_add,dP _ (by omega)]
    congr 1
    omega
   have w5:=Cl (val 4294967296 (ds.drop (i+1))) .u64 (by omega)
   simp only[jT,g0,g4,g5,hz,c2,e1,w2,w3,w4,w5,VX,Nat.reduceEqDiff,Nat.reduceAdd]
   exact⟨i,by omega,by omega,by (repeat' apply And.intro)<;>first | rfl | trivial⟩
  ·have Qn:j=0:=by omega
   subst Qn
   rw[List.drop_zero,hv] at g4
   simp only[jT,g0,g4,g5,hz,c2,VX,Nat.reduceEqDiff,Nat.reduceAdd]
   exact aI rfl
 ·rw[if_neg h2]
  have c2:¬(ds.length:Int)≤2:=by omega
  have c3:(0:Int)≤(ds.length:Int)-1:=by omega
  refine aR (fun(j:Nat) ρ H=>H=[]∧ρ 0=bK uV ds∧ρ 4=VK .u64 0∧ρ 5=VI ((ds.length:Int)-1)) (fun j=>j) 0 ⟨rfl,rfl,rfl,rfl⟩ ?_
  rintro j ρ H ⟨rfl,g0,g4,g5⟩
  simp only[jT,g0,g4,g5,c2,c3,VX,Nat.reduceEqDiff,Nat.reduceAdd]
  exact aI rfl
theorem uF (a b:Nat) (ha:(aC 4294967296 a).length≤17592186044416) (hb:(aC 4294967296 b).length≤17592186044416):TC 170 [bX a,bX b] (VI (kZ a b)):=by
 refine TC.walk ⟨true,false⟩ F3 rfl (Nat.le_of_ble_eq_true rfl) (by simp[aP,bO]) rfl ?_
 have fin:∀ {x:Int},x=kZ a b→fz depth [] (VI x)=some (VI (kZ a b)):=fun h=>by rw[h];exact aI rfl
 unfold bX AY
 by_cases hl:(((aC 4294967296 a).length:Nat):Int)=(((aC 4294967296 b).length:Nat):Int)
 ·have AQ:(aC 4294967296 a).length=(aC 4294967296 b).length:=by omega
  have w1:IntKind.i64.wrap ((((aC 4294967296 b).length:Nat):Int)-1)=(((aC 4294967296 b).length:Nat):Int)-1:=wrap64 (by omega) (by omega)
  simp only[pG,mQ,hl,w1,VX,Nat.reduceEqDiff,Nat.reduceAdd]
  refine aR (fun(j:Nat) ρ H=>j≤(aC 4294967296 b).length∧H=[]∧(aC 4294967296 a).drop j=(aC 4294967296 b).drop j∧ρ 0=bK uV (aC 4294967296 a)∧ρ 1=bK uV (aC 4294967296 b)∧ρ 5=VI ((j:Int)-1)) (fun j=>j) (aC 4294967296 b).length ⟨Nat.le_refl _,rfl,by rw[List.drop_length,←AQ,List.drop_length],rfl,rfl,rfl⟩ ?_
  rintro j ρ H ⟨hj,rfl,hd,h0,h1,h5⟩
  by_cases hz:(0:Int)≤(j:Int)-1
  ·obtain⟨i,rfl⟩:∃i,j=i+1:=⟨j-1,by omega⟩
   obtain⟨x,hx⟩:∃x,(aC 4294967296 a)[i]? = some x:=⟨_,List.getElem?_eq_getElem (by omega)⟩
   obtain⟨y,hy⟩:∃y,(aC 4294967296 b)[i]? = some y:=⟨_,List.getElem?_eq_getElem (by omega)⟩
   have M3:((i+1:Nat):Int)-1=(i:Int):=by omega
   have e1:=aK (f:=uV) (t := .op) (H:=[]) (size:=1) (k := .i64) hx rfl
   have e2:=aK (f:=uV) (t := .op) (H:=[]) (size:=1) (k := .i64) hy rfl
   rw[M3] at h5 hz
   have w2:IntKind.i64.wrap ((i:Int)-1)=(i:Int)-1:=wrap64 (by omega) (by omega)
   by_cases yM:(x:Int)=(y:Int)
   ·simp only[jE,h0,h1,h5,hz,e1,e2,yM,w2,VX,Nat.reduceEqDiff,Nat.reduceAdd]
    have adI:x=y:=by omega
    subst adI
    refine⟨i,by omega,by omega,?_⟩
    obtain⟨g1,g2⟩:=List.getElem?_eq_some_iff.1 hx
    obtain⟨g3,g4⟩:=List.getElem?_eq_some_iff.1 hy
    rw[List.drop_eq_getElem_cons g1,List.drop_eq_getElem_cons g3,g2,g4,hd]
    exact⟨rfl,rfl⟩
   ·by_cases aV:(x:Int)<(y:Int)
    ·simp only[jE,h0,h1,h5,hz,e1,e2,yM,aV,VX,Nat.reduceEqDiff,Nat.reduceAdd]
     refine fin ?_
     have:=BZ (gF (by decide) a) AQ hx hy hd (by omega)
     rw[cL (by decide),cL (by decide)] at this
     simp[kZ,this]
    ·simp only[jE,h0,h1,h5,hz,e1,e2,yM,aV,VX,Nat.reduceEqDiff,Nat.reduceAdd]
     refine fin ?_
     have:=BZ (gF (by decide) b) AQ.symm hy hx hd.symm (by omega)
     rw[cL (by decide),cL (by decide)] at this
     rw[kZ,if_neg (by omega),if_neg (by omega)]
  ·have Qn:j=0:=by omega
   subst Qn
   simp only[jE,h0,h1,h5,hz,VX,Nat.reduceEqDiff,Nat.reduceAdd]
   refine fin ?_
   have:=N1 (b:=4294967296) (by decide) (by simpa using hd)
   subst this
   simp[kZ]
 ·by_cases aV:(((aC 4294967296 a).length:Nat):Int)<(((aC 4294967296 b).length:Nat):Int)
  ·simp only[pG,mQ,hl,aV,VX,Nat.reduceEqDiff,Nat.reduceAdd]
   refine fin ?_
   have:=BR (b:=4294967296) (by decide) (m:=a) (n:=b) (by omega)
   simp[kZ,this]
  ·simp only[pG,mQ,hl,aV,VX,Nat.reduceEqDiff,Nat.reduceAdd]
   refine fin ?_
   have:=BR (b:=4294967296) (by decide) (m:=b) (n:=a) (by omega)
   rw[kZ,if_neg (by omega),if_neg (by omega)]
end Go.PM
namespace Go.PM
section
variable {b:Nat}
theorem KP (hb:2≤b) (n i:Nat):(aC b n).getD i 0=n / b^i % b:=by
 induction i generalizing n with
 |
  zero =>
  by_cases h:n=0
  ·subst h;simp[bQ]
  ·rw[hC hb h,List.getD_cons_zero,Nat.pow_zero,Nat.div_one]
 |
  succ i ih =>
  by_cases h:n=0
  ·subst h;simp[bQ]
  ·rw[hC hb h,List.getD_cons_succ,ih,Nat.div_div_eq_div_mul,Nat.pow_succ,Nat.mul_comm b]
theorem Hx (hb:2≤b) {n i:Nat}:i<(aC b n).length↔n / b^i≠0:=by
 induction i generalizing n with
 |
  zero =>
  rw[Nat.pow_zero,Nat.div_one,List.length_pos_iff]
  exact not_congr (kD hb)
 |
  succ i ih =>
  by_cases h:n=0
  ·subst h;simp[bQ]
  ·rw[hC hb h,List.length_cons,Nat.add_lt_add_iff_right,ih,Nat.div_div_eq_div_mul,Nat.pow_succ,Nat.mul_comm b]
theorem N4 (hb:2≤b) {n i:Nat} (h:i<(aC b n).length):(aC b n)[i]? = some (n / b^i % b):=by
 rw[←KP hb,List.getD_eq_getElem?_getD,List.getElem?_eq_getElem h]
 rfl
theorem Uh (hb:2≤b) (n i:Nat):(aC b n).drop i=aC b (n / b^i):=by
 induction i generalizing n with
 | zero=>simp
 |
  succ i ih =>
  by_cases h:n=0
  ·subst h;simp[bQ]
  ·rw[hC hb h,List.drop_succ_cons,ih,Nat.div_div_eq_div_mul,Nat.pow_succ,Nat.mul_comm b]
theorem zY (n i:Nat):n / b^(i+1)=n / b^i / b:=by rw[Nat.div_div_eq_div_mul,Nat.pow_succ]
theorem T1 (hb:2≤b) {n d q:Nat} (hn:n≠0) (h:n=d+b*q) (hd:d<b):aC b n=d::aC b q:=by
 rw[hC hb hn,h,Nat.add_mul_mod_self_left,Nat.mod_eq_of_lt hd,Nat.add_mul_div_left _ _ (by omega),Nat.div_eq_of_lt hd,Nat.zero_add]
theorem UT (hb:2≤b) {x d c:Nat} (h:x*d+c≠0):aC b (x*d+c)=(x % b*d+c) % b::aC b (x / b*d+(x % b*d+c) / b):=by
 refine T1 hb h ?_ (Nat.mod_lt _ (by omega))
 have h1:=Nat.mod_add_div x b
 have h3:=Nat.mod_add_div (x % b*d+c) b
 have e:b*(x / b*d+(x % b*d+c) / b)=b*(x / b)*d+b*((x % b*d+c) / b):=by grind
 have e2:x*d=x % b*d+b*(x / b)*d:=by
  conv=>lhs;rw[←h1,Nat.add_mul]
 omega
theorem L7 (hb:2≤b) (m n:Nat):(aC b (m*n)).length≤(aC b m).length+(aC b n).length:=by
 refine mM hb ?_
 rw[Nat.pow_add]
 exact Nat.mul_lt_mul'' (iE hb m) (iE hb n)
theorem Bf (hb:2≤b) {c:Nat} (h:c≠0) (hc:c<b):aC b c=[c]:=by
 rw[hC hb h,Nat.mod_eq_of_lt hc,Nat.div_eq_of_lt hc,bQ]
end
end Go.PM
namespace Go.PM
abbrev tV (d:Nat):VV:=VI (d:Int)
abbrev iY (ds:List Nat):VV:=bK tV ds
def cJ (n:Nat):VV:=iY (aC 1000000000 n)
theorem DL:∀d:Nat,(aB (tV d)).length=1:=fun _=>rfl
theorem vJ (ds:List Nat):aN (iY ds)=true:=lG DL fun _=>rfl
theorem UJ (ds:List Nat):fY (iY ds)=true:=BP DL (fun _=>rfl) fun _=>rfl
theorem cS (n:Nat):aN (cJ n)=true:=vJ _
theorem pY (n:Nat):fY (cJ n)=true:=UJ _
theorem FP:cJ 0 = .tree [] .op:=by rw[cJ,bQ];rfl
theorem V4:cJ 1=iY [1]:=by rw[cJ,hC (by decide) (by decide),bQ]
theorem eQ (n:Nat) {H:aA}:nP (cJ n) H=some (VI (aC 1000000000 n).length):=fI
section
variable {α:Type} {f:α→VV} {xs:List α} {x:α} {H:aA}
theorem Tg {g e:Nat} {es:List VV} {w:Bool}:aF [.row g es e w] 0 g=some (es,e,w):=aT
theorem aqD {e bytes:Nat} (he:1≤e) (hb:1≤bytes) (A0:(xs.length+1)*bytes≤140737488355328):eH 0 e bytes (.ref 0 xs.length 0 xs.length xs.length) [f x] [.row xs.length (xs.map f) e true]=some (.ref 0 (xs.length+1) 0 (xs.length+1) (xs.length+1),[.row (xs.length+1) ((xs++[x]).map f) e true]):=by
 rw[iF (f:=f) (x:=x) aT rfl (Nat.le_refl _) he hb A0]
 rfl
theorem Ys {n g e:Nat} {w:Bool} (hp:∀x,aN (f x)=true) (hn:n=xs.length):fz depth [.row g (xs.map f) e w] (.ref 0 g 0 n n)=some (bK f xs):=Jo aT (by simpa using hn) (Nat.le_refl _) (eX hp)
end
theorem Xk {lr:Bool}:jM lr [.int .i64 0] 0 [] []=some (.ref 0 0 0 0 0,[.row 0 (([]:List Nat).map tV) 1 true]):=iN (H:=[]) rfl
theorem Ej {d:Int} {H:aA}:jM false [.int .i64 0] 1 [(0,VI d)] H=some (.tree [VI d] (.cl 1),H):=eW rfl rfl rfl
theorem Iz {d:Int} {H:aA} {t:TK}:cM 1 (.tree [VI d] t) H=some [VI d]:=eG rfl rfl
theorem anV {ds:List Nat} {d:Nat} (h:ds.length<17592186044416):eH 0 1 8 (.ref 0 ds.length 0 ds.length ds.length) [VI (d:Int)] [.row ds.length (ds.map tV) 1 true]=some (.ref 0 (ds.length+1) 0 (ds.length+1) (ds.length+1),[.row (ds.length+1) ((ds++[d]).map tV) 1 true]):=aqD (f:=tV) (by decide) (by decide) (by omega)
theorem Sg (n:Nat):dB .rem (.int .i64 (n:Int)) (.int .i64 1000000000)=some (.int .i64 ((n % 1000000000:Nat):Int)):=by
 have h2:(n:Int).tmod 1000000000=((n % 1000000000:Nat):Int):=by rw[Int.tmod_eq_emod_of_nonneg (by omega)];simp
 simp only[dB,if_true,h2]
 rfl
theorem R8 (n:Nat) (h:n≤9223372036854775807):dB .quo (.int .i64 (n:Int)) (.int .i64 1000000000)=some (.int .i64 ((n / 1000000000:Nat):Int)):=by
 have h2:(n:Int).tdiv 1000000000=((n / 1000000000:Nat):Int):=by rw[Int.tdiv_eq_ediv_of_nonneg (by omega)];simp
 simp only[dB,if_true,h2]
 rw[wrap64 (by omega) (by omega)]
 rfl
theorem pV (ds:List Nat) (h:∀d∈ds,d<1000000000) (hlen:ds.length≤70368744177664):TC 211 [iY ds] (cJ (val 1000000000 ds)):=by
 refine TC.walk ⟨true,false⟩ Jd rfl (Nat.le_of_ble_eq_true rfl) (by simp[aP,vJ]) (pY _) ?_
 simp only[EK,A4,VX,Nat.reduceEqDiff,Nat.reduceAdd]
 refine aR (fun(xs:List Nat) ρ H'=>(∀d∈xs,d<1000000000)∧val 1000000000 xs=val 1000000000 ds∧xs.length≤ds.length∧H'=[]∧ρ 0=iY xs) (fun s=>s.length) ds ⟨h,rfl,Nat.le_refl _,rfl,rfl⟩ ?_
 rintro xs ρ H' ⟨hx,hv,hl,rfl,h0⟩
 have done:xs.getLast? ≠ some 0→fz depth [] (iY xs)=some (cJ (val 1000000000 ds)):=fun eT=>by rw[cJ,←hv,Ic (by decide) hx eT];exact aI (vJ _)
 rcases Nat.eq_zero_or_pos xs.length with hz | hp
 ·have hxn:xs=[]:=List.length_eq_zero_iff.1 hz
  subst hxn
  simp only[oA,h0,Int.reduceLT,Int.natCast_zero,fI,List.length_nil,VX,Nat.reduceEqDiff,Nat.reduceAdd]
  exact done (by simp)
 ·obtain⟨m,hm⟩:∃m,xs.length=m+1:=⟨xs.length-1,by omega⟩
  obtain⟨d,hd⟩:∃d,xs[m]? = some d:=⟨_,List.getElem?_eq_getElem (by omega)⟩
  have BF:(0:Int)<((m+1:Nat):Int):=by omega
  have w1:IntKind.i64.wrap (((m+1:Nat):Int)-1)=(m:Int):=by rw[wrap64 (by omega) (by omega)];omega
  have e1:=aK (f:=tV) (t := .op) (H:=[]) (size:=1) (k := .i64) hd rfl
  by_cases Bx:(d:Int)=0
  ·have hd1:d=0:=by omega
   subst hd1
   have e2:=GD (f:=tV) (size:=1) (t := .op) (H:=[]) (k2 := .i64) (xs:=xs) (h:=m) DL (by omega) (by omega)
   have Qg:xs=xs.take m++[0]:=by
    have:=List.take_append_drop m xs
    have h3:=(List.getElem?_eq_some_iff.1 hd)
    rw[List.drop_eq_getElem_cons h3.1,h3.2,List.drop_of_length_le (by omega)] at this
    exact this.symm
   simp only[oA,h0,hm,BF,w1,e1,e2,Bx,fI,VX,Nat.reduceEqDiff,Nat.reduceAdd]
   refine⟨xs.take m,by simp only[List.length_take];omega,fun d hd=>hx d (List.mem_of_mem_take hd),?_,by simp only[List.length_take];omega,by first | rfl | exact⟨rfl,rfl⟩⟩
   rw[←hv]
   conv=>rhs;rw[Qg]
   rw[rS]
   simp
  ·simp only[oA,h0,hm,BF,w1,e1,Bx,fI,VX,Nat.reduceEqDiff,Nat.reduceAdd]
   exact done (Mw hm hd (by omega))
theorem Uj {outs:List Nat} {n g m:Nat} {lo:Nat} {w:Bool} {K:VV→aA→Prop} (hd:∀d∈outs,d<1000000000) (hn:n=outs.length) (hlen:outs.length≤70368744177664) (hm:val 1000000000 outs=m) (hk:K (cJ m) (cR [.row g (outs.map tV) 1 w] [0])) :
  cZ 211 [.ref 0 g 0 n n] lo [.row g (outs.map tV) 1 w] K:=by
 subst hm
 rw[TC.ZZ (f:=tV) (pV outs hd hlen) aT hn (Nat.le_refl _) DL (fun _=>rfl) rfl rfl]
 exact hk
theorem nT (n:Int) (h1:n≤9223372036854775807):TC 161 [VI n] (cJ n.toNat):=by
 refine TC.walk ⟨true,false⟩ Ka rfl (Nat.le_of_ble_eq_true rfl) rfl (pY _) ?_
 simp only[Gh,C8,Xk,VX,Nat.reduceEqDiff,Nat.reduceAdd]
 refine aR (fun(s:Int×List Nat) ρ H=>s.1≤9223372036854775807∧H=[.row s.2.length (s.2.map tV) 1 true]∧s.2.length≤63∧s.1.toNat*2^s.2.length≤9223372036854775807∧aC 1000000000 n.toNat=s.2++aC 1000000000 s.1.toNat∧ρ 0=VI s.1∧ρ 3 = .ref 0 s.2.length 0 s.2.length s.2.length) (fun s=>s.1.toNat) (n,[]) ⟨h1,rfl,by simp,by simp only[List.length_nil,Nat.pow_zero,Nat.mul_one];omega,rfl,rfl,rfl⟩ ?_
 rintro⟨m,ds⟩ ρ H ⟨hm,rfl,hl,aV,hd,g0,g3⟩
 simp only at hm hl aV hd g0 g3
 by_cases hp:(0:Int)<m
 ·obtain⟨k,rfl⟩:∃k:Nat,m=(k:Int):=⟨m.toNat,by omega⟩
  rw[Int.toNat_natCast] at aV hd
  have hk0:k≠0:=by omega
  have Eo:ds.length<63:=by
   rcases Nat.lt_or_ge ds.length 63 with h | h
   ·exact h
   ·have e:2^ds.length=9223372036854775808:=by rw[show ds.length=63 by omega]
    rw[e] at aV
    omega
  have r1:=Sg k
  have q1:=R8 k (by omega)
  have a1:=anV (ds:=ds) (d:=k % 1000000000) (by omega)
  simp only[uY,g0,g3,hp,r1,q1,Ej,Iz,a1,VX,Nat.reduceEqDiff,Nat.reduceAdd]
  refine⟨(((k / 1000000000:Nat):Int),ds++[k % 1000000000]),?_,by simp only;omega,by simp,by simp;omega,?_,?_,rfl,by simp⟩
  ·simp only[Int.toNat_natCast];exact Nat.div_lt_self (by omega) (by decide)
  ·simp only[Int.toNat_natCast,List.length_append,List.length_singleton,Nat.pow_succ]
   have h1:k / 1000000000*2≤k:=by omega
   have:=Nat.mul_le_mul_right (2^ds.length) h1
   rw[Nat.mul_assoc,Nat.mul_comm 2] at this
   omega
  ·simp only[Int.toNat_natCast]
   rw[hd,hC (by decide) hk0,List.append_assoc]
   rfl
 ·have hz:m.toNat=0:=by omega
  rw[hz,bQ,List.append_nil] at hd
  simp only[uY,g0,g3,hp,VX,Nat.reduceEqDiff,Nat.reduceAdd]
  rw[cJ,hd]
  exact Ys (fun _=>rfl) rfl
theorem CB (a b:Nat) (ha:(aC 1000000000 a).length≤17592186044416) (hb:(aC 1000000000 b).length≤17592186044416):TC 178 [cJ a,cJ b] (VI (kZ a b)):=by
 refine TC.walk ⟨true,false⟩ Ki rfl (Nat.le_of_ble_eq_true rfl) (by simp[aP,cS]) rfl ?_
 have fin:∀ {x:Int},x=kZ a b→fz depth [] (VI x)=some (VI (kZ a b)):=fun h=>by rw[h];exact aI rfl
 unfold cJ iY
 by_cases hl:(((aC 1000000000 a).length:Nat):Int)=(((aC 1000000000 b).length:Nat):Int)
 ·have AQ:(aC 1000000000 a).length=(aC 1000000000 b).length:=by omega
  have w1:IntKind.i64.wrap ((((aC 1000000000 b).length:Nat):Int)-1)=(((aC 1000000000 b).length:Nat):Int)-1:=wrap64 (by omega) (by omega)
  simp only[wR,rL,hl,w1,VX,Nat.reduceEqDiff,Nat.reduceAdd]
  refine aR (fun(j:Nat) ρ H=>j≤(aC 1000000000 b).length∧H=[]∧(aC 1000000000 a).drop j=(aC 1000000000 b).drop j∧ρ 0=bK tV (aC 1000000000 a)∧ρ 1=bK tV (aC 1000000000 b)∧ρ 5=VI ((j:Int)-1)) (fun j=>j) (aC 1000000000 b).length ⟨Nat.le_refl _,rfl,by rw[List.drop_length,←AQ,List.drop_length],rfl,rfl,rfl⟩ ?_
  rintro j ρ H ⟨hj,rfl,hd,h0,h1,h5⟩
  by_cases hz:(0:Int)≤(j:Int)-1
  ·obtain⟨i,rfl⟩:∃i,j=i+1:=⟨j-1,by omega⟩
   obtain⟨x,hx⟩:∃x,(aC 1000000000 a)[i]? = some x:=⟨_,List.getElem?_eq_getElem (by omega)⟩
   obtain⟨y,hy⟩:∃y,(aC 1000000000 b)[i]? = some y:=⟨_,List.getElem?_eq_getElem (by omega)⟩
   have M3:((i+1:Nat):Int)-1=(i:Int):=by omega
   have e1:=aK (f:=tV) (t := .op) (H:=[]) (size:=1) (k := .i64) hx rfl
   have e2:=aK (f:=tV) (t := .op) (H:=[]) (size:=1) (k := .i64) hy rfl
   rw[M3] at h5 hz
   have w2:IntKind.i64.wrap ((i:Int)-1)=(i:Int)-1:=wrap64 (by omega) (by omega)
   by_cases yM:(x:Int)=(y:Int)
   ·simp only[mI,h0,h1,h5,hz,e1,e2,yM,w2,VX,Nat.reduceEqDiff,Nat.reduceAdd]
    have adI:x=y:=by omega
    subst adI
    refine⟨i,by omega,by omega,?_⟩
    obtain⟨g1,g2⟩:=List.getElem?_eq_some_iff.1 hx
    obtain⟨g3,g4⟩:=List.getElem?_eq_some_iff.1 hy
    rw[List.drop_eq_getElem_cons g1,List.drop_eq_getElem_cons g3,g2,g4,hd]
    exact⟨rfl,rfl⟩
   ·by_cases aV:(x:Int)<(y:Int)
    ·simp only[mI,h0,h1,h5,hz,e1,e2,yM,aV,VX,Nat.reduceEqDiff,Nat.reduceAdd]
     refine fin ?_
     have:=BZ (gF (by decide) a) AQ hx hy hd (by omega)
     rw[cL (by decide),cL (by decide)] at this
     simp[kZ,this]
    ·simp only[mI,h0,h1,h5,hz,e1,e2,yM,aV,VX,Nat.reduceEqDiff,Nat.reduceAdd]
     refine fin ?_
     have:=BZ (gF (by decide) b) AQ.symm hy hx hd.symm (by omega)
     rw[cL (by decide),cL (by decide)] at this
     rw[kZ,if_neg (by omega),if_neg (by omega)]
  ·have Qn:j=0:=by omega
   subst Qn
   simp only[mI,h0,h1,h5,hz,VX,Nat.reduceEqDiff,Nat.reduceAdd]
   refine fin ?_
   have:=N1 (b:=1000000000) (by decide) (by simpa using hd)
   subst this
   simp[kZ]
 ·by_cases aV:(((aC 1000000000 a).length:Nat):Int)<(((aC 1000000000 b).length:Nat):Int)
  ·simp only[wR,rL,hl,aV,VX,Nat.reduceEqDiff,Nat.reduceAdd]
   refine fin ?_
   have:=BR (b:=1000000000) (by decide) (m:=a) (n:=b) (by omega)
   simp[kZ,this]
  ·simp only[wR,rL,hl,aV,VX,Nat.reduceEqDiff,Nat.reduceAdd]
   refine fin ?_
   have:=BR (b:=1000000000) (by decide) (m:=b) (n:=a) (by omega)
   rw[kZ,if_neg (by omega),if_neg (by omega)]
theorem Hq (ds:List Nat) (i:Nat):TC 225 [iY ds,VI (i:Int)] (tV (ds.getD i 0)):=by
 refine TC.walk ⟨true,false⟩ Hg rfl (Nat.le_of_ble_eq_true rfl) (by simp[aP,vJ];rfl) rfl ?_
 by_cases h:(i:Int)<(ds.length:Int)
 ·obtain⟨d,hd⟩:∃d,ds[i]? = some d:=⟨_,List.getElem?_eq_getElem (by omega)⟩
  have e1:=aK (f:=tV) (t := .op) (H:=[]) (size:=1) (k := .i64) hd rfl
  simp only[xP,rY,fI,h,e1,VX,Nat.reduceEqDiff,Nat.reduceAdd]
  rw[List.getD_eq_getElem?_getD,hd]
  exact aI rfl
 ·simp only[xP,rY,fI,h,VX,Nat.reduceEqDiff,Nat.reduceAdd]
  rw[List.getD_eq_getElem?_getD,List.getElem?_eq_none (by omega)]
  exact aI rfl
theorem ND (n i:Nat):TC 225 [cJ n,VI (i:Int)] (tV (n / 1000000000^i % 1000000000)):=by
 have:=Hq (aC 1000000000 n) i
 rwa [KP (by decide)] at this
end Go.PM
namespace Go.PM
theorem jS {es:List VV} {g e:Nat} {w:Bool}:aF [.row g es e w] 0 g=some (es,e,w):=aT
theorem OQ {x y:Nat} {ρ:dJ} {Q:VQ} (hx:(aC 4294967296 x).length≤17592186044416) (hl:(aC 4294967296 y).length≤(aC 4294967296 x).length) (h0:ρ 0=bX x) (h1:ρ 1=bX y) (h5:ρ 5 = .ref 0 0 0 ((aC 4294967296 x).length+1) ((aC 4294967296 x).length+1)) (h6:ρ 6=VK .u64 0) (h20:ρ 20=VI (aC 4294967296 x).length) (h21:ρ 21=VI 0)
  (hQ:∀(aU:dJ) (outs:List Nat) (c:Nat),aU 0=bX x→aU 5 = .ref 0 0 0 ((aC 4294967296 x).length+1) ((aC 4294967296 x).length+1)→aU 6=VK .u64 (c:Nat)→outs.length=(aC 4294967296 x).length+1→(∀d∈outs,d<4294967296)→c≤1→x+y=val 4294967296 (outs.take (aC 4294967296 x).length)+4294967296^(aC 4294967296 x).length*c→Q (.exit 0) aU [.row 0 (outs.map uV) 1 true]) :
  VW ⟨true,false⟩ 0 (.loop jH) Q ρ [.row 0 ((List.replicate ((aC 4294967296 x).length+1) 0).map uV) 1 true]:=by
 unfold bX at h0 h1 hQ
 have vx:=cL (b:=4294967296) (by decide) x
 have vy:=cL (b:=4294967296) (by decide) y
 have lx:=gF (b:=4294967296) (by decide) x
 have ly:=gF (b:=4294967296) (by decide) y
 generalize aC 4294967296 x=xs at *
 generalize aC 4294967296 y=ys at *
 refine aR (fun(s:Nat×List Nat×Nat) ρ H=>s.1≤xs.length∧H=[.row 0 (s.2.1.map uV) 1 true]∧s.2.1.length=xs.length+1∧(∀d∈s.2.1,d<4294967296)∧s.2.2≤1∧val 4294967296 (xs.take s.1)+val 4294967296 (ys.take s.1)=val 4294967296 (s.2.1.take s.1)+4294967296^s.1*s.2.2 ∧
  ρ 0=AY xs∧ρ 1=AY ys∧ρ 5 = .ref 0 0 0 (xs.length+1) (xs.length+1)∧ρ 6=VK .u64 s.2.2∧ρ 20=VI xs.length∧ρ 21=VI s.1) (fun s=>xs.length-s.1) (0,List.replicate (xs.length+1) 0,0) ?_ ?_
 ·exact⟨Nat.zero_le _,rfl,by simp,Bq (by decide) _,by simp,by simp[val],h0,h1,h5,h6,h20,h21⟩
 ·rintro⟨i,outs,c⟩ ρ H ⟨hi,rfl,iW,mJ,hc,hv,g0,g1,g5,g6,g20,g21⟩
  simp only at hi iW mJ hc hv g6 g21
  by_cases dK:(i:Int)<(xs.length:Int)
  ·obtain⟨a,ha⟩:∃a,xs[i]? = some a:=⟨_,List.getElem?_eq_getElem (by omega)⟩
   have la:=lx a (List.mem_of_getElem? ha)
   have e1:=aK (f:=uV) (t := .op) (H:=[.row 0 (outs.map uV) 1 true]) (size:=1) (k := .i64) ha rfl
   have w1:IntKind.u64.wrap (a:Int)=(a:Int):=dP _ (by omega)
   have w2:IntKind.u64.wrap ((c:Int)+(a:Int))=((c+a:Nat):Int):=by rw[←Int.natCast_add];exact dP _ (by omega)
   have wi:IntKind.i64.wrap ((i:Int)+1)=((i+1:Nat):Int):=wrapN (i+1) (by omega) (by omega)
   have e3:=aQ (H:=[.row 0 (outs.map uV) 1 true]) (b:=0) (g:=0) (o:=0) (n:=xs.length+1) (c:=xs.length+1) (i:=i) (k := .i64) jS (by omega)
   have e4:∀s:Nat,bY 0 1 (.ptr 0 0 i 0) (uV s) [.row 0 (outs.map uV) 1 true]=some [.row 0 ((outs.set i s).map uV) 1 true]:=fun s=>by
    rw[dO (f:=uV) (e:=1) jS (by omega) (Nat.le_refl _) rfl rfl]
    rfl
   have step:∀b,b<4294967296→(∀d,ys[i]? = some d→d=b)→(ys.length≤i→b=0) →
     (i+1≤xs.length∧(outs.set i ((c+a+b) % 4294967296)).length=xs.length+1∧(∀d∈outs.set i ((c+a+b) % 4294967296),d<4294967296)∧(c+a+b) / 4294967296≤1∧val 4294967296 (xs.take (i+1))+val 4294967296 (ys.take (i+1))=val 4294967296 ((outs.set i ((c+a+b) % 4294967296)).take (i+1))+4294967296^(i+1)*((c+a+b) / 4294967296)):=by
    intro b hb h1 h2
    refine⟨by omega,by rw[List.length_set];exact iW,mA mJ (Nat.mod_lt _ (by decide)),by omega,?_⟩
    have hy:val 4294967296 (ys.take (i+1))=val 4294967296 (ys.take i)+4294967296^i*b:=by
     cases Wh:ys[i]? with
     | some d=>rw[bH Wh,h1 d Wh]
     |
      none =>
      have hle:=List.getElem?_eq_none_iff.1 Wh
      rw[h2 hle,oZ hle,oZ (by omega),Nat.mul_zero,Nat.add_zero]
    rw[bH ha,hy,gH (by omega),Nat.pow_succ]
    exact Dw hv rfl (Nat.mod_add_div _ _)
   by_cases aV:(i:Int)<(ys.length:Int)
   ·obtain⟨b,hb⟩:∃b,ys[i]? = some b:=⟨_,List.getElem?_eq_getElem (by omega)⟩
    have lb:=ly b (List.mem_of_getElem? hb)
    have e2:=aK (f:=uV) (t := .op) (H:=[.row 0 (outs.map uV) 1 true]) (size:=1) (k := .i64) hb rfl
    have w3:IntKind.u64.wrap (b:Int)=(b:Int):=dP _ (by omega)
    have w4:IntKind.u64.wrap (((c+a:Nat):Int)+(b:Int))=((c+a+b:Nat):Int):=by rw[←Int.natCast_add];exact dP _ (by omega)
    obtain⟨s1,s2,s3,s4,s5⟩:=step b lb (fun d hd=>by rw[hb] at hd;injection hd with hd;exact hd.symm) (fun h=>by omega)
    simp only[jH,g0,g1,g5,g6,g20,g21,dK,aV,e1,e2,e3,e4,w1,w2,w3,w4,wi,wrap32,lP,VX,Nat.reduceEqDiff,Nat.reduceAdd]
    exact⟨(i+1,outs.set i ((c+a+b) % 4294967296),(c+a+b) / 4294967296),by simp only;omega,s1,rfl,s2,s3,s4,s5,by (repeat' apply And.intro)<;>first | rfl | trivial⟩
   ·obtain⟨s1,s2,s3,s4,s5⟩:=step 0 (by decide) (fun d hd=>by have:=(List.getElem?_eq_some_iff.1 hd).1;omega) (fun _=>rfl)
    simp only[Nat.add_zero] at s2 s3 s4 s5
    simp only[jH,g0,g1,g5,g6,g20,g21,dK,aV,e1,e3,e4,w1,w2,wi,wrap32,lP,VX,Nat.reduceEqDiff,Nat.reduceAdd]
    exact⟨(i+1,outs.set i ((c+a) % 4294967296),(c+a) / 4294967296),by simp only;omega,s1,rfl,s2,s3,s4,s5,by (repeat' apply And.intro)<;>first | rfl | trivial⟩
  ·have qG:i=xs.length:=by omega
   subst qG
   simp only[jH,g0,g1,g5,g6,g20,g21,dK,VX,Nat.reduceEqDiff,Nat.reduceAdd]
   refine hQ _ outs c g0 g5 g6 iW mJ hc ?_
   rw[List.take_length,List.take_of_length_le (l:=ys) hl,vx,vy] at hv
   exact hv
theorem HJ (a b:Nat) (ha:(aC 4294967296 a).length≤17592186044416) (hb:(aC 4294967296 b).length≤17592186044416):TC 174 [bX a,bX b] (bX (a+b)):=by
 refine TC.walk ⟨true,false⟩ FE rfl (Nat.le_of_ble_eq_true rfl) (by simp[aP,bO]) (pX _) ?_
 have mk:∀n:Nat,n≤17592186044416→yG [.int .u32 0] 4 (VI ((n+1:Nat):Int)) (VI ((n+1:Nat):Int)) []=some (.ref 0 0 0 (n+1) (n+1),[.row 0 ((List.replicate (n+1) 0).map uV) 1 true]):=fun n hn=>qY (f:=uV) (x:=0) rfl (by omega) (by omega)
 have fin:∀(x y:Nat) (outs:List Nat) (c:Nat),(aC 4294967296 x).length≤17592186044416→x+y=a+b→outs.length=(aC 4294967296 x).length+1→(∀d∈outs,d<4294967296)→c≤1→x+y=val 4294967296 (outs.take (aC 4294967296 x).length)+4294967296^(aC 4294967296 x).length*c →
   bI 1 (.ref 0 0 0 ((aC 4294967296 x).length+1) ((aC 4294967296 x).length+1)) (VI ((aC 4294967296 x).length:Nat)) [.row 0 (outs.map uV) 1 true]=some (.ptr 0 0 (0+(aC 4294967296 x).length) 0) ∧
   bY 0 1 (.ptr 0 0 (aC 4294967296 x).length 0) (uV (c % 4294967296)) [.row 0 (outs.map uV) 1 true]=some [.row 0 ((outs.set (aC 4294967296 x).length (c % 4294967296)).map uV) 1 true] ∧
   ∀lo K,(∀k,k≤(aC 4294967296 x).length+1→(outs.set (aC 4294967296 x).length (c % 4294967296)).take k=aC 4294967296 (a+b)→K (.ref 0 0 0 k ((aC 4294967296 x).length+1)) [.row 0 ((outs.set (aC 4294967296 x).length (c % 4294967296)).map uV) 1 true]) →
    cZ 182 [.ref 0 0 0 ((aC 4294967296 x).length+1) ((aC 4294967296 x).length+1)] lo [.row 0 ((outs.set (aC 4294967296 x).length (c % 4294967296)).map uV) 1 true] K:=by
  intro x y outs c hx yM iW mJ hc hv
  have F0:=mA (i:=(aC 4294967296 x).length) mJ (show c % 4294967296<4294967296 from Nat.mod_lt _ (by decide))
  have Cu:val 4294967296 (outs.set (aC 4294967296 x).length (c % 4294967296))=a+b:=by
   have h1:=gH (b:=4294967296) (xs:=outs) (i:=(aC 4294967296 x).length) (d:=c % 4294967296) (by omega)
   rw[List.take_of_length_le (by rw[List.length_set];omega)] at h1
   rw[h1,Nat.mod_eq_of_lt (Nat.lt_of_le_of_lt hc (by decide)),←hv,yM]
  refine⟨aQ jS (by omega),?_,?_⟩
  ·rw[dO (f:=uV) (e:=1) jS (by omega) (Nat.le_refl _) rfl rfl]
   rfl
  ·intro lo K hk
   have abZ:(outs.set (aC 4294967296 x).length (c % 4294967296)).length=(aC 4294967296 x).length+1:=by rw[List.length_set];exact iW
   exact qS jS (by omega) (Nat.le_refl _) (by omega) (fun d hd=>F0 d (List.mem_of_mem_take hd)) (by rw[List.take_of_length_le (by omega)];exact Cu) hk
 by_cases hsw:(((aC 4294967296 a).length:Nat):Int)<(((aC 4294967296 b).length:Nat):Int)
 ·have w1:IntKind.i64.wrap (((aC 4294967296 b).length:Int)+1)=(((aC 4294967296 b).length+1:Nat):Int):=wrapN _ (by omega) (by omega)
  simp only[vU,qN,bX,hsw,w1,mk _ hb,VX,Nat.reduceEqDiff,Nat.reduceAdd]
  refine OQ (x:=b) (y:=a) hb (by omega) rfl rfl rfl rfl rfl rfl ?_
  intro aU outs c g0 g5 g6 iW mJ hc hv
  obtain⟨e1,e2,e3⟩:=fin b a outs c hb (by omega) iW mJ hc hv
  simp only[g0,g5,g6,bX,wrap32,e1,e2,VX,Nat.reduceEqDiff,Nat.reduceAdd]
  refine e3 _ _ fun k hk he => ?_
  simp only[VX,Nat.reduceEqDiff,Nat.reduceAdd]
  exact QI jS (by rw[List.length_set];omega) hk he
 ·have w1:IntKind.i64.wrap (((aC 4294967296 a).length:Int)+1)=(((aC 4294967296 a).length+1:Nat):Int):=wrapN _ (by omega) (by omega)
  simp only[vU,qN,bX,hsw,w1,mk _ ha,VX,Nat.reduceEqDiff,Nat.reduceAdd]
  refine OQ (x:=a) (y:=b) ha (by omega) rfl rfl rfl rfl rfl rfl ?_
  intro aU outs c g0 g5 g6 iW mJ hc hv
  obtain⟨e1,e2,e3⟩:=fin a b outs c ha rfl iW mJ hc hv
  simp only[g0,g5,g6,bX,wrap32,e1,e2,VX,Nat.reduceEqDiff,Nat.reduceAdd]
  refine e3 _ _ fun k hk he => ?_
  simp only[VX,Nat.reduceEqDiff,Nat.reduceAdd]
  exact QI jS (by rw[List.length_set];omega) hk he
end Go.PM
namespace Go.PM
theorem Wf {x:Int} {r:Nat} (h:x+4294967296=r) (hx:x<0) (hr:0≤x+4294967296):IntKind.u32.wrap x=(r:Int):=by rw[IntKind.wrap_u32];omega
theorem XN (n:Nat) (hn:n≤70368744177664):yG [.int .u32 0] 4 (VI (n:Int)) (VI (n:Int)) []=some (.ref 0 0 0 n n,[.row 0 ((List.replicate n 0).map uV) 1 true]):=qY (f:=uV) (x:=0) rfl (by omega) (by omega)
theorem Rg {outs:List Nat} {i d:Nat} (hi:i<outs.length):bY 0 1 (.ptr 0 0 i 0) (uV d) [.row 0 (outs.map uV) 1 true]=some [.row 0 ((outs.set i d).map uV) 1 true]:=by
 rw[dO (f:=uV) (e:=1) jS hi (Nat.le_refl _) rfl rfl]
 rfl
theorem Wr {P Q A B Y x c r q o y W:Nat} (QZ:A+P*Q*c=B+P*(x*Y)) (h1:r+W*q=c+(x*y+o)):A+P*Q*r+P*Q*W*q=B+P*Q*o+P*(x*(Y+Q*y)):=by
 have h2:P*Q*(r+W*q)=P*Q*(c+(x*y+o)):=by rw[h1]
 grind
theorem Ig (a b:Nat) (ha:(aC 4294967296 a).length≤17592186044416) (hb:(aC 4294967296 b).length≤17592186044416):TC 180 [bX a,bX b] (bX (a*b)):=by
 refine TC.walk ⟨true,false⟩ Ft rfl (Nat.le_of_ble_eq_true rfl) (by simp[aP,bO]) (pX _) ?_
 have va:=cL (b:=4294967296) (by decide) a
 have vb:=cL (b:=4294967296) (by decide) b
 have la:=gF (b:=4294967296) (by decide) a
 have lb:=gF (b:=4294967296) (by decide) b
 unfold bX
 generalize aC 4294967296 a=xs at *
 generalize aC 4294967296 b=ys at *
 have w0:IntKind.i64.wrap ((xs.length:Int)+(ys.length:Int))=((xs.length+ys.length:Nat):Int):=wrapN _ (by omega) (by omega)
 simp only[Bn,zE,w0,XN (xs.length+ys.length) (by omega),VX,Nat.reduceEqDiff,Nat.reduceAdd]
 generalize hN:xs.length+ys.length=N at *
 refine aR (fun(s:Nat×List Nat) ρ H=>s.1≤xs.length∧H=[.row 0 (s.2.map uV) 1 true]∧s.2.length=N∧(∀d∈s.2,d<4294967296)∧val 4294967296 (s.2.take (s.1+ys.length))=val 4294967296 (xs.take s.1)*b ∧
  ρ 0=AY xs∧ρ 1=AY ys∧ρ 5 = .ref 0 0 0 N N∧ρ 17=AY xs∧ρ 18=VI xs.length∧ρ 19=VI s.1) (fun s=>xs.length-s.1) (0,List.replicate N 0) ⟨Nat.zero_le _,rfl,by simp,Bq (by decide) _,by simp[val,List.take_replicate,vE],rfl,rfl,rfl,rfl,rfl,rfl⟩ ?_
 rintro⟨i,outs⟩ ρ H ⟨hi,rfl,iW,mJ,hv,g0,g1,g5,g17,g18,g19⟩
 simp only at hi iW mJ hv g19
 by_cases dK:(i:Int)<(xs.length:Int)
 ·obtain⟨x,hx⟩:∃x,xs[i]? = some x:=⟨_,List.getElem?_eq_getElem (by omega)⟩
  have lx:=la x (List.mem_of_getElem? hx)
  have e1:=aK (f:=uV) (t := .op) (H:=[.row 0 (outs.map uV) 1 true]) (size:=1) (k := .i64) hx rfl
  simp only[pK,g0,g1,g5,g17,g18,g19,dK,e1,VX,Nat.reduceEqDiff,Nat.reduceAdd]
  refine aR (fun(s:Nat×List Nat×Nat) ρ H=>s.1≤ys.length∧H=[.row 0 (s.2.1.map uV) 1 true]∧s.2.1.length=N∧(∀d∈s.2.1,d<4294967296)∧s.2.2<4294967296 ∧
   val 4294967296 (s.2.1.take (i+s.1))+4294967296^(i+s.1)*s.2.2=val 4294967296 (outs.take (i+s.1))+4294967296^i*(x*val 4294967296 (ys.take s.1))∧(∀j,i+s.1≤j→s.2.1[j]? = outs[j]?) ∧
   ρ 0=AY xs∧ρ 1=AY ys∧ρ 5 = .ref 0 0 0 N N∧ρ 6=VI i∧ρ 7=uV x∧ρ 8=VK .u64 s.2.2∧ρ 17=AY xs∧ρ 18=VI xs.length∧ρ 19=VI i∧ρ 24=AY ys∧ρ 25=VI ys.length∧ρ 26=VI s.1) (fun s=>ys.length-s.1) (0,outs,0) ⟨Nat.zero_le _,rfl,iW,mJ,by simp,by simp[val],fun _ _=>rfl,by (repeat' apply And.intro)<;>first | rfl | trivial⟩ ?_
  rintro⟨k,os,c⟩ LW H ⟨hk,rfl,Qd,SW,hc,QZ,E9,k0,k1,k5,k6,k7,k8,Hv,Zr,Yy,k24,k25,k26⟩
  simp only at hk Qd SW hc QZ E9 k8 k26
  have wi:IntKind.i64.wrap ((i:Int)+1)=((i+1:Nat):Int):=wrapN (i+1) (by omega) (by omega)
  by_cases hkn:(k:Int)<(ys.length:Int)
  ·obtain⟨y,hy⟩:∃y,ys[k]? = some y:=⟨_,List.getElem?_eq_getElem (by omega)⟩
   have ly:=lb y (List.mem_of_getElem? hy)
   obtain⟨o,ho⟩:∃o,os[i+k]? = some o:=⟨_,List.getElem?_eq_getElem (by omega)⟩
   have lo:=SW o (List.mem_of_getElem? ho)
   have Zu:outs[i+k]? = some o:=by rw[←E9 (i+k) (Nat.le_refl _)];exact ho
   have f1:=aK (f:=uV) (t := .op) (H:=[.row 0 (os.map uV) 1 true]) (size:=1) (k := .i64) hy rfl
   have w1:IntKind.i64.wrap ((i:Int)+(k:Int))=((i+k:Nat):Int):=wrapN _ (by omega) (by omega)
   have f2:bI 1 (.ref 0 0 0 N N) (VI ((i+k:Nat):Int)) [.row 0 (os.map uV) 1 true]=some (.ptr 0 0 (i+k) 0):=by rw[aQ jS (by omega),Nat.zero_add]
   have f3:cO false 1 (.ptr 0 0 (i+k) 0) [.row 0 (os.map uV) 1 true]=some (uV o):=gP jS ho
   have f4:∀s:Nat,bY 0 1 (.ptr 0 0 (i+k) 0) (uV s) [.row 0 (os.map uV) 1 true]=some [.row 0 ((os.set (i+k) s).map uV) 1 true]:=fun s=>Rg (by omega)
   have yM:x*y≤4294967295*4294967295:=Nat.mul_le_mul (by omega) (by omega)
   have w2:IntKind.u64.wrap (x:Int)=(x:Int):=dP _ (by omega)
   have w3:IntKind.u64.wrap (y:Int)=(y:Int):=dP _ (by omega)
   have w4:IntKind.u64.wrap (o:Int)=(o:Int):=dP _ (by omega)
   have w5:IntKind.u64.wrap ((x:Int)*(y:Int))=((x*y:Nat):Int):=by rw[←Int.natCast_mul];exact dP _ (by omega)
   have w6:IntKind.u64.wrap (((x*y:Nat):Int)+(o:Int))=((x*y+o:Nat):Int):=by rw[←Int.natCast_add];exact dP _ (by omega)
   have w7:IntKind.u64.wrap ((c:Int)+((x*y+o:Nat):Int))=((c+(x*y+o):Nat):Int):=by rw[←Int.natCast_add];exact dP _ (by omega)
   have wk:IntKind.i64.wrap ((k:Int)+1)=((k+1:Nat):Int):=wrapN (k+1) (by omega) (by omega)
   simp only[pJ,k0,k1,k5,k6,k7,k8,Hv,Zr,Yy,k24,k25,k26,hkn,f1,f2,f3,f4,w1,w2,w3,w4,w5,w6,w7,wk,wrap32,lP,VX,Nat.reduceEqDiff,Nat.reduceAdd]
   have hq:(c+(x*y+o)) / 4294967296<4294967296:=Nat.div_lt_of_lt_mul (by omega)
   refine⟨(k+1,os.set (i+k) ((c+(x*y+o)) % 4294967296),(c+(x*y+o)) / 4294967296),by simp only;omega,by omega,rfl,by rw[List.length_set];exact Qd,mA SW (Nat.mod_lt _ (by decide)),hq,?_,fun j hj => ?_,by (repeat' apply And.intro)<;>first | rfl | trivial⟩
   ·have h1:=Nat.mod_add_div (c+(x*y+o)) 4294967296
    rw[←Nat.add_assoc,gH (by omega),bH Zu,bH hy,Nat.pow_succ]
    rw[Nat.pow_add] at QZ ⊢
    exact Wr QZ h1
   ·rw[List.getElem?_set_ne (by omega)]
    exact E9 j (by omega)
  ·have hke:k=ys.length:=by omega
   subst hke
   rw[List.take_length,vb,hv] at QZ
   have w1:IntKind.i64.wrap ((i:Int)+(ys.length:Int))=((i+ys.length:Nat):Int):=wrapN _ (by omega) (by omega)
   have f2:bI 1 (.ref 0 0 0 N N) (VI ((i+ys.length:Nat):Int)) [.row 0 (os.map uV) 1 true]=some (.ptr 0 0 (i+ys.length) 0):=by rw[aQ jS (by omega),Nat.zero_add]
   have f4:∀s:Nat,bY 0 1 (.ptr 0 0 (i+ys.length) 0) (uV s) [.row 0 (os.map uV) 1 true]=some [.row 0 ((os.set (i+ys.length) s).map uV) 1 true]:=fun s=>Rg (by omega)
   simp only[pJ,k0,k1,k5,k6,k7,k8,Hv,Zr,Yy,k24,k25,k26,hkn,f2,f4,w1,wi,wrap32,VX,Nat.reduceEqDiff,Nat.reduceAdd]
   refine⟨(i+1,os.set (i+ys.length) (c % 4294967296)),by simp only;omega,by omega,rfl,by rw[List.length_set];exact Qd,mA SW (Nat.mod_lt _ (by decide)),?_,by (repeat' apply And.intro)<;>first | rfl | trivial⟩
   rw[show i+1+ys.length=i+ys.length+1 by omega,gH (by omega),Nat.mod_eq_of_lt hc,QZ,bH hx,Nat.add_mul,Nat.mul_assoc]
 ·have qG:i=xs.length:=by omega
  subst qG
  rw[hN,List.take_length,va,List.take_of_length_le (by omega)] at hv
  simp only[pK,g0,g1,g5,g17,g18,g19,dK,VX,Nat.reduceEqDiff,Nat.reduceAdd]
  refine qS (m:=a*b) jS (by omega) (Nat.le_refl _) (by omega) (fun d hd=>mJ d (List.mem_of_mem_take hd)) (by rw[List.take_of_length_le (by omega)];exact hv) fun k hk he => ?_
  simp only[VX,Nat.reduceEqDiff,Nat.reduceAdd]
  exact QI jS (by omega) hk he
end Go.PM
namespace Go.PM
theorem set_drop {xs:List Nat} {i d:Nat} (h:i<xs.length):(xs.set i d).drop i=d::xs.drop (i+1):=by
 rw[List.drop_eq_getElem_cons (by rw[List.length_set];exact h),List.getElem_set_self,JY h]
theorem SN (n k:Nat) (hn:n≤70368744177664) {H:aA}:yG [.int .u32 0] 4 (VI (n:Int)) (VI (n:Int)) H=some (.ref H.length 0 0 n n,H++[.row 0 ((List.replicate n 0).map uV) 1 true]):=qY (f:=uV) (x:=0) rfl (by omega) (by omega)
theorem Np {A q t r x d W:Nat} (h1:t+d*q=r*W+x):(q+W*A)*d+t=x+W*(A*d+r):=by grind
theorem Ro {A B P S W c m x q:Nat} (hv:A+P*c=B*S) (h1:m*S+W*q=x*S):A+P*(c+m*S)+P*W*q=(B+P*x)*S:=by
 have h2:P*(m*S+W*q)=P*(x*S):=by rw[h1]
 grind
theorem sR (a d:Nat) (Bx:0<d) (hdW:d<4294967296) (ha:(aC 4294967296 a).length≤17592186044416):TC 183 [bX a,uV d] (.dQ [bX (a / d),uV (a % d)]):=by
 refine TC.walk ⟨true,false⟩ AW rfl (Nat.le_of_ble_eq_true rfl) (by simp[aP,bO,aN,jR]) (by simp[fY,oJ,pX,jR]) ?_
 have va:=cL (b:=4294967296) (by decide) a
 have la:=gF (b:=4294967296) (by decide) a
 unfold bX
 generalize aC 4294967296 a=xs at *
 have w0:IntKind.i64.wrap ((xs.length:Int)-1)=(xs.length:Int)-1:=wrap64 (by omega) (by omega)
 have wd:IntKind.u64.wrap (d:Int)=(d:Int):=dP _ (by omega)
 simp only[sO,qL,w0,XN xs.length (by omega),VX,Nat.reduceEqDiff,Nat.reduceAdd]
 refine aR (fun(s:Nat×List Nat×Nat) ρ H=>s.1≤xs.length∧H=[.row 0 (s.2.1.map uV) 1 true]∧s.2.1.length=xs.length∧(∀d∈s.2.1,d<4294967296)∧s.2.2<d∧val 4294967296 (s.2.1.drop s.1)*d+s.2.2=val 4294967296 (xs.drop s.1) ∧
  ρ 0=AY xs∧ρ 1=uV d∧ρ 6 = .ref 0 0 0 xs.length xs.length∧ρ 7=VK .u64 s.2.2∧ρ 8=VI ((s.1:Int)-1)) (fun s=>s.1) (xs.length,List.replicate xs.length 0,0) ⟨Nat.le_refl _,rfl,by simp,Bq (by decide) _,Bx,by simp[val,List.drop_replicate],rfl,rfl,rfl,rfl,rfl⟩ ?_
 rintro⟨j,outs,r⟩ ρ H ⟨hj,rfl,iW,mJ,hr,hv,g0,g1,g6,g7,g8⟩
 simp only at hj iW mJ hr hv g7 g8
 by_cases hz:(0:Int)≤(j:Int)-1
 ·obtain⟨i,rfl⟩:∃i,j=i+1:=⟨j-1,by omega⟩
  obtain⟨x,hx⟩:∃x,xs[i]? = some x:=⟨_,List.getElem?_eq_getElem (by omega)⟩
  have lx:=la x (List.mem_of_getElem? hx)
  have M3:((i+1:Nat):Int)-1=(i:Int):=by omega
  rw[M3] at g8 hz
  have e1:=aK (f:=uV) (t := .op) (H:=[.row 0 (outs.map uV) 1 true]) (size:=1) (k := .i64) hx rfl
  have e3:bI 1 (.ref 0 0 0 xs.length xs.length) (VI i) [.row 0 (outs.map uV) 1 true]=some (.ptr 0 0 i 0):=by rw[aQ jS (by omega),Nat.zero_add]
  have e4:∀s:Nat,bY 0 1 (.ptr 0 0 i 0) (uV s) [.row 0 (outs.map uV) 1 true]=some [.row 0 ((outs.set i s).map uV) 1 true]:=fun s=>Rg (by omega)
  have w2:IntKind.i64.wrap ((i:Int)-1)=(i:Int)-1:=wrap64 (by omega) (by omega)
  have w3:IntKind.u64.wrap (x:Int)=(x:Int):=dP _ (by omega)
  have w4:IntKind.u64.wrap (((r*4294967296:Nat):Int)+(x:Int))=((r*4294967296+x:Nat):Int):=by rw[←Int.natCast_add];exact dP _ (by omega)
  have w5:=Cl r .u64 (by omega)
  have q1:=Sf (r*4294967296+x) d (by omega) Bx
  have q2:=Lz (r*4294967296+x) d Bx
  have hq:(r*4294967296+x) / d<4294967296:=by
   rw[Nat.div_lt_iff_lt_mul Bx]
   have:(r+1)*4294967296≤d*4294967296:=Nat.mul_le_mul_right _ hr
   rw[Nat.mul_comm 4294967296 d]
   omega
  simp only[kX,g0,g1,g6,g7,g8,hz,e1,e3,e4,w2,w3,w4,w5,wd,q1,q2,wrap32,Nat.mod_eq_of_lt hq,VX,Nat.reduceEqDiff,Nat.reduceAdd]
  refine⟨(i,outs.set i ((r*4294967296+x) / d),(r*4294967296+x) % d),by simp only;omega,by omega,rfl,by rw[List.length_set];exact iW,mA mJ hq,Nat.mod_lt _ Bx,?_,by (repeat' apply And.intro)<;>first | rfl | trivial⟩
  have h1:=Nat.mod_add_div (r*4294967296+x) d
  rw[set_drop (by omega),pC,pE hx,←hv]
  exact Np h1
 ·have Qn:j=0:=by omega
  subst Qn
  rw[List.drop_zero,List.drop_zero,va] at hv
  have h1:a / d=val 4294967296 outs:=by
   rw[←hv,Nat.mul_comm,Nat.mul_add_div Bx,Nat.div_eq_of_lt hr,Nat.add_zero]
  have h2:a % d=r:=by
   rw[←hv,Nat.mul_comm,Nat.mul_add_mod,Nat.mod_eq_of_lt hr]
  simp only[kX,g0,g1,g6,g7,g8,hz,VX,Nat.reduceEqDiff,Nat.reduceAdd]
  refine qS (m:=a / d) jS (by omega) (Nat.le_refl _) (by omega) (fun d hd=>mJ d (List.mem_of_mem_take hd)) (by rw[List.take_of_length_le (by omega)];exact h1.symm) fun k hk he => ?_
  simp only[wrap32,Nat.mod_eq_of_lt (show r<4294967296 by omega),g7,VX,Nat.reduceEqDiff,Nat.reduceAdd]
  rw[h2]
  exact bJ (d:=6) (HA (d:=5) jS (by omega) hk he) (aH rfl)
theorem D3 {n g e:Nat} {es:List VV} {w:Bool}:aF (List.replicate n bU.dead++[.row g es e w]) n g=some (es,e,w):=by rw[tC];exact aT
theorem anU {n:Nat} (xs:List Nat):kY n (xs.map uV)=true:=by
 rw[BN]
 intro x hx
 obtain⟨y,_,rfl⟩:=List.mem_map.1 hx
 rfl
theorem uI (a s:Nat) (hs:s≤31) (ha:(aC 4294967296 a).length≤17592186044416):FC 220 [bX a,VI s] fun n r L=>∃outs:List Nat,r = .ref n 0 0 ((aC 4294967296 a).length+1) ((aC 4294967296 a).length+1)∧L=[.row 0 (outs.map uV) 1 true]∧outs.length=(aC 4294967296 a).length+1∧(∀d∈outs,d<4294967296)∧val 4294967296 outs=a*2^s∧(∀d,outs[(aC 4294967296 a).length]? = some d→d<2^s):=by
 refine FC.walk ⟨true,false⟩ Bi (Nat.le_of_ble_eq_true rfl) fun n => ?_
 have va:=cL (b:=4294967296) (by decide) a
 have la:=gF (b:=4294967296) (by decide) a
 unfold bX
 generalize aC 4294967296 a=xs at *
 have hS:0<2^s:=Nat.pow_pos (by decide)
 have hSW:2^s*2^(32-s)=4294967296:=by rw[←Nat.pow_add,show s+(32-s)=32 by omega]
 have w0:IntKind.i64.wrap ((xs.length:Int)+1)=((xs.length+1:Nat):Int):=wrapN _ (by omega) (by omega)
 simp only[vY,rR,w0,SN (xs.length+1) n (by omega),List.length_replicate,VX,Nat.reduceEqDiff,Nat.reduceAdd]
 refine aR (fun(t:Nat×List Nat×Nat) ρ H=>t.1≤xs.length∧H=List.replicate n .dead++[.row 0 (t.2.1.map uV) 1 true]∧t.2.1.length=xs.length+1∧(∀d∈t.2.1,d<4294967296)∧t.2.1[t.1]? = some t.2.2∧t.2.2<2^s∧val 4294967296 (t.2.1.take t.1)+4294967296^t.1*t.2.2=val 4294967296 (xs.take t.1)*2^s ∧
  ρ 1=VI s∧ρ 5 = .ref n 0 0 (xs.length+1) (xs.length+1)∧ρ 13=AY xs∧ρ 14=VI xs.length∧ρ 15=VI t.1) (fun t=>xs.length-t.1) (0,List.replicate (xs.length+1) 0,0) ⟨Nat.zero_le _,rfl,by simp,Bq (by decide) _,by simp,hS,by simp[val],rfl,rfl,rfl,rfl,rfl⟩ ?_
 rintro⟨i,outs,c⟩ ρ H ⟨hi,rfl,iW,mJ,hoc,hc,hv,g1,g5,g13,g14,g15⟩
 simp only at hi iW mJ hoc hc hv g15
 by_cases dK:(i:Int)<(xs.length:Int)
 ·obtain⟨x,hx⟩:∃x,xs[i]? = some x:=⟨_,List.getElem?_eq_getElem (by omega)⟩
  have lx:=la x (List.mem_of_getElem? hx)
  have e1:=aK (f:=uV) (t := .op) (H:=List.replicate n .dead++[.row 0 (outs.map uV) 1 true]) (size:=1) (k := .i64) hx rfl
  have wx:IntKind.u64.wrap (x:Int)=(x:Int):=dP _ (by omega)
  have wi:IntKind.i64.wrap ((i:Int)+1)=((i+1:Nat):Int):=wrapN (i+1) (by omega) (by omega)
  have w5:=afN x s lx hs
  obtain⟨m,hm⟩:∃m,(x*2^s) % 4294967296=m*2^s:=by
   refine⟨x % 2^(32-s),?_⟩
   rw[←hSW,Nat.mul_comm x,Nat.mul_mod_mul_left,Nat.mul_comm]
  have hhi:(x*2^s) / 4294967296<2^s:=by
   rw[Nat.div_lt_iff_lt_mul (by decide),Nat.mul_comm (2^s)]
   exact Nat.mul_lt_mul_of_pos_right lx hS
  have aV:(x*2^s) % 4294967296<4294967296:=Nat.mod_lt _ (by decide)
  have hmm:m<2^(32-s):=by
   have:m*2^s<2^(32-s)*2^s:=by rw[←hm,Nat.mul_comm (2^(32-s)) (2^s),hSW];exact aV
   exact Nat.lt_of_mul_lt_mul_right this
  have amN:m*2^s+c<4294967296:=by
   have:(m+1)*2^s≤2^(32-s)*2^s:=Nat.mul_le_mul_right _ hmm
   rw[Nat.mul_comm (2^(32-s)),hSW,Nat.add_mul] at this
   omega
  have or1:=adM c m s hc amN
  have e3:bI 1 (.ref n 0 0 (xs.length+1) (xs.length+1)) (VI i) (List.replicate n .dead++[.row 0 (outs.map uV) 1 true])=some (.ptr n 0 i 0):=by rw[aQ D3 (by omega),Nat.zero_add]
  have e4:cO false 1 (.ptr n 0 i 0) (List.replicate n .dead++[.row 0 (outs.map uV) 1 true])=some (uV c):=gP D3 hoc
  have e5:∀(os:List Nat) (j t:Nat),j<os.length→bY n 1 (.ptr n 0 j 0) (uV t) (List.replicate n .dead++[.row 0 (os.map uV) 1 true])=some (List.replicate n .dead++[.row 0 ((os.set j t).map uV) 1 true]):=fun os j t hj=>by
   rw[dO (f:=uV) (e:=1) D3 hj (Nat.le_refl _) rfl rfl,A7]
   rfl
  have e6:bI 1 (.ref n 0 0 (xs.length+1) (xs.length+1)) (VI ((i+1:Nat):Int)) (List.replicate n .dead++[.row 0 ((outs.set i (c+m*2^s)).map uV) 1 true])=some (.ptr n 0 (i+1) 0):=by rw[aQ D3 (by omega),Nat.zero_add]
  have e7:=e5 outs i (c+m*2^s) (by omega)
  have e8:=e5 (outs.set i (c+m*2^s)) (i+1) ((x*2^s) / 4294967296) (by rw[List.length_set];omega)
  have hq:(x*2^s) / 4294967296 % 4294967296=(x*2^s) / 4294967296:=Nat.mod_eq_of_lt (by
   have:2^s≤2^31:=Nat.pow_le_pow_right (by decide) hs
   omega)
  simp only[lK,g1,g5,g13,g14,g15,dK,e1,e3,e4,e6,e7,e8,wx,wi,w5,wrap32,lP,hm,or1,hq,VX,Nat.reduceEqDiff,Nat.reduceAdd]
  refine⟨(i+1,(outs.set i (c+m*2^s)).set (i+1) ((x*2^s) / 4294967296),(x*2^s) / 4294967296),by simp only;omega,by omega,rfl,by rw[List.length_set,List.length_set];exact iW,
   mA (mA mJ (by omega)) (by
    have:2^s≤2^31:=Nat.pow_le_pow_right (by decide) hs
    omega),by rw[List.getElem?_set_self (by rw[List.length_set];omega)],hhi,?_,by (repeat' apply And.intro)<;>first | rfl | trivial⟩
  rw[List.take_set_of_le (Nat.le_refl _),gH (by omega),bH hx,Nat.pow_succ]
  have h1:=Nat.mod_add_div (x*2^s) 4294967296
  rw[hm] at h1
  exact Ro hv h1
 ·have qG:i=xs.length:=by omega
  subst qG
  rw[List.take_length,va] at hv
  have Cu:val 4294967296 outs=a*2^s:=by
   have h1:=bH (b:=4294967296) hoc
   rw[List.take_of_length_le (by omega)] at h1
   rw[h1]
   exact hv
  simp only[lK,g1,g5,g13,g14,g15,dK,VX,Nat.reduceEqDiff,Nat.reduceAdd]
  exact⟨_,rfl,by simp[dD],by simp[dL,anU outs],outs,rfl,iW,mJ,Cu,fun d hd=>by rw[hoc] at hd;injection hd with hd;omega⟩
end Go.PM
namespace Go.PM
theorem SS (n:Nat) (hn:n≤35184372088832):yG [.int .i64 0] 8 (VI (n:Int)) (VI (n:Int)) []=some (.ref 0 0 0 n n,[.row 0 ((List.replicate n 0).map tV) 1 true]):=qY (f:=tV) (x:=0) rfl (by omega) (by omega)
theorem ZA {outs:List Nat} {i d:Nat} (hi:i<outs.length):bY 0 1 (.ptr 0 0 i 0) (VI (d:Int)) [.row 0 (outs.map tV) 1 true]=some [.row 0 ((outs.set i d).map tV) 1 true]:=by
 rw[show VI (d:Int)=tV d from rfl,dO (f:=tV) (e:=1) Tg hi (Nat.le_refl _) rfl rfl]
 rfl
theorem Qt {b g:Nat} {rows:List Nat} {w:Bool} {H:aA} {j d:Nat} (hr:aF H b g=some (rows.map tV,1,w)) (hj:rows[j]? = some d):cO false 1 (.ptr b g j 0) H=some (VI (d:Int)):=oX hr hj
theorem adT {n i:Nat} {outs:List Nat} (h:i<n):bI 1 (.ref 0 0 0 n n) (VI (i:Int)) [.row 0 (outs.map tV) 1 true]=some (.ptr 0 0 i 0):=by rw[aQ Tg h,Nat.zero_add]
theorem wr {x:Int} (n:Nat) (h:x=n) (hn:n≤9223372036854775807):IntKind.i64.wrap x=(n:Int):=wrapN n h hn
theorem AD (a:Nat) (ha:(aC 1000000000 a).length≤17592186044416):TC 236 [cJ a] (if (aC 1000000000 a).length≤2 then .dQ [VI a,VB true] else .dQ [VI 0,VB false]):=by
 refine TC.walk ⟨true,false⟩ G5 rfl (Nat.le_of_ble_eq_true rfl) (by simp[aP,cS]) (by split<;>rfl) ?_
 by_cases h2:(aC 1000000000 a).length≤2
 ·rw[if_pos h2]
  have h3:¬(2:Int)<((aC 1000000000 a).length:Int):=by omega
  have c0:TC 225 [cJ a,VI 0] (VI ((a % 1000000000:Nat):Int)):=by have:=ND a 0;rwa [Nat.pow_zero,Nat.div_one] at this
  have c1:TC 225 [cJ a,VI 1] (VI ((a / 1000000000 % 1000000000:Nat):Int)):=by have:=ND a 1;rwa [Nat.pow_one] at this
  have aV:=iE (b:=1000000000) (by decide) a
  have hp:1000000000^(aC 1000000000 a).length≤1000000000^2:=Nat.pow_le_pow_right (by decide) h2
  have hm:a / 1000000000<1000000000:=Nat.div_lt_of_lt_mul (by omega)
  rw[Nat.mod_eq_of_lt hm] at c1
  have hmd:=Nat.mod_add_div a 1000000000
  have w1:IntKind.i64.wrap (1000000000*((a / 1000000000:Nat):Int))=((1000000000*(a / 1000000000):Nat):Int):=wrapN _ (by omega) (by omega)
  have w2:IntKind.i64.wrap (((a % 1000000000:Nat):Int)+((1000000000*(a / 1000000000):Nat):Int))=(a:Int):=wrapN _ (by omega) (by omega)
  simp only[xJ,sD,eQ,h3,c0,c1,w1,w2,VX,Nat.reduceEqDiff,Nat.reduceAdd]
  exact aI rfl
 ·rw[if_neg h2]
  have h3:(2:Int)<((aC 1000000000 a).length:Int):=by omega
  simp only[xJ,sD,eQ,h3,VX,Nat.reduceEqDiff,Nat.reduceAdd]
  exact aI rfl
theorem Wv {outs:List Nat} {n cap x:Nat} (hn:n=outs.length) (hc:n<cap):eH 0 1 8 (.ref 0 0 0 n cap) [VI (x:Int)] [.row 0 ((outs++List.replicate (cap-n) 0).map tV) 1 true]=some (.ref 0 0 0 (n+1) cap,[.row 0 (((outs++[x])++List.replicate (cap-(n+1)) 0).map tV) 1 true]):=by
 subst hn
 simp only[eH,aT,List.length_map,List.length_append,List.length_replicate,List.length_cons,List.length_nil,Nat.zero_add]
 rw[if_pos ⟨by decide,by decide⟩,if_pos ⟨trivial,Nat.le_refl _,by omega⟩,if_pos (by omega),if_neg (by omega),if_pos (by omega)]
 congr 3
 have e:List.replicate (cap-outs.length) 0=(0:Nat)::List.replicate (cap-(outs.length+1)) 0:=by
  rw[show cap-outs.length=(cap-(outs.length+1))+1 by omega,List.replicate_succ]
 simp only[cN,List.set_cons_zero,e,List.map_append,List.map_cons,List.length_cons,List.length_nil,List.map_nil]
 congr 1
 rw[List.take_left' (by simp),←List.drop_drop,List.drop_left' (by simp)]
 simp
theorem vS (a d:Nat) (Bx:0<d) (hd:d<1000000000) (ha:(aC 1000000000 a).length<17592186044416):TC 238 [cJ a,VI (d:Int)] (cJ (a*d)):=by
 refine TC.walk ⟨true,false⟩ Dp rfl (Nat.le_of_ble_eq_true rfl) (by simp[aP,cS];rfl) (pY _) ?_
 have w0:IntKind.i64.wrap (((aC 1000000000 a).length:Int)+1)=(((aC 1000000000 a).length+1:Nat):Int):=wrapN _ (by omega) (by omega)
 have mk:yG [.int .i64 0] 8 (VI 0) (VI (((aC 1000000000 a).length+1:Nat):Int)) []=some (.ref 0 0 0 0 ((aC 1000000000 a).length+1),[.row 0 ((([]:List Nat)++List.replicate ((aC 1000000000 a).length+1-0) 0).map tV) 1 true]):=by
  simp only[yG]
  rw[if_pos ⟨by omega,by omega,by omega,by omega⟩]
  simp
  rfl
 simp only[yY,tY,eQ,w0,mk,VX,Nat.reduceEqDiff,Nat.reduceAdd]
 refine aR (fun(s:Nat×List Nat×Nat) ρ H=>s.1=s.2.1.length∧s.1≤(aC 1000000000 a).length∧H=[.row 0 ((s.2.1++List.replicate ((aC 1000000000 a).length+1-s.1) 0).map tV) 1 true]∧s.2.2<d∧aC 1000000000 (a*d)=s.2.1++aC 1000000000 (a / 1000000000^s.1*d+s.2.2) ∧
  ρ 1=VI d∧ρ 5 = .ref 0 0 0 s.1 ((aC 1000000000 a).length+1)∧ρ 6=VI s.2.2∧ρ 14=cJ a∧ρ 15=VI (aC 1000000000 a).length∧ρ 16=VI s.1) (fun s=>(aC 1000000000 a).length-s.1) (0,[],0) ⟨rfl,Nat.zero_le _,rfl,Bx,by simp,rfl,rfl,rfl,rfl,rfl,rfl⟩ ?_
 rintro⟨i,outs,c⟩ ρ H ⟨hi,JN,rfl,hc,hv,g1,g5,g6,g14,g15,g16⟩
 simp only at hi JN hc hv g5 g6 g16
 by_cases dK:(i:Int)<((aC 1000000000 a).length:Int)
 ·have hx:=N4 (b:=1000000000) (by decide) (n:=a) (i:=i) (by omega)
  have hA:=(Hx (b:=1000000000) (by decide) (n:=a) (i:=i)).1 (by omega)
  have e1:∀H,bI 1 (cJ a) (VI i) H=some (.cY (tV (a / 1000000000^i % 1000000000)) 0):=fun H=>aK (f:=tV) (t := .op) (size:=1) (k := .i64) hx rfl
  have lx:=Nat.mod_lt (a / 1000000000^i) (show 0<1000000000 by decide)
  have eT:a / 1000000000^i*d+c≠0:=by
   have:=Nat.mul_ne_zero hA (show d≠0 by omega)
   omega
  rw[UT (by decide) eT,←zY] at hv
  generalize a / 1000000000^i % 1000000000=x at *
  have hxd:x*d≤999999999*999999999:=Nat.mul_le_mul (by omega) (by omega)
  have w1:IntKind.i64.wrap ((x:Int)*(d:Int))=((x*d:Nat):Int):=wrapN _ (by simp) (by omega)
  have w2:IntKind.i64.wrap (((x*d:Nat):Int)+(c:Int))=((x*d+c:Nat):Int):=wrapN _ (by omega) (by omega)
  have wi:IntKind.i64.wrap ((i:Int)+1)=((i+1:Nat):Int):=wrapN (i+1) (by omega) (by omega)
  have r1:=Sg (x*d+c)
  have q1:=R8 (x*d+c) (by omega)
  have a1:=Wv (outs:=outs) (n:=i) (cap:=(aC 1000000000 a).length+1) (x:=(x*d+c) % 1000000000) hi (by omega)
  have hq:(x*d+c) / 1000000000<d:=by
   rw[Nat.div_lt_iff_lt_mul (by decide)]
   have h1:x*d≤999999999*d:=Nat.mul_le_mul_right _ (by omega)
   omega
  simp only[jV,g1,g5,g6,g14,g15,g16,dK,e1,w1,w2,wi,r1,q1,Ej,Iz,a1,VX,Nat.reduceEqDiff,Nat.reduceAdd]
  refine⟨(i+1,outs++[(x*d+c) % 1000000000],(x*d+c) / 1000000000),by simp only;omega,by simp;omega,by simp only;omega,rfl,hq,by rw[hv,List.append_assoc];rfl,?_⟩
  try (repeat' apply And.intro)<;>first | rfl | trivial
 ·have qG:i=(aC 1000000000 a).length:=by omega
  have hz:a / 1000000000^i=0:=by
   have:=mt (Hx (b:=1000000000) (by decide) (n:=a) (i:=i)).2
   omega
  rw[hz,Nat.zero_mul,Nat.zero_add] at hv
  by_cases hcp:(0:Int)<(c:Int)
  ·rw[Bf (b:=1000000000) (by decide) (show c≠0 by omega) (show c<1000000000 by omega)] at hv
   have a1:=Wv (outs:=outs) (n:=i) (cap:=(aC 1000000000 a).length+1) (x:=c) hi (by omega)
   simp only[jV,g1,g5,g6,g14,g15,g16,dK,hcp,Ej,Iz,a1,VX,Nat.reduceEqDiff,Nat.reduceAdd]
   rw[cJ,hv]
   rw[R6 aT (by simp;omega) (by omega) (eX fun _=>rfl)]
   rw[List.map_append,List.take_left' (by simp;omega)]
  ·have hc0:c=0:=by omega
   rw[hc0,bQ,List.append_nil] at hv
   simp only[jV,g1,g5,g6,g14,g15,g16,dK,hcp,VX,Nat.reduceEqDiff,Nat.reduceAdd]
   rw[cJ,hv]
   rw[R6 aT (by simp;omega) (by omega) (eX fun _=>rfl)]
   rw[List.map_append,List.take_left' (by simp;omega)]
theorem HC (a b:Nat) (ha:a≤9223372036854775807) (hb:0<b):dB .quo (.int .i64 (a:Int)) (.int .i64 (b:Int))=some (.int .i64 ((a / b:Nat):Int)):=by
 have h1:¬((b:Int)=0):=by omega
 have h2:(a:Int).tdiv (b:Int)=((a / b:Nat):Int):=by rw[Int.tdiv_eq_ediv_of_nonneg (by omega)];simp
 have h3:a / b≤a:=Nat.div_le_self _ _
 simp only[dB,if_true,h1,if_false,h2]
 generalize a / b=q at *
 rw[wrap64 (by omega) (by omega)]
theorem IC (a b:Nat) (hb:0<b):dB .rem (.int .i64 (a:Int)) (.int .i64 (b:Int))=some (.int .i64 ((a % b:Nat):Int)):=by
 have h1:¬((b:Int)=0):=by omega
 have h2:(a:Int).tmod (b:Int)=((a % b:Nat):Int):=by rw[Int.tmod_eq_emod_of_nonneg (by omega)];simp
 simp only[dB,if_true,h1,if_false,h2]
theorem X4 {r d x:Nat} (hr:r<d) (hd:d<1000000000) (hx:x<1000000000):r*1000000000+x≤9223372036854775807:=by omega
theorem aeD {r d x:Nat} (Bx:0<d) (hr:r<d) (hx:x<1000000000):(r*1000000000+x) / d<1000000000:=by
 rw[Nat.div_lt_iff_lt_mul Bx]
 omega
theorem uJ (a d:Nat) (Bx:0<d) (hdT:d<1000000000) (ha:(aC 1000000000 a).length≤17592186044416):TC 237 [cJ a,VI (d:Int)] (.dQ [cJ (a / d),VI ((a % d:Nat):Int)]):=by
 refine TC.walk ⟨true,false⟩ DK rfl (Nat.le_of_ble_eq_true rfl) (by simp[aP,cS];rfl) (by simp[fY,oJ,pY,jR]) ?_
 have va:=cL (b:=1000000000) (by decide) a
 have la:=gF (b:=1000000000) (by decide) a
 unfold cJ
 generalize aC 1000000000 a=xs at *
 have w0:IntKind.i64.wrap ((xs.length:Int)-1)=(xs.length:Int)-1:=wrap64 (by omega) (by omega)
 simp only[yR,vN,fI,w0,SS xs.length (by omega),VX,Nat.reduceEqDiff,Nat.reduceAdd]
 refine aR (fun(s:Nat×List Nat×Nat) ρ H=>s.1≤xs.length∧H=[.row 0 (s.2.1.map tV) 1 true]∧s.2.1.length=xs.length∧(∀d∈s.2.1,d<1000000000)∧s.2.2<d∧val 1000000000 (s.2.1.drop s.1)*d+s.2.2=val 1000000000 (xs.drop s.1) ∧
  ρ 0=iY xs∧ρ 1=VI d∧ρ 6 = .ref 0 0 0 xs.length xs.length∧ρ 7=VI s.2.2∧ρ 8=VI ((s.1:Int)-1)) (fun s=>s.1) (xs.length,List.replicate xs.length 0,0) ⟨Nat.le_refl _,rfl,by simp,Bq (by decide) _,Bx,by simp[val,List.drop_replicate],rfl,rfl,rfl,rfl,rfl⟩ ?_
 rintro⟨j,outs,r⟩ ρ H ⟨hj,rfl,iW,mJ,hr,hv,g0,g1,g6,g7,g8⟩
 simp only at hj iW mJ hr hv g7 g8
 by_cases hz:(0:Int)≤(j:Int)-1
 ·obtain⟨i,rfl⟩:∃i,j=i+1:=⟨j-1,by omega⟩
  obtain⟨x,hx⟩:∃x,xs[i]? = some x:=⟨_,List.getElem?_eq_getElem (by omega)⟩
  have lx:=la x (List.mem_of_getElem? hx)
  have M3:((i+1:Nat):Int)-1=(i:Int):=by omega
  rw[M3] at g8 hz
  have e1:=aK (f:=tV) (t := .op) (H:=[.row 0 (outs.map tV) 1 true]) (size:=1) (k := .i64) hx rfl
  have e3:bI 1 (.ref 0 0 0 xs.length xs.length) (VI i) [.row 0 (outs.map tV) 1 true]=some (.ptr 0 0 i 0):=adT (by omega)
  have e4:∀s:Nat,bY 0 1 (.ptr 0 0 i 0) (VI (s:Int)) [.row 0 (outs.map tV) 1 true]=some [.row 0 ((outs.set i s).map tV) 1 true]:=fun s=>ZA (by omega)
  have w2:IntKind.i64.wrap ((i:Int)-1)=(i:Int)-1:=wrap64 (by omega) (by omega)
  have w4:IntKind.i64.wrap ((r:Int)*1000000000)=((r*1000000000:Nat):Int):=wrapN _ (by omega) (by omega)
  have w5:IntKind.i64.wrap (((r*1000000000:Nat):Int)+(x:Int))=((r*1000000000+x:Nat):Int):=wrapN _ (by omega) (by omega)
  have CI:r*1000000000+x≤9223372036854775807:=X4 hr hdT lx
  have q1:=HC (r*1000000000+x) d CI Bx
  have q2:=IC (r*1000000000+x) d Bx
  have hq:(r*1000000000+x) / d<1000000000:=aeD Bx hr lx
  simp only[nI,g0,g1,g6,g7,g8,hz,e1,e3,e4,w2,w4,w5,q1,q2,VX,Nat.reduceEqDiff,Nat.reduceAdd]
  refine⟨(i,outs.set i ((r*1000000000+x) / d),(r*1000000000+x) % d),by simp only;omega,by omega,rfl,by rw[List.length_set];exact iW,mA mJ hq,Nat.mod_lt _ Bx,?_,by (repeat' apply And.intro)<;>first | rfl | trivial⟩
  have h1:=Nat.mod_add_div (r*1000000000+x) d
  rw[set_drop (by omega),pC,pE hx,←hv]
  exact Np h1
 ·have Qn:j=0:=by omega
  subst Qn
  rw[List.drop_zero,List.drop_zero,va] at hv
  have h1:a / d=val 1000000000 outs:=by
   rw[←hv,Nat.mul_comm,Nat.mul_add_div Bx,Nat.div_eq_of_lt hr,Nat.add_zero]
  have h2:a % d=r:=by
   rw[←hv,Nat.mul_comm,Nat.mul_add_mod,Nat.mod_eq_of_lt hr]
  simp only[nI,g0,g1,g6,g7,g8,hz,VX,Nat.reduceEqDiff,Nat.reduceAdd]
  refine Uj (m:=a / d) mJ iW.symm (by omega) h1.symm ?_
  simp only[g7,VX,Nat.reduceEqDiff,Nat.reduceAdd]
  rw[h2]
  exact aI (by simp[aN,aP,vJ,cJ,jR])
end Go.PM
namespace Go.PM
theorem Ml {H:aA} {b b' g:Nat} {x:bU} (h:b≠b'):aF (H.set b x) b' g=aF H b' g:=by
 unfold aF
 rw[List.getElem?_set_ne h]
theorem lF {H:aA} {b g e:Nat} {es kU:List VV} {w w':Bool} (h:aF H b g=some (es,e,w)):aF (H.set b (.row g kU e w')) b g=some (kU,e,w'):=by
 have aV:b<H.length:=by
  unfold aF at h
  split at h
  ·rename_i hb
   exact(List.getElem?_eq_some_iff.1 hb).1
  ·cases h
 unfold aF
 rw[List.getElem?_set_self aV]
 simp
theorem kJ {H:aA} {b:Nat} {x y:bU}:(H.set b x).set b y=H.set b y:=by rw[List.set_set]
theorem tF {H:aA} {b g e:Nat} {es:List VV} {w:Bool} (h:aF H b g=some (es,e,w)):H.set b (.row g es e w)=H:=by
 apply List.ext_getElem?
 intro i
 by_cases hi:b=i
 ·subst hi
  unfold aF at h
  split at h
  ·rename_i hb
   split at h
   ·rename_i hg
    cases h
    rw[List.getElem?_set_self (List.getElem?_eq_some_iff.1 hb).1,hb,hg]
   ·cases h
  ·cases h
 ·rw[List.getElem?_set_ne hi]
theorem WU {H:aA} {b g o i lo d:Nat} {pre gI post:List Nat} (hr:aF H b g=some ((pre++gI++post).map uV,1,true)) (ho:pre.length=o) (hi:i<gI.length) (eJ:lo≤b) :
  bY lo 1 (.ptr b g (o+i) 0) (uV d) H=some (H.set b (.row g ((pre++gI.set i d++post).map uV) 1 true)):=by
 rw[dO (f:=uV) (e:=1) hr (by simp only[List.length_append];omega) eJ rfl rfl,R7 ho hi]
theorem QK {H:aA} {lo b g o L c b2 g2 n2 c2 t:Nat} {pre gI post vs Lf:List Nat} {w2:Bool} (hr:aF H b g=some ((pre++gI++post).map uV,1,true)) (ZG:aF H b2 g2=some (Lf.map uV,1,w2)) (hb:b≠b2) (eJ:lo≤b)
  (ho:pre.length=o) (hL:gI.length=L) (atG:L≤70368744177664) (M7:Lf.take n2=vs) (hn2:n2≤Lf.length) (hle:n2≤L) (Ud:∀d∈gI,d<4294967296) (D5:∀d∈vs,d<4294967296) (ht:t<4294967296) (qK:t*val 4294967296 vs≤val 4294967296 gI+val 4294967296 vs) :
  iV 221 [.ref b g o L c,.ref b2 g2 0 n2 c2,VK .u64 t] lo H fun r H'=>∃oU:List Nat,H'=H.set b (.row g ((pre++oU++post).map uV) 1 true)∧oU.length=L∧(∀d∈oU,d<4294967296) ∧
   ((r=VB false∧val 4294967296 oU+t*val 4294967296 vs=val 4294967296 gI)∨(r=VB true∧val 4294967296 gI<t*val 4294967296 vs∧val 4294967296 oU+t*val 4294967296 vs=val 4294967296 gI+val 4294967296 vs)):=by
 refine iV.walk ⟨true,false⟩ Hc (Nat.le_of_ble_eq_true rfl) ?_
 have DP:vs.length=n2:=by rw[←M7,List.length_take];omega
 have rU:∀i,i<n2→Lf[i]? = vs[i]? := fun i hi=>by rw[←M7,List.getElem?_take_of_lt hi]
 have Qd:=oG Ud
 have QZ:=oG D5
 rw[hL] at Qd
 rw[DP] at QZ
 have hVL:val 4294967296 vs≤4294967296^L:=Nat.le_trans (Nat.le_of_lt QZ) (Nat.pow_le_pow_right (by decide) hle)
 have e0:∀ {K:aA} {es:List VV},aF K b g=some (es,1,true)→nP (.ref b g o L c) K=some (VI L):=fun h=>eZ h
 have e00:∀ {K:aA},aF K b2 g2=some (Lf.map uV,1,w2)→nP (.ref b2 g2 0 n2 c2) K=some (VI n2):=fun h=>eZ h
 have rd:∀(s:List Nat),s.length=L→aF (H.set b (.row g ((pre++s++post).map uV) 1 true)) b g=some ((pre++s++post).map uV,1,true):=fun s _=>lF hr
 have rd2:∀(s:List Nat),aF (H.set b (.row g ((pre++s++post).map uV) 1 true)) b2 g2=some (Lf.map uV,1,w2):=fun s=>by rw[Ml hb];exact ZG
 have wi:∀i:Nat,i<L→IntKind.i64.wrap ((i:Int)+1)=((i+1:Nat):Int):=fun i hi=>wrapN (i+1) (by omega) (by omega)
 have back:∀(ρ:dJ) (s:List Nat),s.length=L→(∀d∈s,d<4294967296)→(∀s2:List Nat,s2.length=L→(∀d∈s2,d<4294967296)→∀c,val 4294967296 s+val 4294967296 vs=val 4294967296 s2+4294967296^L*c→val 4294967296 s2+t*val 4294967296 vs=val 4294967296 gI+val 4294967296 vs)→val 4294967296 gI<t*val 4294967296 vs→ρ 0 = .ref b g o L c→ρ 1 = .ref b2 g2 0 n2 c2→ρ 7=VK .u64 0→ρ 58=VI L→ρ 59=VI 0 →
   VW ⟨true,false⟩ lo (.loop kC) (xI 2 (lA (VW ⟨true,false⟩ lo (.seq (.eO [⟨(some 6),(.mv (.const (.bool true))),none,false,[]⟩]) .ret) (zF [.tmp 6] fun r H'=>∃oU:List Nat,H'=H.set b (.row g ((pre++oU++post).map uV) 1 true)∧oU.length=L∧(∀d∈oU,d<4294967296)∧((r=VB false∧val 4294967296 oU+t*val 4294967296 vs=val 4294967296 gI)∨(r=VB true∧val 4294967296 gI<t*val 4294967296 vs∧val 4294967296 oU+t*val 4294967296 vs=val 4294967296 gI+val 4294967296 vs)))) (zF [.tmp 6] fun r H'=>∃oU:List Nat,H'=H.set b (.row g ((pre++oU++post).map uV) 1 true)∧oU.length=L∧(∀d∈oU,d<4294967296)∧((r=VB false∧val 4294967296 oU+t*val 4294967296 vs=val 4294967296 gI)∨(r=VB true∧val 4294967296 gI<t*val 4294967296 vs∧val 4294967296 oU+t*val 4294967296 vs=val 4294967296 gI+val 4294967296 vs))))) ρ (H.set b (.row g ((pre++s++post).map uV) 1 true)):=by
  intro ρ s hs SW Ow YJ g0 g1 g7 g58 g59
  refine aR (fun(u:Nat×List Nat×Nat) ρ K=>u.1≤L∧K=H.set b (.row g ((pre++u.2.1++post).map uV) 1 true)∧u.2.1.length=L∧(∀d∈u.2.1,d<4294967296)∧u.2.2≤1∧val 4294967296 (s.take u.1)+val 4294967296 (vs.take u.1)=val 4294967296 (u.2.1.take u.1)+4294967296^u.1*u.2.2∧(∀j,u.1≤j→u.2.1[j]? = s[j]?) ∧
   ρ 0 = .ref b g o L c∧ρ 1 = .ref b2 g2 0 n2 c2∧ρ 7=VK .u64 u.2.2∧ρ 58=VI L∧ρ 59=VI u.1) (fun u=>L-u.1) (0,s,0) ⟨Nat.zero_le _,rfl,hs,SW,by simp,by simp[val],fun _ _=>rfl,g0,g1,g7,g58,g59⟩ ?_
  rintro⟨i,outs,cy⟩ LW K ⟨hi,rfl,iW,mJ,hc,hv,E9,k0,k1,k7,k58,k59⟩
  simp only at hi iW mJ hc hv E9 k7 k59
  by_cases dK:(i:Int)<(L:Int)
  ·obtain⟨x,hx⟩:∃x,outs[i]? = some x:=⟨_,List.getElem?_eq_getElem (by omega)⟩
   have lx:=mJ x (List.mem_of_getElem? hx)
   have Tt:s[i]? = some x:=by rw[←E9 i (Nat.le_refl _)];exact hx
   have e1:bI 1 (.ref b g o L c) (VI i) (H.set b (.row g ((pre++outs++post).map uV) 1 true))=some (.ptr b g (o+i) 0):=aQ (rd outs iW) (by omega)
   have e2:cO false 1 (.ptr b g (o+i) 0) (H.set b (.row g ((pre++outs++post).map uV) 1 true))=some (uV x):=gP (rd outs iW) (by rw[Ma ho (by omega)];exact hx)
   have e3:∀d:Nat,bY lo 1 (.ptr b g (o+i) 0) (uV d) (H.set b (.row g ((pre++outs++post).map uV) 1 true))=some (H.set b (.row g ((pre++outs.set i d++post).map uV) 1 true)):=fun d=>by
    rw[WU (rd outs iW) ho (by omega) eJ,kJ]
   have e4:=e00 (rd2 outs)
   have w1:IntKind.u64.wrap (x:Int)=(x:Int):=dP _ (by omega)
   have w2:IntKind.u64.wrap ((cy:Int)+(x:Int))=((cy+x:Nat):Int):=by rw[←Int.natCast_add];exact dP _ (by omega)
   have wii:=wi i (by omega)
   have step:∀y,y<4294967296→(∀d,vs[i]? = some d→d=y)→(vs.length≤i→y=0) →
     (i+1≤L∧(outs.set i ((cy+x+y) % 4294967296)).length=L∧(∀d∈outs.set i ((cy+x+y) % 4294967296),d<4294967296)∧(cy+x+y) / 4294967296≤1∧val 4294967296 (s.take (i+1))+val 4294967296 (vs.take (i+1))=val 4294967296 ((outs.set i ((cy+x+y) % 4294967296)).take (i+1))+4294967296^(i+1)*((cy+x+y) / 4294967296))∧∀j,i+1≤j→(outs.set i ((cy+x+y) % 4294967296))[j]? = s[j]? := by
    intro y hy h1 h2
    refine⟨⟨by omega,by rw[List.length_set];exact iW,mA mJ (Nat.mod_lt _ (by decide)),by omega,?_⟩,fun j hj=>by rw[List.getElem?_set_ne (by omega)];exact E9 j (by omega)⟩
    have hy':val 4294967296 (vs.take (i+1))=val 4294967296 (vs.take i)+4294967296^i*y:=by
     cases Wh:vs[i]? with
     | some d=>rw[bH Wh,h1 d Wh]
     |
      none =>
      have hle:=List.getElem?_eq_none_iff.1 Wh
      rw[h2 hle,oZ hle,oZ (by omega),Nat.mul_zero,Nat.add_zero]
    rw[bH Tt,hy',gH (by omega),Nat.pow_succ]
    exact Dw hv rfl (Nat.mod_add_div _ _)
   by_cases aV:(i:Int)<(n2:Int)
   ·obtain⟨y,hy⟩:∃y,vs[i]? = some y:=⟨_,List.getElem?_eq_getElem (by omega)⟩
    have ly:=D5 y (List.mem_of_getElem? hy)
    have f1:bI 1 (.ref b2 g2 0 n2 c2) (VI i) (H.set b (.row g ((pre++outs++post).map uV) 1 true))=some (.ptr b2 g2 i 0):=by rw[aQ (rd2 outs) (by omega),Nat.zero_add]
    have f2:cO false 1 (.ptr b2 g2 i 0) (H.set b (.row g ((pre++outs++post).map uV) 1 true))=some (uV y):=gP (rd2 outs) (by rw[rU i (by omega)];exact hy)
    have w3:IntKind.u64.wrap (y:Int)=(y:Int):=dP _ (by omega)
    have w4:IntKind.u64.wrap (((cy+x:Nat):Int)+(y:Int))=((cy+x+y:Nat):Int):=by rw[←Int.natCast_add];exact dP _ (by omega)
    obtain⟨⟨s1,s2,s3,s4,s5⟩,s6⟩:=step y ly (fun d hd=>by rw[hy] at hd;injection hd with hd;exact hd.symm) (fun h=>by omega)
    simp only[kC,k0,k1,k7,k58,k59,dK,aV,e1,e2,e3,e4,f1,f2,w1,w2,w3,w4,wii,wrap32,lP,VX,Nat.reduceEqDiff,Nat.reduceAdd]
    exact⟨(i+1,outs.set i ((cy+x+y) % 4294967296),(cy+x+y) / 4294967296),by simp only;omega,s1,rfl,s2,s3,s4,s5,s6,by (repeat' apply And.intro)<;>first | rfl | trivial⟩
   ·obtain⟨⟨s1,s2,s3,s4,s5⟩,s6⟩:=step 0 (by decide) (fun d hd=>by have:=(List.getElem?_eq_some_iff.1 hd).1;omega) (fun _=>rfl)
    simp only[Nat.add_zero] at s2 s3 s4 s5 s6
    simp only[kC,k0,k1,k7,k58,k59,dK,aV,e1,e2,e3,e4,w1,w2,wii,wrap32,lP,VX,Nat.reduceEqDiff,Nat.reduceAdd]
    exact⟨(i+1,outs.set i ((cy+x) % 4294967296),(cy+x) / 4294967296),by simp only;omega,s1,rfl,s2,s3,s4,s5,s6,by (repeat' apply And.intro)<;>first | rfl | trivial⟩
  ·have qG:i=L:=by omega
   subst qG
   rw[List.take_of_length_le (by omega),List.take_of_length_le (by omega),List.take_of_length_le (by omega)] at hv
   simp only[kC,k0,k1,k7,k58,k59,dK,VX,Nat.reduceEqDiff,Nat.reduceAdd]
   exact⟨outs,rfl,iW,mJ,.inr ⟨YJ,Ow outs iW mJ cy hv⟩⟩
 simp only[Da,AL,e0 hr,VX,Nat.reduceEqDiff,Nat.reduceAdd]
 refine aR (fun(u:Nat×List Nat×Nat×Nat) ρ K=>u.1≤L∧K=H.set b (.row g ((pre++u.2.1++post).map uV) 1 true)∧u.2.1.length=L∧(∀d∈u.2.1,d<4294967296)∧u.2.2.1<4294967296∧u.2.2.2≤1∧val 4294967296 (gI.take u.1)+4294967296^u.1*(u.2.2.1+u.2.2.2)=val 4294967296 (u.2.1.take u.1)+t*val 4294967296 (vs.take u.1)∧(∀j,u.1≤j→u.2.1[j]? = gI[j]?) ∧
  ρ 0 = .ref b g o L c∧ρ 1 = .ref b2 g2 0 n2 c2∧ρ 2=VK .u64 t∧ρ 7=VK .u64 u.2.2.1∧ρ 8=VI u.2.2.2∧ρ 13=VI L∧ρ 14=VI u.1) (fun u=>L-u.1) (0,gI,0,0) ⟨Nat.zero_le _,(tF hr).symm,hL,Ud,by simp,by simp,by simp[val],fun _ _=>rfl,by (repeat' apply And.intro)<;>first | rfl | trivial⟩ ?_
 rintro⟨i,outs,cy,l⟩ ρ K ⟨hi,rfl,iW,mJ,hc,CY,hv,E9,k0,k1,k2,k7,k8,zK,AR⟩
 simp only at hi iW mJ hc CY hv E9 k7 k8 AR
 by_cases dK:(i:Int)<(L:Int)
 ·obtain⟨x,hx⟩:∃x,outs[i]? = some x:=⟨_,List.getElem?_eq_getElem (by omega)⟩
  have lx:=mJ x (List.mem_of_getElem? hx)
  have Tt:gI[i]? = some x:=by rw[←E9 i (Nat.le_refl _)];exact hx
  have e1:bI 1 (.ref b g o L c) (VI i) (H.set b (.row g ((pre++outs++post).map uV) 1 true))=some (.ptr b g (o+i) 0):=aQ (rd outs iW) (by omega)
  have e2:cO false 1 (.ptr b g (o+i) 0) (H.set b (.row g ((pre++outs++post).map uV) 1 true))=some (uV x):=gP (rd outs iW) (by rw[Ma ho (by omega)];exact hx)
  have e3:∀d:Nat,bY lo 1 (.ptr b g (o+i) 0) (uV d) (H.set b (.row g ((pre++outs++post).map uV) 1 true))=some (H.set b (.row g ((pre++outs.set i d++post).map uV) 1 true)):=fun d=>by
   rw[WU (rd outs iW) ho (by omega) eJ,kJ]
  have e4:=e00 (rd2 outs)
  have wii:=wi i (by omega)
  have w1:IntKind.i64.wrap (x:Int)=(x:Int):=wrapN x rfl (by omega)
  have step:∀y c1,y<4294967296→c1=cy+t*y→(∀d,vs[i]? = some d→d=y)→(vs.length≤i→y=0) →
    c1 / 4294967296<4294967296∧IntKind.i64.wrap ((x:Int)-((c1 % 4294967296:Nat):Int)-(l:Int))=(x:Int)-((c1 % 4294967296:Nat):Int)-(l:Int)∧IntKind.i64.wrap ((x:Int)-((c1 % 4294967296:Nat):Int))=(x:Int)-((c1 % 4294967296:Nat):Int) ∧
    ∃r l',l'≤1∧((x:Int)-((c1 % 4294967296:Nat):Int)-(l:Int)<0↔l'=1)∧IntKind.u32.wrap ((x:Int)-((c1 % 4294967296:Nat):Int)-(l:Int))=((r:Nat):Int) ∧
    (i+1≤L∧(outs.set i r).length=L∧(∀d∈outs.set i r,d<4294967296)∧c1 / 4294967296<4294967296∧l'≤1∧val 4294967296 (gI.take (i+1))+4294967296^(i+1)*(c1 / 4294967296+l')=val 4294967296 ((outs.set i r).take (i+1))+t*val 4294967296 (vs.take (i+1))∧∀j,i+1≤j→(outs.set i r)[j]? = gI[j]?):=by
   intro y c1 hy T4 h1 h2
   have hty:t*y≤4294967295*4294967295:=Nat.mul_le_mul (by omega) (by omega)
   have hm:=Nat.mod_lt c1 (show 0<4294967296 by decide)
   have hdv:=Nat.mod_add_div c1 4294967296
   have hq:c1 / 4294967296<4294967296:=Nat.div_lt_of_lt_mul (by omega)
   refine⟨hq,wrap64 (by omega) (by omega),wrap64 (by omega) (by omega),?_⟩
   obtain⟨r,l',AQ,DN,hd,hlw,sW⟩:∃r l':Nat,l'≤1∧r<4294967296∧r+c1 % 4294967296+l=x+4294967296*l'∧IntKind.u32.wrap ((x:Int)-((c1 % 4294967296:Nat):Int)-(l:Int))=((r:Nat):Int)∧((x:Int)-((c1 % 4294967296:Nat):Int)-(l:Int)<0↔l'=1):=by
    by_cases hn:(x:Int)-((c1 % 4294967296:Nat):Int)-(l:Int)<0
    ·exact⟨x+4294967296-c1 % 4294967296-l,1,by omega,by omega,by omega,Wf (by omega) hn (by omega),fun _=>rfl,fun _=>hn⟩
    ·exact⟨x-c1 % 4294967296-l,0,by omega,by omega,by omega,by rw[IntKind.wrap_u32];omega,fun h=>absurd h hn,fun h=>by omega⟩
   refine⟨r,l',AQ,sW,hlw,by omega,by rw[List.length_set];exact iW,mA mJ DN,hq,AQ,?_,fun j hj=>by rw[List.getElem?_set_ne (by omega)];exact E9 j (by omega)⟩
   have hy':val 4294967296 (vs.take (i+1))=val 4294967296 (vs.take i)+4294967296^i*y:=by
    cases Wh:vs[i]? with
    | some d=>rw[bH Wh,h1 d Wh]
    |
     none =>
     have hle:=List.getElem?_eq_none_iff.1 Wh
     rw[h2 hle,oZ hle,oZ (by omega),Nat.mul_zero,Nat.add_zero]
   rw[bH Tt,hy',gH (by omega),Nat.pow_succ]
   have:=Ul hv T4 hdv.symm hd
   rw[this,Nat.mul_add,Nat.mul_left_comm t]
  by_cases aV:(i:Int)<(n2:Int)
  ·obtain⟨y,hy⟩:∃y,vs[i]? = some y:=⟨_,List.getElem?_eq_getElem (by omega)⟩
   have ly:=D5 y (List.mem_of_getElem? hy)
   have f1:bI 1 (.ref b2 g2 0 n2 c2) (VI i) (H.set b (.row g ((pre++outs++post).map uV) 1 true))=some (.ptr b2 g2 i 0):=by rw[aQ (rd2 outs) (by omega),Nat.zero_add]
   have f2:cO false 1 (.ptr b2 g2 i 0) (H.set b (.row g ((pre++outs++post).map uV) 1 true))=some (uV y):=gP (rd2 outs) (by rw[rU i (by omega)];exact hy)
   have w3:IntKind.u64.wrap (y:Int)=(y:Int):=dP _ (by omega)
   have hty:t*y≤4294967295*4294967295:=Nat.mul_le_mul (by omega) (by omega)
   have w4:IntKind.u64.wrap ((t:Int)*(y:Int))=((t*y:Nat):Int):=by rw[←Int.natCast_mul];exact dP _ (by omega)
   have w5:IntKind.u64.wrap ((cy:Int)+((t*y:Nat):Int))=((cy+t*y:Nat):Int):=by rw[←Int.natCast_add];exact dP _ (by omega)
   have w6:IntKind.i64.wrap (((cy+t*y) % 4294967296:Nat):Int)=(((cy+t*y) % 4294967296:Nat):Int):=wrapN _ rfl (by omega)
   obtain⟨_,a1,a2,r,l',AQ,sW,hw,s1,s2,s3,s4,s5,s6,s7⟩:=step y (cy+t*y) ly rfl (fun d hd=>by rw[hy] at hd;injection hd with hd;exact hd.symm) (fun h=>by omega)
   by_cases hn:(x:Int)-(((cy+t*y) % 4294967296:Nat):Int)-(l:Int)<0
   ·have:=sW.1 hn
    subst this
    simp only[fB,k0,k1,k2,k7,k8,zK,AR,dK,aV,e1,e2,e3,e4,f1,f2,w1,w3,w4,w5,w6,a1,a2,hn,hw,wii,wrap32,lP,VX,Nat.reduceEqDiff,Nat.reduceAdd]
    exact⟨(i+1,outs.set i r,(cy+t*y) / 4294967296,1),by simp only;omega,s1,rfl,s2,s3,s4,s5,s6,s7,by (repeat' apply And.intro)<;>first | rfl | trivial⟩
   ·have:l'=0:=by
     have:l'≠1:=fun h=>hn (sW.2 h)
     omega
    subst this
    simp only[fB,k0,k1,k2,k7,k8,zK,AR,dK,aV,e1,e2,e3,e4,f1,f2,w1,w3,w4,w5,w6,a1,a2,hn,hw,wii,wrap32,lP,VX,Nat.reduceEqDiff,Nat.reduceAdd]
    exact⟨(i+1,outs.set i r,(cy+t*y) / 4294967296,0),by simp only;omega,s1,rfl,s2,s3,s4,s5,s6,s7,by (repeat' apply And.intro)<;>first | rfl | trivial⟩
  ·have w6:IntKind.i64.wrap ((cy % 4294967296:Nat):Int)=((cy % 4294967296:Nat):Int):=wrapN _ rfl (by omega)
   obtain⟨_,a1,a2,r,l',AQ,sW,hw,s1,s2,s3,s4,s5,s6,s7⟩:=step 0 cy (by decide) (by simp) (fun d hd=>by have:=(List.getElem?_eq_some_iff.1 hd).1;omega) (fun _=>rfl)
   by_cases hn:(x:Int)-((cy % 4294967296:Nat):Int)-(l:Int)<0
   ·have:=sW.1 hn
    subst this
    simp only[fB,k0,k1,k2,k7,k8,zK,AR,dK,aV,e1,e2,e3,e4,w1,w6,a1,a2,hn,hw,wii,wrap32,lP,VX,Nat.reduceEqDiff,Nat.reduceAdd]
    exact⟨(i+1,outs.set i r,cy / 4294967296,1),by simp only;omega,s1,rfl,s2,s3,s4,s5,s6,s7,by (repeat' apply And.intro)<;>first | rfl | trivial⟩
   ·have:l'=0:=by
     have:l'≠1:=fun h=>hn (sW.2 h)
     omega
    subst this
    simp only[fB,k0,k1,k2,k7,k8,zK,AR,dK,aV,e1,e2,e3,e4,w1,w6,a1,a2,hn,hw,wii,wrap32,lP,VX,Nat.reduceEqDiff,Nat.reduceAdd]
    exact⟨(i+1,outs.set i r,cy / 4294967296,0),by simp only;omega,s1,rfl,s2,s3,s4,s5,s6,s7,by (repeat' apply And.intro)<;>first | rfl | trivial⟩
 ·have qG:i=L:=by omega
  subst qG
  rw[List.take_of_length_le (by omega),List.take_of_length_le (by omega),List.take_of_length_le (by omega)] at hv
  have abZ:=oG mJ
  rw[iW] at abZ
  by_cases hz:l=0∧cy=0
  ·obtain⟨rfl,rfl⟩:=hz
   simp only[fB,k0,k1,k2,k7,k8,zK,AR,dK,Int.natCast_zero,VX,Nat.reduceEqDiff,Nat.reduceAdd]
   exact⟨outs,rfl,iW,mJ,.inl (by simpa using hv.symm)⟩
  ·have apL:cy+l=1:=by
    rcases Yq hv abZ hVL qK with h | h<;>omega
   rw[apL,Nat.mul_one] at hv
   have YJ:val 4294967296 gI<t*val 4294967296 vs:=by omega
   have fin:∀s2:List Nat,s2.length=i→(∀d∈s2,d<4294967296)→∀c,val 4294967296 outs+val 4294967296 vs=val 4294967296 s2+4294967296^i*c→val 4294967296 s2+t*val 4294967296 vs=val 4294967296 gI+val 4294967296 vs:=by
    intro s2 h2 h3 c h4
    have h5:=oG h3
    rw[h2] at h5
    exact Wg hv h4 h5 hVL qK Qd (by omega)
   have hlen:=e0 (rd outs iW)
   by_cases wX:(l:Int)=0
   ·have hcy:¬(cy:Int)=0:=by omega
    simp only[fB,k0,k1,k2,k7,k8,zK,AR,dK,wX,hcy,hlen,VX,Nat.reduceEqDiff,Nat.reduceAdd]
    exact back _ outs iW mJ fin YJ k0 k1 (by rfl) (by rfl) (by rfl)
   ·simp only[fB,k0,k1,k2,k7,k8,zK,AR,dK,wX,hlen,VX,Nat.reduceEqDiff,Nat.reduceAdd]
    exact back _ outs iW mJ fin YJ k0 k1 (by rfl) (by rfl) (by rfl)
end Go.PM