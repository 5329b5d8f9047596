/- Texts of a claim, in one: part 7. -/
import Derived.Test.YtodamlihdkalfaaGreatDoorKQf
set_option linter.unusedSimpArgs false
set_option linter.unusedVariables false
namespace Go.PM
abbrev uV (d:Nat):VV := .sc (.int .u32 (d:Int))
abbrev yJ (ds:List Nat):VV:=bT uV ds
def bC (n:Nat):VV:=yJ (aC 4294967296 n)
theorem PH:∀d:Nat,(aA (uV d)).length=1:=fun _=>rfl
theorem SY (ds:List Nat):aW (yJ ds)=true:=jA PH fun _=>rfl
theorem WB (ds:List Nat):gH (yJ ds)=true:=Bt PH (fun _=>rfl) fun _=>rfl
theorem bK (n:Nat):aW (bC n)=true:=SY _
theorem nX (n:Nat):gH (bC n)=true:=WB _
theorem Cb:bC 0 = .tree [] .op:=by rw[bC,bR];rfl
theorem RU (a b:Nat) (ha:a<18446744073709551616) (hb:0<b):cU .quo (.int .u64 (a:Int)) (.int .u64 (b:Int))=some (.int .u64 ((a / b:Nat):Int)):=by
 have h1:¬((b:Int)=0):=by omega
 have h2:(a:Int).tdiv (b:Int)=((a / b:Nat):Int):=by rw[Int.tdiv_eq_ediv_of_nonneg (by omega)];simp
 have h3:a / b≤a:=Nat.div_le_self _ _
 simp only[cU,if_true,h1,if_false,h2]
 rw[eH _ (by omega)]
theorem Mc (a b:Nat) (hb:0<b):cU .rem (.int .u64 (a:Int)) (.int .u64 (b:Int))=some (.int .u64 ((a % b:Nat):Int)):=by
 have h1:¬((b:Int)=0):=by omega
 have h2:(a:Int).tmod (b:Int)=((a % b:Nat):Int):=by rw[Int.tmod_eq_emod_of_nonneg (by omega)];simp
 simp only[cU,if_true,h1,if_false,h2]
theorem acQ (n s:Nat) (hn:n<4294967296) (hs:s≤31):cU .shl (.int .u64 (n:Int)) (.int .i64 (s:Int))=some (.int .u64 ((n*2^s:Nat):Int)):=by
 have h1:¬((s:Int)<0):=by omega
 have h2:Nat.min (Int.toNat (s:Int)) IntKind.u64.bits=s:=by
  rw[Int.toNat_natCast]
  exact Nat.min_eq_left (by show s≤64;omega)
 have h3:2^s≤2^31:=Nat.pow_le_pow_right (by decide) hs
 have h4:n*2^s≤n*2^31:=Nat.mul_le_mul_left _ h3
 simp only[cU,h1,if_false,h2]
 congr 2
 have e:(n:Int)*2^s=((n*2^s:Nat):Int):=by simp
 rw[e]
 exact eH _ (by omega)
theorem Vn (n s:Nat) (hs:s≤31):cU .shr (.int .u64 (n:Int)) (.int .i64 (s:Int))=some (.int .u64 ((n / 2^s:Nat):Int)):=by
 have h1:¬((s:Int)<0):=by omega
 have h2:Nat.min (Int.toNat (s:Int)) IntKind.u64.bits=s:=by
  rw[Int.toNat_natCast]
  exact Nat.min_eq_left (by show s≤64;omega)
 simp only[cU,h1,if_false,h2]
 congr 2
 rw[Int.fdiv_eq_ediv_of_nonneg _ (by exact Int.le_of_lt (Int.pow_pos (by decide)))]
 simp
theorem ZR (a m s:Nat) (ha:a<2^s) (hm:m*2^s+a<4294967296):cU .or (.int .u32 (a:Int)) (.int .u32 ((m*2^s:Nat):Int))=some (.int .u32 ((a+m*2^s:Nat):Int)):=by
 have e:a ||| (m*2^s)=a+m*2^s:=by
  have:=Nat.shiftLeft_add_eq_or_of_lt ha m
  rw[Nat.shiftLeft_eq] at this
  rw[Nat.or_comm,←this,Nat.add_comm]
 have e1:(BitVec.ofInt IntKind.u32.bits (a:Int) ||| BitVec.ofInt IntKind.u32.bits ((m*2^s:Nat):Int)).toNat=a+m*2^s:=by
  show (BitVec.ofInt 32 (a:Int) ||| BitVec.ofInt 32 ((m*2^s:Nat):Int)).toNat=a+m*2^s
  rw[BitVec.toNat_or,BitVec.ofInt_natCast,BitVec.ofInt_natCast,BitVec.toNat_ofNat,BitVec.toNat_ofNat,Nat.mod_eq_of_lt (by omega),Nat.mod_eq_of_lt (by omega),e]
 simp only[cU,if_true,e1]
 rw[wrap32,Nat.mod_eq_of_lt (by omega)]
section
variable {rows:List Nat} {b g c n e:Nat} {w:Bool} {H:aB}
theorem Ho {m d:Nat} (hr:aV H b g=some (rows.map uV,1,w)) (hn:n≤rows.length) (hc:n≤c) (he:rows.take n=aC 4294967296 m):fz (d+2) H (.ref b g 0 n c)=some (bC m):=by
 have:aW (.ref b g 0 n c)=false:=rfl
 unfold fz
 simp only[this,hr,Bool.false_eq_true,if_false]
 have A0:aK ((rows.map uV).take n)=true:=by rw[←List.map_take];exact dY fun _=>rfl
 rw[if_pos ⟨by simpa using hn,hc⟩,List.drop_zero,mapM_pure A0,←List.map_take,he]
 rfl
theorem Lr {m:Nat} (hr:aV H b g=some (rows.map uV,1,w)) (hn:n≤rows.length) (hc:n≤c) (he:rows.take n=aC 4294967296 m):fz depth H (.ref b g 0 n c)=some (bC m):=Ho (d:=6) hr hn hc he
theorem bH {d:Nat} {u u' v v':VV} (h1:fz (d+1) H u=some u') (h2:fz (d+1) H v=some v'):fz (d+2) H (.eK [u,v])=some (.eK [u',v']):=by
 have e:fz (d+2) H (.eK [u,v])=if aW (.eK [u,v])=true then some (.eK [u,v]) else ([u,v].mapM (fz (d+1) H)).map .eK:=rfl
 rw[e]
 by_cases hp:aW (.eK [u,v])=true
 ·rw[if_pos hp]
  simp only[aW,aK,Bool.and_eq_true,and_true] at hp
  rw[aJ hp.1] at h1
  rw[aJ hp.2] at h2
  cases h1
  cases h2
  rfl
 ·rw[if_neg hp,List.mapM_cons,h1,List.mapM_cons,h2]
  rfl
theorem gS {j d:Nat} (hr:aV H b g=some (rows.map uV,1,w)) (hj:rows[j]? = some d):gM false 1 (.ptr b g j 0) H=some (uV d):=BU hr hj
theorem L6 {xs:List Nat} {m d:Nat} (hm:xs.length=m+1) (hd:xs[m]? = some d) (h:d≠0):xs.getLast? ≠ some 0:=by
 rw[List.getLast?_eq_getElem?,hm,Nat.add_sub_cancel,hd]
 simpa using h
end
theorem Wz {rows:List Nat} {b g n c:Nat} {w:Bool} {H:aB} {lo:Nat} (hr:aV H b g=some (rows.map uV,1,w)) (hn:n≤rows.length) (hc:n≤c) (A2:n≤70368744177664) (hd:∀d∈rows.take n,d<4294967296) :
  vN 182 [.ref b g 0 n c] lo H fun r H'=>H'=H∧∃k,k≤n∧r = .ref b g 0 k c∧rows.take k=aC 4294967296 (val 4294967296 (rows.take n)):=by
 refine vN.walk ⟨true,false⟩ wR (Nat.le_of_ble_eq_true rfl) ?_
 simp only[sU,pN,VX,Nat.reduceEqDiff,Nat.reduceAdd]
 refine bB (fun(k:Nat) ρ H'=>k≤n∧H'=H∧val 4294967296 (rows.take k)=val 4294967296 (rows.take n)∧ρ 0 = .ref b g 0 k c) (fun k=>k) n ⟨Nat.le_refl _,rfl,rfl,rfl⟩ ?_
 rintro k ρ H' ⟨hk,rfl,hv,h0⟩
 have e0:pE (.ref b g 0 k c) H'=some (VI k):=iS hr
 have done:(rows.take k).getLast? ≠ some 0→rows.take k=aC 4294967296 (val 4294967296 (rows.take n)):=fun eW=>by
  rw[←hv,IJ (by decide) (fun d h=>hd d ?_) eW]
  exact(List.take_sublist_take_left hk).mem h
 rcases Nat.eq_zero_or_pos k with hz | hp
 ·subst hz
  simp only[eI,h0,e0,Int.reduceLT,Int.natCast_zero,VX,Nat.reduceEqDiff,Nat.reduceAdd]
  exact⟨0,hk,rfl,done (by simp)⟩
 ·obtain⟨m,rfl⟩:∃m,k=m+1:=⟨k-1,by omega⟩
  obtain⟨d,Vg⟩:∃d,rows[m]? = some d:=⟨_,List.getElem?_eq_getElem (by omega)⟩
  have A0:(0:Int)<((m+1:Nat):Int):=by omega
  have w1:IntKind.i64.wrap (((m+1:Nat):Int)-1)=(m:Int):=by rw[wrap64 (by omega) (by omega)];omega
  have e1:bE 1 (.ref b g 0 (m+1) c) (VI m) H'=some (.ptr b g m 0):=by rw[bD hr (by omega),Nat.zero_add]
  have e2:=gS hr Vg
  by_cases BG:(d:Int)=0
  ·have hd1:d=0:=by omega
   subst hd1
   have e3:DR 1 (.ref b g 0 (m+1) c) none (some (VI m)) none H'=some (.ref b g 0 m c):=wL hr (by omega)
   simp only[eI,h0,e0,A0,w1,e1,e2,e3,BG,VX,Nat.reduceEqDiff,Nat.reduceAdd]
   refine⟨m,by omega,by omega,?_,rfl⟩
   rw[←hv,aS Vg,Nat.mul_zero,Nat.add_zero]
  ·simp only[eI,h0,e0,A0,w1,e1,e2,BG,VX,Nat.reduceEqDiff,Nat.reduceAdd]
   refine⟨m+1,hk,rfl,done (L6 (m:=m) (d:=d) (by rw[List.length_take];omega) ?_ (by omega))⟩
   rw[List.getElem?_take_of_lt (by omega)]
   exact Vg
theorem Tn (ds:List Nat) (t:TK) {lo:Nat} {H:aB} (h:∀d∈ds,d<4294967296) (hlen:ds.length≤70368744177664) :
  vN 182 [.tree (ds.map uV) t] lo H fun r H'=>H'=H∧∃t',(t'=t∨t' = .op)∧r = .tree ((aC 4294967296 (val 4294967296 ds)).map uV) t':=by
 refine vN.walk ⟨true,false⟩ wR (Nat.le_of_ble_eq_true rfl) ?_
 simp only[sU,pN,VX,Nat.reduceEqDiff,Nat.reduceAdd]
 refine bB (fun(s:List Nat×TK) ρ H'=>(∀d∈s.1,d<4294967296)∧val 4294967296 s.1=val 4294967296 ds∧s.1.length≤ds.length∧H'=H∧(s.2=t∨s.2 = .op)∧ρ 0 = .tree (s.1.map uV) s.2) (fun s=>s.1.length) (ds,t) ⟨h,rfl,Nat.le_refl _,rfl,.inl rfl,rfl⟩ ?_
 rintro⟨xs,t'⟩ ρ H' ⟨hx,hv,hl,rfl,ht,h0⟩
 simp only at hx hv hl ht h0
 have done:xs.getLast? ≠ some 0→xs=aC 4294967296 (val 4294967296 ds):=fun eW=>by rw[←hv,IJ (by decide) hx eW]
 rcases Nat.eq_zero_or_pos xs.length with hz | hp
 ·have hxn:xs=[]:=List.length_eq_zero_iff.1 hz
  subst hxn
  simp only[eI,h0,Int.reduceLT,Int.natCast_zero,VX,Nat.reduceEqDiff,Nat.reduceAdd]
  exact⟨t',ht,by rw[←done (by simp)];rfl⟩
 ·obtain⟨m,hm⟩:∃m,xs.length=m+1:=⟨xs.length-1,by omega⟩
  obtain⟨d,hd⟩:∃d,xs[m]? = some d:=⟨_,List.getElem?_eq_getElem (by omega)⟩
  have A0:(0:Int)<((m+1:Nat):Int):=by omega
  have w1:IntKind.i64.wrap (((m+1:Nat):Int)-1)=(m:Int):=by rw[wrap64 (by omega) (by omega)];omega
  have e1:=aP (f:=uV) (t:=t') (H:=H') (size:=1) (k := .i64) hd rfl
  by_cases BG:(d:Int)=0
  ·have hd1:d=0:=by omega
   subst hd1
   have e2:=Gu (f:=uV) (size:=1) (t:=t') (H:=H') (k2 := .i64) (xs:=xs) (h:=m) PH (by omega) (by omega)
   have Ns:xs=xs.take m++[0]:=by
    have:=List.take_append_drop m xs
    have h3:=(List.getElem?_eq_some_iff.1 hd)
    rw[List.drop_eq_getElem_cons h3.1,h3.2,List.drop_of_length_le (by omega)] at this
    exact this.symm
   simp only[eI,h0,hm,A0,w1,e1,e2,BG,VX,Nat.reduceEqDiff,Nat.reduceAdd]
   refine⟨(xs.take m,.op),by simp only[List.length_take];omega,fun d hd=>hx d (List.mem_of_mem_take hd),?_,by simp only[List.length_take];omega,.inr rfl,rfl⟩
   rw[←hv]
   conv=>rhs;rw[Ns]
   rw[pY]
   simp
  ·simp only[eI,h0,hm,A0,w1,e1,BG,VX,Nat.reduceEqDiff,Nat.reduceAdd]
   exact⟨t',ht,by rw[←done (L6 hm hd (by omega))]⟩
theorem oZ {rows:List Nat} {b g n c:Nat} {w:Bool} {H:aB} {K:VV→aB→Prop} {m lo:Nat} (hr:aV H b g=some (rows.map uV,1,w)) (hn:n≤rows.length) (hc:n≤c) (A2:n≤70368744177664) (hd:∀d∈rows.take n,d<4294967296) (hm:val 4294967296 (rows.take n)=m)
  (hk:∀k,k≤n→rows.take k=aC 4294967296 m→K (.ref b g 0 k c) H):dJ 182 [.ref b g 0 n c] lo H K:=by
 refine oW rfl ((Wz hr hn hc A2 hd).mono ?_)
 rintro r H' ⟨rfl,k,h1,rfl,h2⟩
 rw[hm] at h2
 exact hk k h1 h2
theorem I1 {ds:List Nat} {t:TK} {lo:Nat} {H:aB} {K:VV→aB→Prop} {m:Nat} (h:∀d∈ds,d<4294967296) (hlen:ds.length≤70368744177664) (hm:val 4294967296 ds=m) (hk:∀t',(t'=t∨t' = .op)→K (.tree ((aC 4294967296 m).map uV) t') H):dJ 182 [.tree (ds.map uV) t] lo H K:=by
 refine oW rfl ((Tn ds t h hlen).mono ?_)
 rintro r H' ⟨rfl,t',h1,rfl⟩
 rw[hm]
 exact hk t' h1
theorem XQ {H:aB} {m:Nat} {t:TK} (ht:t = .cl 1∨t = .op):fz depth H (.tree ((aC 4294967296 m).map uV) t)=some (bC m):=by
 rcases ht with rfl | rfl
 ·exact Zu (dY fun _=>rfl)
 ·exact aI (bK m)
end Go.PM
namespace Go.PM
theorem kZ (n:Nat) (h:n<18446744073709551616):TC 101 [VK .u64 n] (bC n):=by
 refine TC.walk ⟨true,false⟩ Mv rfl (Nat.le_of_ble_eq_true rfl) rfl (nX _) ?_
 have e1:=U9 (H:=[]) (z:=[.int .u32 0]) (u:=uV (n % 4294967296)) (v:=uV (n / 4294967296 % 4294967296)) rfl rfl rfl rfl rfl
 have hm:∀d∈[n % 4294967296,n / 4294967296 % 4294967296],d<4294967296:=by
  intro d hd
  simp only[List.mem_cons,List.not_mem_nil,or_false] at hd
  rcases hd with rfl | rfl<;>exact Nat.mod_lt _ (by decide)
 have hv:val 4294967296 [n % 4294967296,n / 4294967296 % 4294967296]=n:=by
  simp only[val]
  have:=Nat.mod_add_div n 4294967296
  rw[Nat.mod_eq_of_lt (show n / 4294967296<4294967296 by omega)]
  omega
 simp only[HR,DI,wrap32,qI,e1,VX,Nat.reduceEqDiff,Nat.reduceAdd]
 refine I1 (ds:=[n % 4294967296,n / 4294967296 % 4294967296]) (t := .cl 1) hm (by show 2≤70368744177664;decide) hv fun t' ht => ?_
 simp only[VX,Nat.reduceEqDiff,Nat.reduceAdd]
 exact XQ ht
theorem yE (n:Nat) (hn:(aC 4294967296 n).length≤17592186044416):TC 218 [bC n] (if (aC 4294967296 n).length≤2 then .eK [VK .u64 n,VB true] else .eK [VK .u64 0,VB false]):=by
 refine TC.walk ⟨true,false⟩ Dj rfl (Nat.le_of_ble_eq_true rfl) (by simp[aK,bK]) (by split<;>rfl) ?_
 have hv:=bW (b:=4294967296) (by decide) n
 have hl:=eE (b:=4294967296) (by decide) n
 unfold bC yJ
 generalize aC 4294967296 n=ds at *
 have w1:IntKind.i64.wrap ((ds.length:Int)-1)=(ds.length:Int)-1:=wrap64 (by omega) (by omega)
 simp only[xQ,uM,w1,VX,Nat.reduceEqDiff,Nat.reduceAdd]
 by_cases h2:ds.length≤2
 ·rw[if_pos h2]
  have c2:(ds.length:Int)≤2:=by omega
  refine bB (fun(j:Nat) ρ H=>j≤ds.length∧H=[]∧ρ 0=bT uV ds∧ρ 4=VK .u64 (val 4294967296 (ds.drop j):Nat)∧ρ 5=VI ((j:Int)-1)) (fun j=>j) ds.length ⟨Nat.le_refl _,rfl,rfl,by rw[List.drop_length];rfl,rfl⟩ ?_
  rintro j ρ H ⟨hj,rfl,g0,g4,g5⟩
  by_cases hz:(0:Int)≤(j:Int)-1
  ·obtain⟨i,rfl⟩:∃i,j=i+1:=⟨j-1,by omega⟩
   obtain⟨x,hx⟩:∃x,ds[i]? = some x:=⟨_,List.getElem?_eq_getElem (by omega)⟩
   have JD:((i+1:Nat):Int)-1=(i:Int):=by omega
   rw[JD] at g5 hz
   have e1:=aP (f:=uV) (t := .op) (H:=[]) (size:=1) (k := .i64) hx rfl
   have lx:=hl x (List.mem_of_getElem? hx)
   have ld:=mT (b:=4294967296) (xs:=ds.drop (i+1)) fun d hd=>hl d (List.mem_of_mem_drop hd)
   have hle:(ds.drop (i+1)).length≤1:=by rw[List.length_drop];omega
   have hpw:4294967296^(ds.drop (i+1)).length≤4294967296^1:=Nat.pow_le_pow_right (by decide) hle
   rw[Nat.pow_one] at hpw
   have w2:IntKind.i64.wrap ((i:Int)-1)=(i:Int)-1:=wrap64 (by omega) (by omega)
   have w3:IntKind.u64.wrap (x:Int)=(x:Int):=eH _ (by omega)
   have w4:IntKind.u64.wrap (((val 4294967296 (ds.drop (i+1))*4294967296:Nat):Int)+(x:Int))=((val 4294967296 (ds.drop i):Nat):Int):=by
    rw[pS hx,←Int.natCast_add,eH _ (by omega)]
    congr 1
    omega
   have w5:=Cg (val 4294967296 (ds.drop (i+1))) .u64 (by omega)
   simp only[jV,g0,g4,g5,hz,c2,e1,w2,w3,w4,w5,VX,Nat.reduceEqDiff,Nat.reduceAdd]
   exact⟨i,by omega,by omega,by (repeat' apply And.intro)<;>first | rfl | trivial⟩
  ·have PT:j=0:=by omega
   subst PT
   rw[List.drop_zero,hv] at g4
   simp only[jV,g0,g4,g5,hz,c2,VX,Nat.reduceEqDiff,Nat.reduceAdd]
   exact aI rfl
 ·rw[if_neg h2]
  have c2:¬(ds.length:Int)≤2:=by omega
  have c3:(0:Int)≤(ds.length:Int)-1:=by omega
  refine bB (fun(j:Nat) ρ H=>H=[]∧ρ 0=bT uV ds∧ρ 4=VK .u64 0∧ρ 5=VI ((ds.length:Int)-1)) (fun j=>j) 0 ⟨rfl,rfl,rfl,rfl⟩ ?_
  rintro j ρ H ⟨rfl,g0,g4,g5⟩
  simp only[jV,g0,g4,g5,c2,c3,VX,Nat.reduceEqDiff,Nat.reduceAdd]
  exact aI rfl
theorem iP (a b:Nat) (ha:(aC 4294967296 a).length≤17592186044416) (hb:(aC 4294967296 b).length≤17592186044416):TC 170 [bC a,bC b] (VI (dX a b)):=by
 refine TC.walk ⟨true,false⟩ EV rfl (Nat.le_of_ble_eq_true rfl) (by simp[aK,bK]) rfl ?_
 have fin:∀ {x:Int},x=dX a b→fz depth [] (VI x)=some (VI (dX a b)):=fun h=>by rw[h];exact aI rfl
 unfold bC yJ
 by_cases hl:(((aC 4294967296 a).length:Nat):Int)=(((aC 4294967296 b).length:Nat):Int)
 ·have A7:(aC 4294967296 a).length=(aC 4294967296 b).length:=by omega
  have w1:IntKind.i64.wrap ((((aC 4294967296 b).length:Nat):Int)-1)=(((aC 4294967296 b).length:Nat):Int)-1:=wrap64 (by omega) (by omega)
  simp only[qM,nE,hl,w1,VX,Nat.reduceEqDiff,Nat.reduceAdd]
  refine bB (fun(j:Nat) ρ H=>j≤(aC 4294967296 b).length∧H=[]∧(aC 4294967296 a).drop j=(aC 4294967296 b).drop j∧ρ 0=bT uV (aC 4294967296 a)∧ρ 1=bT uV (aC 4294967296 b)∧ρ 5=VI ((j:Int)-1)) (fun j=>j) (aC 4294967296 b).length ⟨Nat.le_refl _,rfl,by rw[List.drop_length,←A7,List.drop_length],rfl,rfl,rfl⟩ ?_
  rintro j ρ H ⟨hj,rfl,hd,h0,h1,h5⟩
  by_cases hz:(0:Int)≤(j:Int)-1
  ·obtain⟨i,rfl⟩:∃i,j=i+1:=⟨j-1,by omega⟩
   obtain⟨x,hx⟩:∃x,(aC 4294967296 a)[i]? = some x:=⟨_,List.getElem?_eq_getElem (by omega)⟩
   obtain⟨y,hy⟩:∃y,(aC 4294967296 b)[i]? = some y:=⟨_,List.getElem?_eq_getElem (by omega)⟩
   have JD:((i+1:Nat):Int)-1=(i:Int):=by omega
   have e1:=aP (f:=uV) (t := .op) (H:=[]) (size:=1) (k := .i64) hx rfl
   have e2:=aP (f:=uV) (t := .op) (H:=[]) (size:=1) (k := .i64) hy rfl
   rw[JD] at h5 hz
   have w2:IntKind.i64.wrap ((i:Int)-1)=(i:Int)-1:=wrap64 (by omega) (by omega)
   by_cases Af:(x:Int)=(y:Int)
   ·simp only[jF,h0,h1,h5,hz,e1,e2,Af,w2,VX,Nat.reduceEqDiff,Nat.reduceAdd]
    have Z1:x=y:=by omega
    subst Z1
    refine⟨i,by omega,by omega,?_⟩
    obtain⟨g1,g2⟩:=List.getElem?_eq_some_iff.1 hx
    obtain⟨g3,g4⟩:=List.getElem?_eq_some_iff.1 hy
    rw[List.drop_eq_getElem_cons g1,List.drop_eq_getElem_cons g3,g2,g4,hd]
    exact⟨rfl,rfl⟩
   ·by_cases aX:(x:Int)<(y:Int)
    ·simp only[jF,h0,h1,h5,hz,e1,e2,Af,aX,VX,Nat.reduceEqDiff,Nat.reduceAdd]
     refine fin ?_
     have:=B0 (eE (by decide) a) A7 hx hy hd (by omega)
     rw[bW (by decide),bW (by decide)] at this
     simp[dX,this]
    ·simp only[jF,h0,h1,h5,hz,e1,e2,Af,aX,VX,Nat.reduceEqDiff,Nat.reduceAdd]
     refine fin ?_
     have:=B0 (eE (by decide) b) A7.symm hy hx hd.symm (by omega)
     rw[bW (by decide),bW (by decide)] at this
     rw[dX,if_neg (by omega),if_neg (by omega)]
  ·have PT:j=0:=by omega
   subst PT
   simp only[jF,h0,h1,h5,hz,VX,Nat.reduceEqDiff,Nat.reduceAdd]
   refine fin ?_
   have:=Pk (b:=4294967296) (by decide) (by simpa using hd)
   subst this
   simp[dX]
 ·by_cases aX:(((aC 4294967296 a).length:Nat):Int)<(((aC 4294967296 b).length:Nat):Int)
  ·simp only[qM,nE,hl,aX,VX,Nat.reduceEqDiff,Nat.reduceAdd]
   refine fin ?_
   have:=B3 (b:=4294967296) (by decide) (m:=a) (n:=b) (by omega)
   simp[dX,this]
  ·simp only[qM,nE,hl,aX,VX,Nat.reduceEqDiff,Nat.reduceAdd]
   refine fin ?_
   have:=B3 (b:=4294967296) (by decide) (m:=b) (n:=a) (by omega)
   rw[dX,if_neg (by omega),if_neg (by omega)]
end Go.PM
namespace Go.PM
theorem iD {es:List VV} {g e:Nat} {w:Bool}:aV [.row g es e w] 0 g=some (es,e,w):=cE
theorem NS {x y:Nat} {ρ:cP} {Q:VQ} (hx:(aC 4294967296 x).length≤17592186044416) (hl:(aC 4294967296 y).length≤(aC 4294967296 x).length) (h0:ρ 0=bC x) (h1:ρ 1=bC y) (h5:ρ 5 = .ref 0 0 0 ((aC 4294967296 x).length+1) ((aC 4294967296 x).length+1)) (h6:ρ 6=VK .u64 0) (h20:ρ 20=VI (aC 4294967296 x).length) (h21:ρ 21=VI 0)
  (hQ:∀(aU:cP) (outs:List Nat) (c:Nat),aU 0=bC x→aU 5 = .ref 0 0 0 ((aC 4294967296 x).length+1) ((aC 4294967296 x).length+1)→aU 6=VK .u64 (c:Nat)→outs.length=(aC 4294967296 x).length+1→(∀d∈outs,d<4294967296)→c≤1→x+y=val 4294967296 (outs.take (aC 4294967296 x).length)+4294967296^(aC 4294967296 x).length*c→Q (.exit 0) aU [.row 0 (outs.map uV) 1 true]) :
  VW ⟨true,false⟩ 0 (.loop jG) Q ρ [.row 0 ((List.replicate ((aC 4294967296 x).length+1) 0).map uV) 1 true]:=by
 unfold bC at h0 h1 hQ
 have vx:=bW (b:=4294967296) (by decide) x
 have vy:=bW (b:=4294967296) (by decide) y
 have lx:=eE (b:=4294967296) (by decide) x
 have ly:=eE (b:=4294967296) (by decide) y
 generalize aC 4294967296 x=xs at *
 generalize aC 4294967296 y=ys at *
 refine bB (fun(s:Nat×List Nat×Nat) ρ H=>s.1≤xs.length∧H=[.row 0 (s.2.1.map uV) 1 true]∧s.2.1.length=xs.length+1∧(∀d∈s.2.1,d<4294967296)∧s.2.2≤1∧val 4294967296 (xs.take s.1)+val 4294967296 (ys.take s.1)=val 4294967296 (s.2.1.take s.1)+4294967296^s.1*s.2.2 ∧
  ρ 0=yJ xs∧ρ 1=yJ ys∧ρ 5 = .ref 0 0 0 (xs.length+1) (xs.length+1)∧ρ 6=VK .u64 s.2.2∧ρ 20=VI xs.length∧ρ 21=VI s.1) (fun s=>xs.length-s.1) (0,List.replicate (xs.length+1) 0,0) ?_ ?_
 ·exact⟨Nat.zero_le _,rfl,by simp,xL (by decide) _,by simp,by simp[val],h0,h1,h5,h6,h20,h21⟩
 ·rintro⟨i,outs,c⟩ ρ H ⟨hi,rfl,iC,jS,hc,hv,g0,g1,g5,g6,g20,g21⟩
  simp only at hi iC jS hc hv g6 g21
  by_cases cX:(i:Int)<(xs.length:Int)
  ·obtain⟨a,ha⟩:∃a,xs[i]? = some a:=⟨_,List.getElem?_eq_getElem (by omega)⟩
   have la:=lx a (List.mem_of_getElem? ha)
   have e1:=aP (f:=uV) (t := .op) (H:=[.row 0 (outs.map uV) 1 true]) (size:=1) (k := .i64) ha rfl
   have w1:IntKind.u64.wrap (a:Int)=(a:Int):=eH _ (by omega)
   have w2:IntKind.u64.wrap ((c:Int)+(a:Int))=((c+a:Nat):Int):=by rw[←Int.natCast_add];exact eH _ (by omega)
   have wi:IntKind.i64.wrap ((i:Int)+1)=((i+1:Nat):Int):=wrapN (i+1) (by omega) (by omega)
   have e3:=bD (H:=[.row 0 (outs.map uV) 1 true]) (b:=0) (g:=0) (o:=0) (n:=xs.length+1) (c:=xs.length+1) (i:=i) (k := .i64) iD (by omega)
   have e4:∀s:Nat,dC 0 1 (.ptr 0 0 i 0) (uV s) [.row 0 (outs.map uV) 1 true]=some [.row 0 ((outs.set i s).map uV) 1 true]:=fun s=>by
    rw[fX (f:=uV) (e:=1) iD (by omega) (Nat.le_refl _) rfl rfl]
    rfl
   have step:∀b,b<4294967296→(∀d,ys[i]? = some d→d=b)→(ys.length≤i→b=0) →
     (i+1≤xs.length∧(outs.set i ((c+a+b) % 4294967296)).length=xs.length+1∧(∀d∈outs.set i ((c+a+b) % 4294967296),d<4294967296)∧(c+a+b) / 4294967296≤1∧val 4294967296 (xs.take (i+1))+val 4294967296 (ys.take (i+1))=val 4294967296 ((outs.set i ((c+a+b) % 4294967296)).take (i+1))+4294967296^(i+1)*((c+a+b) / 4294967296)):=by
    intro b hb h1 h2
    refine⟨by omega,by rw[List.length_set];exact iC,jZ jS (Nat.mod_lt _ (by decide)),by omega,?_⟩
    have hy:val 4294967296 (ys.take (i+1))=val 4294967296 (ys.take i)+4294967296^i*b:=by
     cases QO:ys[i]? with
     | some d=>rw[aS QO,h1 d QO]
     |
      none =>
      have hle:=List.getElem?_eq_none_iff.1 QO
      rw[h2 hle,iG hle,iG (by omega),Nat.mul_zero,Nat.add_zero]
    rw[aS ha,hy,dG (by omega),Nat.pow_succ]
    exact Du hv rfl (Nat.mod_add_div _ _)
   by_cases aX:(i:Int)<(ys.length:Int)
   ·obtain⟨b,hb⟩:∃b,ys[i]? = some b:=⟨_,List.getElem?_eq_getElem (by omega)⟩
    have lb:=ly b (List.mem_of_getElem? hb)
    have e2:=aP (f:=uV) (t := .op) (H:=[.row 0 (outs.map uV) 1 true]) (size:=1) (k := .i64) hb rfl
    have w3:IntKind.u64.wrap (b:Int)=(b:Int):=eH _ (by omega)
    have w4:IntKind.u64.wrap (((c+a:Nat):Int)+(b:Int))=((c+a+b:Nat):Int):=by rw[←Int.natCast_add];exact eH _ (by omega)
    obtain⟨s1,s2,s3,s4,s5⟩:=step b lb (fun d hd=>by rw[hb] at hd;injection hd with hd;exact hd.symm) (fun h=>by omega)
    simp only[jG,g0,g1,g5,g6,g20,g21,cX,aX,e1,e2,e3,e4,w1,w2,w3,w4,wi,wrap32,qI,VX,Nat.reduceEqDiff,Nat.reduceAdd]
    exact⟨(i+1,outs.set i ((c+a+b) % 4294967296),(c+a+b) / 4294967296),by simp only;omega,s1,rfl,s2,s3,s4,s5,by (repeat' apply And.intro)<;>first | rfl | trivial⟩
   ·obtain⟨s1,s2,s3,s4,s5⟩:=step 0 (by decide) (fun d hd=>by have:=(List.getElem?_eq_some_iff.1 hd).1;omega) (fun _=>rfl)
    simp only[Nat.add_zero] at s2 s3 s4 s5
    simp only[jG,g0,g1,g5,g6,g20,g21,cX,aX,e1,e3,e4,w1,w2,wi,wrap32,qI,VX,Nat.reduceEqDiff,Nat.reduceAdd]
    exact⟨(i+1,outs.set i ((c+a) % 4294967296),(c+a) / 4294967296),by simp only;omega,s1,rfl,s2,s3,s4,s5,by (repeat' apply And.intro)<;>first | rfl | trivial⟩
  ·have qW:i=xs.length:=by omega
   subst qW
   simp only[jG,g0,g1,g5,g6,g20,g21,cX,VX,Nat.reduceEqDiff,Nat.reduceAdd]
   refine hQ _ outs c g0 g5 g6 iC jS hc ?_
   rw[List.take_length,List.take_of_length_le (l:=ys) hl,vx,vy] at hv
   exact hv
theorem Bb (a b:Nat) (ha:(aC 4294967296 a).length≤17592186044416) (hb:(aC 4294967296 b).length≤17592186044416):TC 174 [bC a,bC b] (bC (a+b)):=by
 refine TC.walk ⟨true,false⟩ FN rfl (Nat.le_of_ble_eq_true rfl) (by simp[aK,bK]) (nX _) ?_
 have mk:∀n:Nat,n≤17592186044416→xY [.int .u32 0] 4 (VI ((n+1:Nat):Int)) (VI ((n+1:Nat):Int)) []=some (.ref 0 0 0 (n+1) (n+1),[.row 0 ((List.replicate (n+1) 0).map uV) 1 true]):=fun n hn=>uB (f:=uV) (x:=0) rfl (by omega) (by omega)
 have fin:∀(x y:Nat) (outs:List Nat) (c:Nat),(aC 4294967296 x).length≤17592186044416→x+y=a+b→outs.length=(aC 4294967296 x).length+1→(∀d∈outs,d<4294967296)→c≤1→x+y=val 4294967296 (outs.take (aC 4294967296 x).length)+4294967296^(aC 4294967296 x).length*c →
   bE 1 (.ref 0 0 0 ((aC 4294967296 x).length+1) ((aC 4294967296 x).length+1)) (VI ((aC 4294967296 x).length:Nat)) [.row 0 (outs.map uV) 1 true]=some (.ptr 0 0 (0+(aC 4294967296 x).length) 0) ∧
   dC 0 1 (.ptr 0 0 (aC 4294967296 x).length 0) (uV (c % 4294967296)) [.row 0 (outs.map uV) 1 true]=some [.row 0 ((outs.set (aC 4294967296 x).length (c % 4294967296)).map uV) 1 true] ∧
   ∀lo K,(∀k,k≤(aC 4294967296 x).length+1→(outs.set (aC 4294967296 x).length (c % 4294967296)).take k=aC 4294967296 (a+b)→K (.ref 0 0 0 k ((aC 4294967296 x).length+1)) [.row 0 ((outs.set (aC 4294967296 x).length (c % 4294967296)).map uV) 1 true]) →
    dJ 182 [.ref 0 0 0 ((aC 4294967296 x).length+1) ((aC 4294967296 x).length+1)] lo [.row 0 ((outs.set (aC 4294967296 x).length (c % 4294967296)).map uV) 1 true] K:=by
  intro x y outs c hx Af iC jS hc hv
  have FQ:=jZ (i:=(aC 4294967296 x).length) jS (show c % 4294967296<4294967296 from Nat.mod_lt _ (by decide))
  have Jw:val 4294967296 (outs.set (aC 4294967296 x).length (c % 4294967296))=a+b:=by
   have h1:=dG (b:=4294967296) (xs:=outs) (i:=(aC 4294967296 x).length) (d:=c % 4294967296) (by omega)
   rw[List.take_of_length_le (by rw[List.length_set];omega)] at h1
   rw[h1,Nat.mod_eq_of_lt (Nat.lt_of_le_of_lt hc (by decide)),←hv,Af]
  refine⟨bD iD (by omega),?_,?_⟩
  ·rw[fX (f:=uV) (e:=1) iD (by omega) (Nat.le_refl _) rfl rfl]
   rfl
  ·intro lo K hk
   have abX:(outs.set (aC 4294967296 x).length (c % 4294967296)).length=(aC 4294967296 x).length+1:=by rw[List.length_set];exact iC
   exact oZ iD (by omega) (Nat.le_refl _) (by omega) (fun d hd=>FQ d (List.mem_of_mem_take hd)) (by rw[List.take_of_length_le (by omega)];exact Jw) hk
 by_cases hsw:(((aC 4294967296 a).length:Nat):Int)<(((aC 4294967296 b).length:Nat):Int)
 ·have w1:IntKind.i64.wrap (((aC 4294967296 b).length:Int)+1)=(((aC 4294967296 b).length+1:Nat):Int):=wrapN _ (by omega) (by omega)
  simp only[vK,rI,bC,hsw,w1,mk _ hb,VX,Nat.reduceEqDiff,Nat.reduceAdd]
  refine NS (x:=b) (y:=a) hb (by omega) rfl rfl rfl rfl rfl rfl ?_
  intro aU outs c g0 g5 g6 iC jS hc hv
  obtain⟨e1,e2,e3⟩:=fin b a outs c hb (by omega) iC jS hc hv
  simp only[g0,g5,g6,bC,wrap32,e1,e2,VX,Nat.reduceEqDiff,Nat.reduceAdd]
  refine e3 _ _ fun k hk he => ?_
  simp only[VX,Nat.reduceEqDiff,Nat.reduceAdd]
  exact Lr iD (by rw[List.length_set];omega) hk he
 ·have w1:IntKind.i64.wrap (((aC 4294967296 a).length:Int)+1)=(((aC 4294967296 a).length+1:Nat):Int):=wrapN _ (by omega) (by omega)
  simp only[vK,rI,bC,hsw,w1,mk _ ha,VX,Nat.reduceEqDiff,Nat.reduceAdd]
  refine NS (x:=a) (y:=b) ha (by omega) rfl rfl rfl rfl rfl rfl ?_
  intro aU outs c g0 g5 g6 iC jS hc hv
  obtain⟨e1,e2,e3⟩:=fin a b outs c ha rfl iC jS hc hv
  simp only[g0,g5,g6,bC,wrap32,e1,e2,VX,Nat.reduceEqDiff,Nat.reduceAdd]
  refine e3 _ _ fun k hk he => ?_
  simp only[VX,Nat.reduceEqDiff,Nat.reduceAdd]
  exact Lr iD (by rw[List.length_set];omega) hk he
end Go.PM
namespace Go.PM
theorem H5 {x:Int} {r:Nat} (h:x+4294967296=r) (hx:x<0) (hr:0≤x+4294967296):IntKind.u32.wrap x=(r:Int):=by rw[IntKind.wrap_u32];omega
theorem Px (n:Nat) (hn:n≤70368744177664):xY [.int .u32 0] 4 (VI (n:Int)) (VI (n:Int)) []=some (.ref 0 0 0 n n,[.row 0 ((List.replicate n 0).map uV) 1 true]):=uB (f:=uV) (x:=0) rfl (by omega) (by omega)
theorem LW {outs:List Nat} {i d:Nat} (hi:i<outs.length):dC 0 1 (.ptr 0 0 i 0) (uV d) [.row 0 (outs.map uV) 1 true]=some [.row 0 ((outs.set i d).map uV) 1 true]:=by
 rw[fX (f:=uV) (e:=1) iD hi (Nat.le_refl _) rfl rfl]
 rfl
theorem AP (a b:Nat) (Dw:b≤a) (ha:(aC 4294967296 a).length≤17592186044416):TC 181 [bC a,bC b] (bC (a-b)):=by
 refine TC.walk ⟨true,false⟩ FL rfl (Nat.le_of_ble_eq_true rfl) (by simp[aK,bK]) (nX _) ?_
 have va:=bW (b:=4294967296) (by decide) a
 have vb:=bW (b:=4294967296) (by decide) b
 have la:=eE (b:=4294967296) (by decide) a
 have lb:=eE (b:=4294967296) (by decide) b
 have hle:=dD (b:=4294967296) (by decide) Dw
 unfold bC
 generalize aC 4294967296 a=xs at *
 generalize aC 4294967296 b=ys at *
 simp only[Bw,yS,Px xs.length (by omega),VX,Nat.reduceEqDiff,Nat.reduceAdd]
 refine bB (fun(s:Nat×List Nat×Nat) ρ H=>s.1≤xs.length∧H=[.row 0 (s.2.1.map uV) 1 true]∧s.2.1.length=xs.length∧(∀d∈s.2.1,d<4294967296)∧s.2.2≤1∧val 4294967296 (xs.take s.1)+4294967296^s.1*s.2.2=val 4294967296 (s.2.1.take s.1)+val 4294967296 (ys.take s.1) ∧
  ρ 0=yJ xs∧ρ 1=yJ ys∧ρ 5 = .ref 0 0 0 xs.length xs.length∧ρ 6=VI s.2.2∧ρ 13=VI xs.length∧ρ 14=VI s.1) (fun s=>xs.length-s.1) (0,List.replicate xs.length 0,0) ⟨Nat.zero_le _,rfl,by simp,xL (by decide) _,by simp,by simp[val],rfl,rfl,rfl,rfl,rfl,rfl⟩ ?_
 rintro⟨i,outs,l⟩ ρ H ⟨hi,rfl,iC,jS,hc,hv,g0,g1,g5,g6,g13,g14⟩
 simp only at hi iC jS hc hv g6 g14
 by_cases cX:(i:Int)<(xs.length:Int)
 ·obtain⟨x,hx⟩:∃x,xs[i]? = some x:=⟨_,List.getElem?_eq_getElem (by omega)⟩
  have lx:=la x (List.mem_of_getElem? hx)
  have e1:=aP (f:=uV) (t := .op) (H:=[.row 0 (outs.map uV) 1 true]) (size:=1) (k := .i64) hx rfl
  have w1:IntKind.i64.wrap (x:Int)=(x:Int):=wrapN x rfl (by omega)
  have w2:IntKind.i64.wrap ((x:Int)-(l:Int))=(x:Int)-(l:Int):=wrap64 (by omega) (by omega)
  have wi:IntKind.i64.wrap ((i:Int)+1)=((i+1:Nat):Int):=wrapN (i+1) (by omega) (by omega)
  have e3:bE 1 (.ref 0 0 0 xs.length xs.length) (VI i) [.row 0 (outs.map uV) 1 true]=some (.ptr 0 0 i 0):=by rw[bD iD (by omega),Nat.zero_add]
  have e4:∀s:Nat,dC 0 1 (.ptr 0 0 i 0) (uV s) [.row 0 (outs.map uV) 1 true]=some [.row 0 ((outs.set i s).map uV) 1 true]:=fun s=>LW (by omega)
  have step:∀y r l':Nat,y<4294967296→r<4294967296→l'≤1→(∀d,ys[i]? = some d→d=y)→(ys.length≤i→y=0)→r+y+l=x+4294967296*l' →
    i+1≤xs.length∧(outs.set i r).length=xs.length∧(∀d∈outs.set i r,d<4294967296)∧l'≤1∧val 4294967296 (xs.take (i+1))+4294967296^(i+1)*l'=val 4294967296 ((outs.set i r).take (i+1))+val 4294967296 (ys.take (i+1)):=by
   intro y r l' _ hr A7 h1 h2 hd
   refine⟨by omega,by rw[List.length_set];exact iC,jZ jS hr,A7,?_⟩
   have hy:val 4294967296 (ys.take (i+1))=val 4294967296 (ys.take i)+4294967296^i*y:=by
    cases QO:ys[i]? with
    | some d=>rw[aS QO,h1 d QO]
    |
     none =>
     have hle:=List.getElem?_eq_none_iff.1 QO
     rw[h2 hle,iG hle,iG (by omega),Nat.mul_zero,Nat.add_zero]
   rw[aS hx,hy,dG (by omega),Nat.pow_succ]
   exact GQ hv hd
  by_cases aX:(i:Int)<(ys.length:Int)
  ·obtain⟨y,hy⟩:∃y,ys[i]? = some y:=⟨_,List.getElem?_eq_getElem (by omega)⟩
   have ly:=lb y (List.mem_of_getElem? hy)
   have e2:=aP (f:=uV) (t := .op) (H:=[.row 0 (outs.map uV) 1 true]) (size:=1) (k := .i64) hy rfl
   have w3:IntKind.i64.wrap (y:Int)=(y:Int):=wrapN y rfl (by omega)
   have w4:IntKind.i64.wrap ((x:Int)-(l:Int)-(y:Int))=(x:Int)-(l:Int)-(y:Int):=wrap64 (by omega) (by omega)
   by_cases lO:(x:Int)-(l:Int)-(y:Int)<0
   ·obtain⟨r,hr⟩:∃r:Nat,r+y+l=x+4294967296:=⟨x+4294967296-l-y,by omega⟩
    have w5:IntKind.u32.wrap ((x:Int)-(l:Int)-(y:Int))=(r:Int):=H5 (by omega) lO (by omega)
    obtain⟨s1,s2,s3,s4,s5⟩:=step y r 1 ly (by omega) (Nat.le_refl _) (fun d hd=>by rw[hy] at hd;injection hd with hd;exact hd.symm) (fun h=>by omega) (by omega)
    simp only[gO,g0,g1,g5,g6,g13,g14,cX,aX,lO,e1,e2,e3,e4,w1,w2,w3,w4,w5,wi,VX,Nat.reduceEqDiff,Nat.reduceAdd]
    exact⟨(i+1,outs.set i r,1),by simp only;omega,s1,rfl,s2,s3,s4,s5,by (repeat' apply And.intro)<;>first | rfl | trivial⟩
   ·obtain⟨r,hr⟩:∃r:Nat,r+y+l=x:=⟨x-l-y,by omega⟩
    have w5:IntKind.u32.wrap ((x:Int)-(l:Int)-(y:Int))=(r:Int):=by rw[IntKind.wrap_u32];omega
    obtain⟨s1,s2,s3,s4,s5⟩:=step y r 0 ly (by omega) (by omega) (fun d hd=>by rw[hy] at hd;injection hd with hd;exact hd.symm) (fun h=>by omega) (by omega)
    simp only[gO,g0,g1,g5,g6,g13,g14,cX,aX,lO,e1,e2,e3,e4,w1,w2,w3,w4,w5,wi,VX,Nat.reduceEqDiff,Nat.reduceAdd]
    exact⟨(i+1,outs.set i r,0),by simp only;omega,s1,rfl,s2,s3,s4,s5,by (repeat' apply And.intro)<;>first | rfl | trivial⟩
  ·by_cases lO:(x:Int)-(l:Int)<0
   ·obtain⟨r,hr⟩:∃r:Nat,r+l=x+4294967296:=⟨x+4294967296-l,by omega⟩
    have w5:IntKind.u32.wrap ((x:Int)-(l:Int))=(r:Int):=H5 (by omega) lO (by omega)
    obtain⟨s1,s2,s3,s4,s5⟩:=step 0 r 1 (by decide) (by omega) (Nat.le_refl _) (fun d hd=>by have:=(List.getElem?_eq_some_iff.1 hd).1;omega) (fun _=>rfl) (by omega)
    simp only[gO,g0,g1,g5,g6,g13,g14,cX,aX,lO,e1,e3,e4,w1,w2,w5,wi,VX,Nat.reduceEqDiff,Nat.reduceAdd]
    exact⟨(i+1,outs.set i r,1),by simp only;omega,s1,rfl,s2,s3,s4,s5,by (repeat' apply And.intro)<;>first | rfl | trivial⟩
   ·obtain⟨r,hr⟩:∃r:Nat,r+l=x:=⟨x-l,by omega⟩
    have w5:IntKind.u32.wrap ((x:Int)-(l:Int))=(r:Int):=by rw[IntKind.wrap_u32];omega
    obtain⟨s1,s2,s3,s4,s5⟩:=step 0 r 0 (by decide) (by omega) (by omega) (fun d hd=>by have:=(List.getElem?_eq_some_iff.1 hd).1;omega) (fun _=>rfl) (by omega)
    simp only[gO,g0,g1,g5,g6,g13,g14,cX,aX,lO,e1,e3,e4,w1,w2,w5,wi,VX,Nat.reduceEqDiff,Nat.reduceAdd]
    exact⟨(i+1,outs.set i r,0),by simp only;omega,s1,rfl,s2,s3,s4,s5,by (repeat' apply And.intro)<;>first | rfl | trivial⟩
 ·have qW:i=xs.length:=by omega
  subst qW
  rw[List.take_length,List.take_of_length_le (l:=ys) hle,List.take_of_length_le (l:=outs) (by omega),va,vb] at hv
  have gV:=mT jS
  rw[iC] at gV
  have Jw:val 4294967296 outs=a-b:=by
   rcases Nat.lt_or_ge l 1 with h | h
   ·have:l=0:=by omega
    subst this
    rw[Nat.mul_zero] at hv
    omega
   ·have:l=1:=by omega
    subst this
    rw[Nat.mul_one] at hv
    omega
  simp only[gO,g0,g1,g5,g6,g13,g14,cX,VX,Nat.reduceEqDiff,Nat.reduceAdd]
  refine oZ (m:=a-b) iD (by omega) (Nat.le_refl _) (by omega) (fun d hd=>jS d (List.mem_of_mem_take hd)) (by rw[List.take_of_length_le (by omega)];exact Jw) fun k hk he => ?_
  simp only[VX,Nat.reduceEqDiff,Nat.reduceAdd]
  exact Lr iD (by omega) hk he
theorem Nf {P Q A B Y x c r q o y W:Nat} (JY:A+P*Q*c=B+P*(x*Y)) (h1:r+W*q=c+(x*y+o)):A+P*Q*r+P*Q*W*q=B+P*Q*o+P*(x*(Y+Q*y)):=by
 have h2:P*Q*(r+W*q)=P*Q*(c+(x*y+o)):=by rw[h1]
 grind
theorem gJ (a b:Nat) (ha:(aC 4294967296 a).length≤17592186044416) (hb:(aC 4294967296 b).length≤17592186044416):TC 180 [bC a,bC b] (bC (a*b)):=by
 refine TC.walk ⟨true,false⟩ Fi rfl (Nat.le_of_ble_eq_true rfl) (by simp[aK,bK]) (nX _) ?_
 have va:=bW (b:=4294967296) (by decide) a
 have vb:=bW (b:=4294967296) (by decide) b
 have la:=eE (b:=4294967296) (by decide) a
 have lb:=eE (b:=4294967296) (by decide) b
 unfold bC
 generalize aC 4294967296 a=xs at *
 generalize aC 4294967296 b=ys at *
 have w0:IntKind.i64.wrap ((xs.length:Int)+(ys.length:Int))=((xs.length+ys.length:Nat):Int):=wrapN _ (by omega) (by omega)
 simp only[A8,xV,w0,Px (xs.length+ys.length) (by omega),VX,Nat.reduceEqDiff,Nat.reduceAdd]
 generalize hN:xs.length+ys.length=N at *
 refine bB (fun(s:Nat×List Nat) ρ H=>s.1≤xs.length∧H=[.row 0 (s.2.map uV) 1 true]∧s.2.length=N∧(∀d∈s.2,d<4294967296)∧val 4294967296 (s.2.take (s.1+ys.length))=val 4294967296 (xs.take s.1)*b ∧
  ρ 0=yJ xs∧ρ 1=yJ ys∧ρ 5 = .ref 0 0 0 N N∧ρ 17=yJ xs∧ρ 18=VI xs.length∧ρ 19=VI s.1) (fun s=>xs.length-s.1) (0,List.replicate N 0) ⟨Nat.zero_le _,rfl,by simp,xL (by decide) _,by simp[val,List.take_replicate,oV],rfl,rfl,rfl,rfl,rfl,rfl⟩ ?_
 rintro⟨i,outs⟩ ρ H ⟨hi,rfl,iC,jS,hv,g0,g1,g5,g17,g18,g19⟩
 simp only at hi iC jS hv g19
 by_cases cX:(i:Int)<(xs.length:Int)
 ·obtain⟨x,hx⟩:∃x,xs[i]? = some x:=⟨_,List.getElem?_eq_getElem (by omega)⟩
  have lx:=la x (List.mem_of_getElem? hx)
  have e1:=aP (f:=uV) (t := .op) (H:=[.row 0 (outs.map uV) 1 true]) (size:=1) (k := .i64) hx rfl
  simp only[pR,g0,g1,g5,g17,g18,g19,cX,e1,VX,Nat.reduceEqDiff,Nat.reduceAdd]
  refine bB (fun(s:Nat×List Nat×Nat) ρ H=>s.1≤ys.length∧H=[.row 0 (s.2.1.map uV) 1 true]∧s.2.1.length=N∧(∀d∈s.2.1,d<4294967296)∧s.2.2<4294967296 ∧
   val 4294967296 (s.2.1.take (i+s.1))+4294967296^(i+s.1)*s.2.2=val 4294967296 (outs.take (i+s.1))+4294967296^i*(x*val 4294967296 (ys.take s.1))∧(∀j,i+s.1≤j→s.2.1[j]? = outs[j]?) ∧
   ρ 0=yJ xs∧ρ 1=yJ ys∧ρ 5 = .ref 0 0 0 N N∧ρ 6=VI i∧ρ 7=uV x∧ρ 8=VK .u64 s.2.2∧ρ 17=yJ xs∧ρ 18=VI xs.length∧ρ 19=VI i∧ρ 24=yJ ys∧ρ 25=VI ys.length∧ρ 26=VI s.1) (fun s=>ys.length-s.1) (0,outs,0) ⟨Nat.zero_le _,rfl,iC,jS,by simp,by simp[val],fun _ _=>rfl,by (repeat' apply And.intro)<;>first | rfl | trivial⟩ ?_
  rintro⟨k,os,c⟩ Kh H ⟨hk,rfl,MC,LH,hc,JY,Dx,k0,k1,k5,k6,k7,k8,EJ,Uy,XL,k24,k25,k26⟩
  simp only at hk MC LH hc JY Dx k8 k26
  have wi:IntKind.i64.wrap ((i:Int)+1)=((i+1:Nat):Int):=wrapN (i+1) (by omega) (by omega)
  by_cases hkn:(k:Int)<(ys.length:Int)
  ·obtain⟨y,hy⟩:∃y,ys[k]? = some y:=⟨_,List.getElem?_eq_getElem (by omega)⟩
   have ly:=lb y (List.mem_of_getElem? hy)
   obtain⟨o,ho⟩:∃o,os[i+k]? = some o:=⟨_,List.getElem?_eq_getElem (by omega)⟩
   have lo:=LH o (List.mem_of_getElem? ho)
   have Vd:outs[i+k]? = some o:=by rw[←Dx (i+k) (Nat.le_refl _)];exact ho
   have f1:=aP (f:=uV) (t := .op) (H:=[.row 0 (os.map uV) 1 true]) (size:=1) (k := .i64) hy rfl
   have w1:IntKind.i64.wrap ((i:Int)+(k:Int))=((i+k:Nat):Int):=wrapN _ (by omega) (by omega)
   have f2:bE 1 (.ref 0 0 0 N N) (VI ((i+k:Nat):Int)) [.row 0 (os.map uV) 1 true]=some (.ptr 0 0 (i+k) 0):=by rw[bD iD (by omega),Nat.zero_add]
   have f3:gM false 1 (.ptr 0 0 (i+k) 0) [.row 0 (os.map uV) 1 true]=some (uV o):=gS iD ho
   have f4:∀s:Nat,dC 0 1 (.ptr 0 0 (i+k) 0) (uV s) [.row 0 (os.map uV) 1 true]=some [.row 0 ((os.set (i+k) s).map uV) 1 true]:=fun s=>LW (by omega)
   have Af:x*y≤4294967295*4294967295:=Nat.mul_le_mul (by omega) (by omega)
   have w2:IntKind.u64.wrap (x:Int)=(x:Int):=eH _ (by omega)
   have w3:IntKind.u64.wrap (y:Int)=(y:Int):=eH _ (by omega)
   have w4:IntKind.u64.wrap (o:Int)=(o:Int):=eH _ (by omega)
   have w5:IntKind.u64.wrap ((x:Int)*(y:Int))=((x*y:Nat):Int):=by rw[←Int.natCast_mul];exact eH _ (by omega)
   have w6:IntKind.u64.wrap (((x*y:Nat):Int)+(o:Int))=((x*y+o:Nat):Int):=by rw[←Int.natCast_add];exact eH _ (by omega)
   have w7:IntKind.u64.wrap ((c:Int)+((x*y+o:Nat):Int))=((c+(x*y+o):Nat):Int):=by rw[←Int.natCast_add];exact eH _ (by omega)
   have wk:IntKind.i64.wrap ((k:Int)+1)=((k+1:Nat):Int):=wrapN (k+1) (by omega) (by omega)
   simp only[qA,k0,k1,k5,k6,k7,k8,EJ,Uy,XL,k24,k25,k26,hkn,f1,f2,f3,f4,w1,w2,w3,w4,w5,w6,w7,wk,wrap32,qI,VX,Nat.reduceEqDiff,Nat.reduceAdd]
   have hq:(c+(x*y+o)) / 4294967296<4294967296:=Nat.div_lt_of_lt_mul (by omega)
   refine⟨(k+1,os.set (i+k) ((c+(x*y+o)) % 4294967296),(c+(x*y+o)) / 4294967296),by simp only;omega,by omega,rfl,by rw[List.length_set];exact MC,jZ LH (Nat.mod_lt _ (by decide)),hq,?_,fun j hj => ?_,by (repeat' apply And.intro)<;>first | rfl | trivial⟩
   ·have h1:=Nat.mod_add_div (c+(x*y+o)) 4294967296
    rw[←Nat.add_assoc,dG (by omega),aS Vd,aS hy,Nat.pow_succ]
    rw[Nat.pow_add] at JY ⊢
    exact Nf JY h1
   ·rw[List.getElem?_set_ne (by omega)]
    exact Dx j (by omega)
  ·have hke:k=ys.length:=by omega
   subst hke
   rw[List.take_length,vb,hv] at JY
   have w1:IntKind.i64.wrap ((i:Int)+(ys.length:Int))=((i+ys.length:Nat):Int):=wrapN _ (by omega) (by omega)
   have f2:bE 1 (.ref 0 0 0 N N) (VI ((i+ys.length:Nat):Int)) [.row 0 (os.map uV) 1 true]=some (.ptr 0 0 (i+ys.length) 0):=by rw[bD iD (by omega),Nat.zero_add]
   have f4:∀s:Nat,dC 0 1 (.ptr 0 0 (i+ys.length) 0) (uV s) [.row 0 (os.map uV) 1 true]=some [.row 0 ((os.set (i+ys.length) s).map uV) 1 true]:=fun s=>LW (by omega)
   simp only[qA,k0,k1,k5,k6,k7,k8,EJ,Uy,XL,k24,k25,k26,hkn,f2,f4,w1,wi,wrap32,VX,Nat.reduceEqDiff,Nat.reduceAdd]
   refine⟨(i+1,os.set (i+ys.length) (c % 4294967296)),by simp only;omega,by omega,rfl,by rw[List.length_set];exact MC,jZ LH (Nat.mod_lt _ (by decide)),?_,by (repeat' apply And.intro)<;>first | rfl | trivial⟩
   rw[show i+1+ys.length=i+ys.length+1 by omega,dG (by omega),Nat.mod_eq_of_lt hc,JY,aS hx,Nat.add_mul,Nat.mul_assoc]
 ·have qW:i=xs.length:=by omega
  subst qW
  rw[hN,List.take_length,va,List.take_of_length_le (by omega)] at hv
  simp only[pR,g0,g1,g5,g17,g18,g19,cX,VX,Nat.reduceEqDiff,Nat.reduceAdd]
  refine oZ (m:=a*b) iD (by omega) (Nat.le_refl _) (by omega) (fun d hd=>jS d (List.mem_of_mem_take hd)) (by rw[List.take_of_length_le (by omega)];exact hv) fun k hk he => ?_
  simp only[VX,Nat.reduceEqDiff,Nat.reduceAdd]
  exact Lr iD (by omega) hk he
end Go.PM
namespace Go.PM
theorem set_drop {xs:List Nat} {i d:Nat} (h:i<xs.length):(xs.set i d).drop i=d::xs.drop (i+1):=by
 rw[List.drop_eq_getElem_cons (by rw[List.length_set];exact h),List.getElem_set_self,JA h]
theorem R8 (n k:Nat) (hn:n≤70368744177664) {H:aB}:xY [.int .u32 0] 4 (VI (n:Int)) (VI (n:Int)) H=some (.ref H.length 0 0 n n,H++[.row 0 ((List.replicate n 0).map uV) 1 true]):=uB (f:=uV) (x:=0) rfl (by omega) (by omega)
theorem Pj {A q t r x d W:Nat} (h1:t+d*q=r*W+x):(q+W*A)*d+t=x+W*(A*d+r):=by grind
theorem Qa {A B P S W c m x q:Nat} (hv:A+P*c=B*S) (h1:m*S+W*q=x*S):A+P*(c+m*S)+P*W*q=(B+P*x)*S:=by
 have h2:P*(m*S+W*q)=P*(x*S):=by rw[h1]
 grind
theorem sY (a d:Nat) (BG:0<d) (hdW:d<4294967296) (ha:(aC 4294967296 a).length≤17592186044416):TC 183 [bC a,uV d] (.eK [bC (a / d),uV (a % d)]):=by
 refine TC.walk ⟨true,false⟩ AD rfl (Nat.le_of_ble_eq_true rfl) (by simp[aK,bK,aW,lL]) (by simp[gH,pF,nX,lL]) ?_
 have va:=bW (b:=4294967296) (by decide) a
 have la:=eE (b:=4294967296) (by decide) a
 unfold bC
 generalize aC 4294967296 a=xs at *
 have w0:IntKind.i64.wrap ((xs.length:Int)-1)=(xs.length:Int)-1:=wrap64 (by omega) (by omega)
 have wd:IntKind.u64.wrap (d:Int)=(d:Int):=eH _ (by omega)
 simp only[sZ,qS,w0,Px xs.length (by omega),VX,Nat.reduceEqDiff,Nat.reduceAdd]
 refine bB (fun(s:Nat×List Nat×Nat) ρ H=>s.1≤xs.length∧H=[.row 0 (s.2.1.map uV) 1 true]∧s.2.1.length=xs.length∧(∀d∈s.2.1,d<4294967296)∧s.2.2<d∧val 4294967296 (s.2.1.drop s.1)*d+s.2.2=val 4294967296 (xs.drop s.1) ∧
  ρ 0=yJ xs∧ρ 1=uV d∧ρ 6 = .ref 0 0 0 xs.length xs.length∧ρ 7=VK .u64 s.2.2∧ρ 8=VI ((s.1:Int)-1)) (fun s=>s.1) (xs.length,List.replicate xs.length 0,0) ⟨Nat.le_refl _,rfl,by simp,xL (by decide) _,BG,by simp[val,List.drop_replicate],rfl,rfl,rfl,rfl,rfl⟩ ?_
 rintro⟨j,outs,r⟩ ρ H ⟨hj,rfl,iC,jS,hr,hv,g0,g1,g6,g7,g8⟩
 simp only at hj iC jS hr hv g7 g8
 by_cases hz:(0:Int)≤(j:Int)-1
 ·obtain⟨i,rfl⟩:∃i,j=i+1:=⟨j-1,by omega⟩
  obtain⟨x,hx⟩:∃x,xs[i]? = some x:=⟨_,List.getElem?_eq_getElem (by omega)⟩
  have lx:=la x (List.mem_of_getElem? hx)
  have JD:((i+1:Nat):Int)-1=(i:Int):=by omega
  rw[JD] at g8 hz
  have e1:=aP (f:=uV) (t := .op) (H:=[.row 0 (outs.map uV) 1 true]) (size:=1) (k := .i64) hx rfl
  have e3:bE 1 (.ref 0 0 0 xs.length xs.length) (VI i) [.row 0 (outs.map uV) 1 true]=some (.ptr 0 0 i 0):=by rw[bD iD (by omega),Nat.zero_add]
  have e4:∀s:Nat,dC 0 1 (.ptr 0 0 i 0) (uV s) [.row 0 (outs.map uV) 1 true]=some [.row 0 ((outs.set i s).map uV) 1 true]:=fun s=>LW (by omega)
  have w2:IntKind.i64.wrap ((i:Int)-1)=(i:Int)-1:=wrap64 (by omega) (by omega)
  have w3:IntKind.u64.wrap (x:Int)=(x:Int):=eH _ (by omega)
  have w4:IntKind.u64.wrap (((r*4294967296:Nat):Int)+(x:Int))=((r*4294967296+x:Nat):Int):=by rw[←Int.natCast_add];exact eH _ (by omega)
  have w5:=Cg r .u64 (by omega)
  have q1:=RU (r*4294967296+x) d (by omega) BG
  have q2:=Mc (r*4294967296+x) d BG
  have hq:(r*4294967296+x) / d<4294967296:=by
   rw[Nat.div_lt_iff_lt_mul BG]
   have:(r+1)*4294967296≤d*4294967296:=Nat.mul_le_mul_right _ hr
   rw[Nat.mul_comm 4294967296 d]
   omega
  simp only[kV,g0,g1,g6,g7,g8,hz,e1,e3,e4,w2,w3,w4,w5,wd,q1,q2,wrap32,Nat.mod_eq_of_lt hq,VX,Nat.reduceEqDiff,Nat.reduceAdd]
  refine⟨(i,outs.set i ((r*4294967296+x) / d),(r*4294967296+x) % d),by simp only;omega,by omega,rfl,by rw[List.length_set];exact iC,jZ jS hq,Nat.mod_lt _ BG,?_,by (repeat' apply And.intro)<;>first | rfl | trivial⟩
  have h1:=Nat.mod_add_div (r*4294967296+x) d
  rw[set_drop (by omega),qF,pS hx,←hv]
  exact Pj h1
 ·have PT:j=0:=by omega
  subst PT
  rw[List.drop_zero,List.drop_zero,va] at hv
  have h1:a / d=val 4294967296 outs:=by
   rw[←hv,Nat.mul_comm,Nat.mul_add_div BG,Nat.div_eq_of_lt hr,Nat.add_zero]
  have h2:a % d=r:=by
   rw[←hv,Nat.mul_comm,Nat.mul_add_mod,Nat.mod_eq_of_lt hr]
  simp only[kV,g0,g1,g6,g7,g8,hz,VX,Nat.reduceEqDiff,Nat.reduceAdd]
  refine oZ (m:=a / d) iD (by omega) (Nat.le_refl _) (by omega) (fun d hd=>jS d (List.mem_of_mem_take hd)) (by rw[List.take_of_length_le (by omega)];exact h1.symm) fun k hk he => ?_
  simp only[wrap32,Nat.mod_eq_of_lt (show r<4294967296 by omega),g7,VX,Nat.reduceEqDiff,Nat.reduceAdd]
  rw[h2]
  exact bH (d:=6) (Ho (d:=5) iD (by omega) hk he) (aJ rfl)
theorem DL {n g e:Nat} {es:List VV} {w:Bool}:aV (List.replicate n jR.dead++[.row g es e w]) n g=some (es,e,w):=by rw[YN];exact cE
theorem amW {n:Nat} (xs:List Nat):wA n (xs.map uV)=true:=by
 rw[Ev]
 intro x hx
 obtain⟨y,_,rfl⟩:=List.mem_map.1 hx
 rfl
theorem vO (a s:Nat) (hs:s≤31) (ha:(aC 4294967296 a).length≤17592186044416):FC 220 [bC a,VI s] fun n r L=>∃outs:List Nat,r = .ref n 0 0 ((aC 4294967296 a).length+1) ((aC 4294967296 a).length+1)∧L=[.row 0 (outs.map uV) 1 true]∧outs.length=(aC 4294967296 a).length+1∧(∀d∈outs,d<4294967296)∧val 4294967296 outs=a*2^s∧(∀d,outs[(aC 4294967296 a).length]? = some d→d<2^s):=by
 refine FC.walk ⟨true,false⟩ Bs (Nat.le_of_ble_eq_true rfl) fun n => ?_
 have va:=bW (b:=4294967296) (by decide) a
 have la:=eE (b:=4294967296) (by decide) a
 unfold bC
 generalize aC 4294967296 a=xs at *
 have hS:0<2^s:=Nat.pow_pos (by decide)
 have hSW:2^s*2^(32-s)=4294967296:=by rw[←Nat.pow_add,show s+(32-s)=32 by omega]
 have w0:IntKind.i64.wrap ((xs.length:Int)+1)=((xs.length+1:Nat):Int):=wrapN _ (by omega) (by omega)
 simp only[uX,sE,w0,R8 (xs.length+1) n (by omega),List.length_replicate,VX,Nat.reduceEqDiff,Nat.reduceAdd]
 refine bB (fun(t:Nat×List Nat×Nat) ρ H=>t.1≤xs.length∧H=List.replicate n .dead++[.row 0 (t.2.1.map uV) 1 true]∧t.2.1.length=xs.length+1∧(∀d∈t.2.1,d<4294967296)∧t.2.1[t.1]? = some t.2.2∧t.2.2<2^s∧val 4294967296 (t.2.1.take t.1)+4294967296^t.1*t.2.2=val 4294967296 (xs.take t.1)*2^s ∧
  ρ 1=VI s∧ρ 5 = .ref n 0 0 (xs.length+1) (xs.length+1)∧ρ 13=yJ xs∧ρ 14=VI xs.length∧ρ 15=VI t.1) (fun t=>xs.length-t.1) (0,List.replicate (xs.length+1) 0,0) ⟨Nat.zero_le _,rfl,by simp,xL (by decide) _,by simp,hS,by simp[val],rfl,rfl,rfl,rfl,rfl⟩ ?_
 rintro⟨i,outs,c⟩ ρ H ⟨hi,rfl,iC,jS,hoc,hc,hv,g1,g5,g13,g14,g15⟩
 simp only at hi iC jS hoc hc hv g15
 by_cases cX:(i:Int)<(xs.length:Int)
 ·obtain⟨x,hx⟩:∃x,xs[i]? = some x:=⟨_,List.getElem?_eq_getElem (by omega)⟩
  have lx:=la x (List.mem_of_getElem? hx)
  have e1:=aP (f:=uV) (t := .op) (H:=List.replicate n .dead++[.row 0 (outs.map uV) 1 true]) (size:=1) (k := .i64) hx rfl
  have wx:IntKind.u64.wrap (x:Int)=(x:Int):=eH _ (by omega)
  have wi:IntKind.i64.wrap ((i:Int)+1)=((i+1:Nat):Int):=wrapN (i+1) (by omega) (by omega)
  have w5:=acQ x s lx hs
  obtain⟨m,hm⟩:∃m,(x*2^s) % 4294967296=m*2^s:=by
   refine⟨x % 2^(32-s),?_⟩
   rw[←hSW,Nat.mul_comm x,Nat.mul_mod_mul_left,Nat.mul_comm]
  have hhi:(x*2^s) / 4294967296<2^s:=by
   rw[Nat.div_lt_iff_lt_mul (by decide),Nat.mul_comm (2^s)]
   exact Nat.mul_lt_mul_of_pos_right lx hS
  have aX:(x*2^s) % 4294967296<4294967296:=Nat.mod_lt _ (by decide)
  have hmm:m<2^(32-s):=by
   have:m*2^s<2^(32-s)*2^s:=by rw[←hm,Nat.mul_comm (2^(32-s)) (2^s),hSW];exact aX
   exact Nat.lt_of_mul_lt_mul_right this
  have acJ:m*2^s+c<4294967296:=by
   have:(m+1)*2^s≤2^(32-s)*2^s:=Nat.mul_le_mul_right _ hmm
   rw[Nat.mul_comm (2^(32-s)),hSW,Nat.add_mul] at this
   omega
  have or1:=ZR c m s hc acJ
  have e3:bE 1 (.ref n 0 0 (xs.length+1) (xs.length+1)) (VI i) (List.replicate n .dead++[.row 0 (outs.map uV) 1 true])=some (.ptr n 0 i 0):=by rw[bD DL (by omega),Nat.zero_add]
  have e4:gM false 1 (.ptr n 0 i 0) (List.replicate n .dead++[.row 0 (outs.map uV) 1 true])=some (uV c):=gS DL hoc
  have e5:∀(os:List Nat) (j t:Nat),j<os.length→dC n 1 (.ptr n 0 j 0) (uV t) (List.replicate n .dead++[.row 0 (os.map uV) 1 true])=some (List.replicate n .dead++[.row 0 ((os.set j t).map uV) 1 true]):=fun os j t hj=>by
   rw[fX (f:=uV) (e:=1) DL hj (Nat.le_refl _) rfl rfl,abV]
   rfl
  have e6:bE 1 (.ref n 0 0 (xs.length+1) (xs.length+1)) (VI ((i+1:Nat):Int)) (List.replicate n .dead++[.row 0 ((outs.set i (c+m*2^s)).map uV) 1 true])=some (.ptr n 0 (i+1) 0):=by rw[bD DL (by omega),Nat.zero_add]
  have e7:=e5 outs i (c+m*2^s) (by omega)
  have e8:=e5 (outs.set i (c+m*2^s)) (i+1) ((x*2^s) / 4294967296) (by rw[List.length_set];omega)
  have hq:(x*2^s) / 4294967296 % 4294967296=(x*2^s) / 4294967296:=Nat.mod_eq_of_lt (by
   have:2^s≤2^31:=Nat.pow_le_pow_right (by decide) hs
   omega)
  simp only[lK,g1,g5,g13,g14,g15,cX,e1,e3,e4,e6,e7,e8,wx,wi,w5,wrap32,qI,hm,or1,hq,VX,Nat.reduceEqDiff,Nat.reduceAdd]
  refine⟨(i+1,(outs.set i (c+m*2^s)).set (i+1) ((x*2^s) / 4294967296),(x*2^s) / 4294967296),by simp only;omega,by omega,rfl,by rw[List.length_set,List.length_set];exact iC,
   jZ (jZ jS (by omega)) (by
    have:2^s≤2^31:=Nat.pow_le_pow_right (by decide) hs
    omega),by rw[List.getElem?_set_self (by rw[List.length_set];omega)],hhi,?_,by (repeat' apply And.intro)<;>first | rfl | trivial⟩
  rw[List.take_set_of_le (Nat.le_refl _),dG (by omega),aS hx,Nat.pow_succ]
  have h1:=Nat.mod_add_div (x*2^s) 4294967296
  rw[hm] at h1
  exact Qa hv h1
 ·have qW:i=xs.length:=by omega
  subst qW
  rw[List.take_length,va] at hv
  have Jw:val 4294967296 outs=a*2^s:=by
   have h1:=aS (b:=4294967296) hoc
   rw[List.take_of_length_le (by omega)] at h1
   rw[h1]
   exact hv
  simp only[lK,g1,g5,g13,g14,g15,cX,VX,Nat.reduceEqDiff,Nat.reduceAdd]
  exact⟨_,rfl,by simp[wE],by simp[oH,amW outs],outs,rfl,iC,jS,Jw,fun d hd=>by rw[hoc] at hd;injection hd with hd;omega⟩
end Go.PM
namespace Go.PM
theorem Mq {H:aB} {b b' g:Nat} {x:jR} (h:b≠b'):aV (H.set b x) b' g=aV H b' g:=by
 unfold aV
 rw[List.getElem?_set_ne h]
theorem lF {H:aB} {b g e:Nat} {es lD:List VV} {w w':Bool} (h:aV H b g=some (es,e,w)):aV (H.set b (.row g lD e w')) b g=some (lD,e,w'):=by
 have aX:b<H.length:=by
  unfold aV at h
  split at h
  ·rename_i hb
   exact(List.getElem?_eq_some_iff.1 hb).1
  ·cases h
 unfold aV
 rw[List.getElem?_set_self aX]
 simp
theorem kL {H:aB} {b:Nat} {x y:jR}:(H.set b x).set b y=H.set b y:=by rw[List.set_set]
theorem tE {H:aB} {b g e:Nat} {es:List VV} {w:Bool} (h:aV H b g=some (es,e,w)):H.set b (.row g es e w)=H:=by
 apply List.ext_getElem?
 intro i
 by_cases hi:b=i
 ·subst hi
  unfold aV at h
  split at h
  ·rename_i hb
   split at h
   ·rename_i hg
    cases h
    rw[List.getElem?_set_self (List.getElem?_eq_some_iff.1 hb).1,hb,hg]
   ·cases h
  ·cases h
 ·rw[List.getElem?_set_ne hi]
theorem UO {H:aB} {b g o i lo d:Nat} {pre gE post:List Nat} (hr:aV H b g=some ((pre++gE++post).map uV,1,true)) (ho:pre.length=o) (hi:i<gE.length) (gV:lo≤b) :
  dC lo 1 (.ptr b g (o+i) 0) (uV d) H=some (H.set b (.row g ((pre++gE.set i d++post).map uV) 1 true)):=by
 rw[fX (f:=uV) (e:=1) hr (by simp only[List.length_append];omega) gV rfl rfl,RX ho hi]
theorem Qr {H:aB} {lo b g o L c b2 g2 n2 c2 t:Nat} {pre gE post vs Kr:List Nat} {w2:Bool} (hr:aV H b g=some ((pre++gE++post).map uV,1,true)) (Y4:aV H b2 g2=some (Kr.map uV,1,w2)) (hb:b≠b2) (gV:lo≤b)
  (ho:pre.length=o) (hL:gE.length=L) (apC:L≤70368744177664) (MU:Kr.take n2=vs) (X2:n2≤Kr.length) (hle:n2≤L) (TY:∀d∈gE,d<4294967296) (DU:∀d∈vs,d<4294967296) (ht:t<4294967296) (vF:t*val 4294967296 vs≤val 4294967296 gE+val 4294967296 vs) :
  vN 221 [.ref b g o L c,.ref b2 g2 0 n2 c2,VK .u64 t] lo H fun r H'=>∃oU:List Nat,H'=H.set b (.row g ((pre++oU++post).map uV) 1 true)∧oU.length=L∧(∀d∈oU,d<4294967296) ∧
   ((r=VB false∧val 4294967296 oU+t*val 4294967296 vs=val 4294967296 gE)∨(r=VB true∧val 4294967296 gE<t*val 4294967296 vs∧val 4294967296 oU+t*val 4294967296 vs=val 4294967296 gE+val 4294967296 vs)):=by
 refine vN.walk ⟨true,false⟩ G7 (Nat.le_of_ble_eq_true rfl) ?_
 have CV:vs.length=n2:=by rw[←MU,List.length_take];omega
 have wC:∀i,i<n2→Kr[i]? = vs[i]? := fun i hi=>by rw[←MU,List.getElem?_take_of_lt hi]
 have MC:=mT TY
 have JY:=mT DU
 rw[hL] at MC
 rw[CV] at JY
 have hVL:val 4294967296 vs≤4294967296^L:=Nat.le_trans (Nat.le_of_lt JY) (Nat.pow_le_pow_right (by decide) hle)
 have e0:∀ {K:aB} {es:List VV},aV K b g=some (es,1,true)→pE (.ref b g o L c) K=some (VI L):=fun h=>iS h
 have e00:∀ {K:aB},aV K b2 g2=some (Kr.map uV,1,w2)→pE (.ref b2 g2 0 n2 c2) K=some (VI n2):=fun h=>iS h
 have rd:∀(s:List Nat),s.length=L→aV (H.set b (.row g ((pre++s++post).map uV) 1 true)) b g=some ((pre++s++post).map uV,1,true):=fun s _=>lF hr
 have rd2:∀(s:List Nat),aV (H.set b (.row g ((pre++s++post).map uV) 1 true)) b2 g2=some (Kr.map uV,1,w2):=fun s=>by rw[Mq hb];exact Y4
 have wi:∀i:Nat,i<L→IntKind.i64.wrap ((i:Int)+1)=((i+1:Nat):Int):=fun i hi=>wrapN (i+1) (by omega) (by omega)
 have back:∀(ρ:cP) (s:List Nat),s.length=L→(∀d∈s,d<4294967296)→(∀s2:List Nat,s2.length=L→(∀d∈s2,d<4294967296)→∀c,val 4294967296 s+val 4294967296 vs=val 4294967296 s2+4294967296^L*c→val 4294967296 s2+t*val 4294967296 vs=val 4294967296 gE+val 4294967296 vs)→val 4294967296 gE<t*val 4294967296 vs→ρ 0 = .ref b g o L c→ρ 1 = .ref b2 g2 0 n2 c2→ρ 7=VK .u64 0→ρ 58=VI L→ρ 59=VI 0 →
   VW ⟨true,false⟩ lo (.loop kC) (xC 2 (lC (VW ⟨true,false⟩ lo (.seq (.dU [⟨(some 6),(.mv (.const (.bool true))),none,false,[]⟩]) .ret) (Ak [.tmp 6] fun r H'=>∃oU:List Nat,H'=H.set b (.row g ((pre++oU++post).map uV) 1 true)∧oU.length=L∧(∀d∈oU,d<4294967296)∧((r=VB false∧val 4294967296 oU+t*val 4294967296 vs=val 4294967296 gE)∨(r=VB true∧val 4294967296 gE<t*val 4294967296 vs∧val 4294967296 oU+t*val 4294967296 vs=val 4294967296 gE+val 4294967296 vs)))) (Ak [.tmp 6] fun r H'=>∃oU:List Nat,H'=H.set b (.row g ((pre++oU++post).map uV) 1 true)∧oU.length=L∧(∀d∈oU,d<4294967296)∧((r=VB false∧val 4294967296 oU+t*val 4294967296 vs=val 4294967296 gE)∨(r=VB true∧val 4294967296 gE<t*val 4294967296 vs∧val 4294967296 oU+t*val 4294967296 vs=val 4294967296 gE+val 4294967296 vs))))) ρ (H.set b (.row g ((pre++s++post).map uV) 1 true)):=by
  intro ρ s hs LH Ja Yt g0 g1 g7 g58 g59
  refine bB (fun(u:Nat×List Nat×Nat) ρ K=>u.1≤L∧K=H.set b (.row g ((pre++u.2.1++post).map uV) 1 true)∧u.2.1.length=L∧(∀d∈u.2.1,d<4294967296)∧u.2.2≤1∧val 4294967296 (s.take u.1)+val 4294967296 (vs.take u.1)=val 4294967296 (u.2.1.take u.1)+4294967296^u.1*u.2.2∧(∀j,u.1≤j→u.2.1[j]? = s[j]?) ∧
   ρ 0 = .ref b g o L c∧ρ 1 = .ref b2 g2 0 n2 c2∧ρ 7=VK .u64 u.2.2∧ρ 58=VI L∧ρ 59=VI u.1) (fun u=>L-u.1) (0,s,0) ⟨Nat.zero_le _,rfl,hs,LH,by simp,by simp[val],fun _ _=>rfl,g0,g1,g7,g58,g59⟩ ?_
  rintro⟨i,outs,cy⟩ Kh K ⟨hi,rfl,iC,jS,hc,hv,Dx,k0,k1,k7,k58,k59⟩
  simp only at hi iC jS hc hv Dx k7 k59
  by_cases cX:(i:Int)<(L:Int)
  ·obtain⟨x,hx⟩:∃x,outs[i]? = some x:=⟨_,List.getElem?_eq_getElem (by omega)⟩
   have lx:=jS x (List.mem_of_getElem? hx)
   have SC:s[i]? = some x:=by rw[←Dx i (Nat.le_refl _)];exact hx
   have e1:bE 1 (.ref b g o L c) (VI i) (H.set b (.row g ((pre++outs++post).map uV) 1 true))=some (.ptr b g (o+i) 0):=bD (rd outs iC) (by omega)
   have e2:gM false 1 (.ptr b g (o+i) 0) (H.set b (.row g ((pre++outs++post).map uV) 1 true))=some (uV x):=gS (rd outs iC) (by rw[Mm ho (by omega)];exact hx)
   have e3:∀d:Nat,dC lo 1 (.ptr b g (o+i) 0) (uV d) (H.set b (.row g ((pre++outs++post).map uV) 1 true))=some (H.set b (.row g ((pre++outs.set i d++post).map uV) 1 true)):=fun d=>by
    rw[UO (rd outs iC) ho (by omega) gV,kL]
   have e4:=e00 (rd2 outs)
   have w1:IntKind.u64.wrap (x:Int)=(x:Int):=eH _ (by omega)
   have w2:IntKind.u64.wrap ((cy:Int)+(x:Int))=((cy+x:Nat):Int):=by rw[←Int.natCast_add];exact eH _ (by omega)
   have wii:=wi i (by omega)
   have step:∀y,y<4294967296→(∀d,vs[i]? = some d→d=y)→(vs.length≤i→y=0) →
     (i+1≤L∧(outs.set i ((cy+x+y) % 4294967296)).length=L∧(∀d∈outs.set i ((cy+x+y) % 4294967296),d<4294967296)∧(cy+x+y) / 4294967296≤1∧val 4294967296 (s.take (i+1))+val 4294967296 (vs.take (i+1))=val 4294967296 ((outs.set i ((cy+x+y) % 4294967296)).take (i+1))+4294967296^(i+1)*((cy+x+y) / 4294967296))∧∀j,i+1≤j→(outs.set i ((cy+x+y) % 4294967296))[j]? = s[j]? := by
    intro y hy h1 h2
    refine⟨⟨by omega,by rw[List.length_set];exact iC,jZ jS (Nat.mod_lt _ (by decide)),by omega,?_⟩,fun j hj=>by rw[List.getElem?_set_ne (by omega)];exact Dx j (by omega)⟩
    have hy':val 4294967296 (vs.take (i+1))=val 4294967296 (vs.take i)+4294967296^i*y:=by
     cases QO:vs[i]? with
     | some d=>rw[aS QO,h1 d QO]
     |
      none =>
      have hle:=List.getElem?_eq_none_iff.1 QO
      rw[h2 hle,iG hle,iG (by omega),Nat.mul_zero,Nat.add_zero]
    rw[aS SC,hy',dG (by omega),Nat.pow_succ]
    exact Du hv rfl (Nat.mod_add_div _ _)
   by_cases aX:(i:Int)<(n2:Int)
   ·obtain⟨y,hy⟩:∃y,vs[i]? = some y:=⟨_,List.getElem?_eq_getElem (by omega)⟩
    have ly:=DU y (List.mem_of_getElem? hy)
    have f1:bE 1 (.ref b2 g2 0 n2 c2) (VI i) (H.set b (.row g ((pre++outs++post).map uV) 1 true))=some (.ptr b2 g2 i 0):=by rw[bD (rd2 outs) (by omega),Nat.zero_add]
    have f2:gM false 1 (.ptr b2 g2 i 0) (H.set b (.row g ((pre++outs++post).map uV) 1 true))=some (uV y):=gS (rd2 outs) (by rw[wC i (by omega)];exact hy)
    have w3:IntKind.u64.wrap (y:Int)=(y:Int):=eH _ (by omega)
    have w4:IntKind.u64.wrap (((cy+x:Nat):Int)+(y:Int))=((cy+x+y:Nat):Int):=by rw[←Int.natCast_add];exact eH _ (by omega)
    obtain⟨⟨s1,s2,s3,s4,s5⟩,s6⟩:=step y ly (fun d hd=>by rw[hy] at hd;injection hd with hd;exact hd.symm) (fun h=>by omega)
    simp only[kC,k0,k1,k7,k58,k59,cX,aX,e1,e2,e3,e4,f1,f2,w1,w2,w3,w4,wii,wrap32,qI,VX,Nat.reduceEqDiff,Nat.reduceAdd]
    exact⟨(i+1,outs.set i ((cy+x+y) % 4294967296),(cy+x+y) / 4294967296),by simp only;omega,s1,rfl,s2,s3,s4,s5,s6,by (repeat' apply And.intro)<;>first | rfl | trivial⟩
   ·obtain⟨⟨s1,s2,s3,s4,s5⟩,s6⟩:=step 0 (by decide) (fun d hd=>by have:=(List.getElem?_eq_some_iff.1 hd).1;omega) (fun _=>rfl)
    simp only[Nat.add_zero] at s2 s3 s4 s5 s6
    simp only[kC,k0,k1,k7,k58,k59,cX,aX,e1,e2,e3,e4,w1,w2,wii,wrap32,qI,VX,Nat.reduceEqDiff,Nat.reduceAdd]
    exact⟨(i+1,outs.set i ((cy+x) % 4294967296),(cy+x) / 4294967296),by simp only;omega,s1,rfl,s2,s3,s4,s5,s6,by (repeat' apply And.intro)<;>first | rfl | trivial⟩
  ·have qW:i=L:=by omega
   subst qW
   rw[List.take_of_length_le (by omega),List.take_of_length_le (by omega),List.take_of_length_le (by omega)] at hv
   simp only[kC,k0,k1,k7,k58,k59,cX,VX,Nat.reduceEqDiff,Nat.reduceAdd]
   exact⟨outs,rfl,iC,jS,.inr ⟨Yt,Ja outs iC jS cy hv⟩⟩
 simp only[Cw,Au,e0 hr,VX,Nat.reduceEqDiff,Nat.reduceAdd]
 refine bB (fun(u:Nat×List Nat×Nat×Nat) ρ K=>u.1≤L∧K=H.set b (.row g ((pre++u.2.1++post).map uV) 1 true)∧u.2.1.length=L∧(∀d∈u.2.1,d<4294967296)∧u.2.2.1<4294967296∧u.2.2.2≤1∧val 4294967296 (gE.take u.1)+4294967296^u.1*(u.2.2.1+u.2.2.2)=val 4294967296 (u.2.1.take u.1)+t*val 4294967296 (vs.take u.1)∧(∀j,u.1≤j→u.2.1[j]? = gE[j]?) ∧
  ρ 0 = .ref b g o L c∧ρ 1 = .ref b2 g2 0 n2 c2∧ρ 2=VK .u64 t∧ρ 7=VK .u64 u.2.2.1∧ρ 8=VI u.2.2.2∧ρ 13=VI L∧ρ 14=VI u.1) (fun u=>L-u.1) (0,gE,0,0) ⟨Nat.zero_le _,(tE hr).symm,hL,TY,by simp,by simp,by simp[val],fun _ _=>rfl,by (repeat' apply And.intro)<;>first | rfl | trivial⟩ ?_
 rintro⟨i,outs,cy,l⟩ ρ K ⟨hi,rfl,iC,jS,hc,Em,hv,Dx,k0,k1,k2,k7,k8,yZ,AF⟩
 simp only at hi iC jS hc Em hv Dx k7 k8 AF
 by_cases cX:(i:Int)<(L:Int)
 ·obtain⟨x,hx⟩:∃x,outs[i]? = some x:=⟨_,List.getElem?_eq_getElem (by omega)⟩
  have lx:=jS x (List.mem_of_getElem? hx)
  have SC:gE[i]? = some x:=by rw[←Dx i (Nat.le_refl _)];exact hx
  have e1:bE 1 (.ref b g o L c) (VI i) (H.set b (.row g ((pre++outs++post).map uV) 1 true))=some (.ptr b g (o+i) 0):=bD (rd outs iC) (by omega)
  have e2:gM false 1 (.ptr b g (o+i) 0) (H.set b (.row g ((pre++outs++post).map uV) 1 true))=some (uV x):=gS (rd outs iC) (by rw[Mm ho (by omega)];exact hx)
  have e3:∀d:Nat,dC lo 1 (.ptr b g (o+i) 0) (uV d) (H.set b (.row g ((pre++outs++post).map uV) 1 true))=some (H.set b (.row g ((pre++outs.set i d++post).map uV) 1 true)):=fun d=>by
   rw[UO (rd outs iC) ho (by omega) gV,kL]
  have e4:=e00 (rd2 outs)
  have wii:=wi i (by omega)
  have w1:IntKind.i64.wrap (x:Int)=(x:Int):=wrapN x rfl (by omega)
  have step:∀y c1,y<4294967296→c1=cy+t*y→(∀d,vs[i]? = some d→d=y)→(vs.length≤i→y=0) →
    c1 / 4294967296<4294967296∧IntKind.i64.wrap ((x:Int)-((c1 % 4294967296:Nat):Int)-(l:Int))=(x:Int)-((c1 % 4294967296:Nat):Int)-(l:Int)∧IntKind.i64.wrap ((x:Int)-((c1 % 4294967296:Nat):Int))=(x:Int)-((c1 % 4294967296:Nat):Int) ∧
    ∃r l',l'≤1∧((x:Int)-((c1 % 4294967296:Nat):Int)-(l:Int)<0↔l'=1)∧IntKind.u32.wrap ((x:Int)-((c1 % 4294967296:Nat):Int)-(l:Int))=((r:Nat):Int) ∧
    (i+1≤L∧(outs.set i r).length=L∧(∀d∈outs.set i r,d<4294967296)∧c1 / 4294967296<4294967296∧l'≤1∧val 4294967296 (gE.take (i+1))+4294967296^(i+1)*(c1 / 4294967296+l')=val 4294967296 ((outs.set i r).take (i+1))+t*val 4294967296 (vs.take (i+1))∧∀j,i+1≤j→(outs.set i r)[j]? = gE[j]?):=by
   intro y c1 hy hc1 h1 h2
   have hty:t*y≤4294967295*4294967295:=Nat.mul_le_mul (by omega) (by omega)
   have hm:=Nat.mod_lt c1 (show 0<4294967296 by decide)
   have hdv:=Nat.mod_add_div c1 4294967296
   have hq:c1 / 4294967296<4294967296:=Nat.div_lt_of_lt_mul (by omega)
   refine⟨hq,wrap64 (by omega) (by omega),wrap64 (by omega) (by omega),?_⟩
   obtain⟨r,l',A7,E0,hd,hlw,lO⟩:∃r l':Nat,l'≤1∧r<4294967296∧r+c1 % 4294967296+l=x+4294967296*l'∧IntKind.u32.wrap ((x:Int)-((c1 % 4294967296:Nat):Int)-(l:Int))=((r:Nat):Int)∧((x:Int)-((c1 % 4294967296:Nat):Int)-(l:Int)<0↔l'=1):=by
    by_cases hn:(x:Int)-((c1 % 4294967296:Nat):Int)-(l:Int)<0
    ·exact⟨x+4294967296-c1 % 4294967296-l,1,by omega,by omega,by omega,H5 (by omega) hn (by omega),fun _=>rfl,fun _=>hn⟩
    ·exact⟨x-c1 % 4294967296-l,0,by omega,by omega,by omega,by rw[IntKind.wrap_u32];omega,fun h=>absurd h hn,fun h=>by omega⟩
   refine⟨r,l',A7,lO,hlw,by omega,by rw[List.length_set];exact iC,jZ jS E0,hq,A7,?_,fun j hj=>by rw[List.getElem?_set_ne (by omega)];exact Dx j (by omega)⟩
   have hy':val 4294967296 (vs.take (i+1))=val 4294967296 (vs.take i)+4294967296^i*y:=by
    cases QO:vs[i]? with
    | some d=>rw[aS QO,h1 d QO]
    |
     none =>
     have hle:=List.getElem?_eq_none_iff.1 QO
     rw[h2 hle,iG hle,iG (by omega),Nat.mul_zero,Nat.add_zero]
   rw[aS SC,hy',dG (by omega),Nat.pow_succ]
   have:=TG hv hc1 hdv.symm hd
   rw[this,Nat.mul_add,Nat.mul_left_comm t]
  by_cases aX:(i:Int)<(n2:Int)
  ·obtain⟨y,hy⟩:∃y,vs[i]? = some y:=⟨_,List.getElem?_eq_getElem (by omega)⟩
   have ly:=DU y (List.mem_of_getElem? hy)
   have f1:bE 1 (.ref b2 g2 0 n2 c2) (VI i) (H.set b (.row g ((pre++outs++post).map uV) 1 true))=some (.ptr b2 g2 i 0):=by rw[bD (rd2 outs) (by omega),Nat.zero_add]
   have f2:gM false 1 (.ptr b2 g2 i 0) (H.set b (.row g ((pre++outs++post).map uV) 1 true))=some (uV y):=gS (rd2 outs) (by rw[wC i (by omega)];exact hy)
   have w3:IntKind.u64.wrap (y:Int)=(y:Int):=eH _ (by omega)
   have hty:t*y≤4294967295*4294967295:=Nat.mul_le_mul (by omega) (by omega)
   have w4:IntKind.u64.wrap ((t:Int)*(y:Int))=((t*y:Nat):Int):=by rw[←Int.natCast_mul];exact eH _ (by omega)
   have w5:IntKind.u64.wrap ((cy:Int)+((t*y:Nat):Int))=((cy+t*y:Nat):Int):=by rw[←Int.natCast_add];exact eH _ (by omega)
   have w6:IntKind.i64.wrap (((cy+t*y) % 4294967296:Nat):Int)=(((cy+t*y) % 4294967296:Nat):Int):=wrapN _ rfl (by omega)
   obtain⟨_,a1,a2,r,l',A7,lO,hw,s1,s2,s3,s4,s5,s6,s7⟩:=step y (cy+t*y) ly rfl (fun d hd=>by rw[hy] at hd;injection hd with hd;exact hd.symm) (fun h=>by omega)
   by_cases hn:(x:Int)-(((cy+t*y) % 4294967296:Nat):Int)-(l:Int)<0
   ·have:=lO.1 hn
    subst this
    simp only[eQ,k0,k1,k2,k7,k8,yZ,AF,cX,aX,e1,e2,e3,e4,f1,f2,w1,w3,w4,w5,w6,a1,a2,hn,hw,wii,wrap32,qI,VX,Nat.reduceEqDiff,Nat.reduceAdd]
    exact⟨(i+1,outs.set i r,(cy+t*y) / 4294967296,1),by simp only;omega,s1,rfl,s2,s3,s4,s5,s6,s7,by (repeat' apply And.intro)<;>first | rfl | trivial⟩
   ·have:l'=0:=by
     have:l'≠1:=fun h=>hn (lO.2 h)
     omega
    subst this
    simp only[eQ,k0,k1,k2,k7,k8,yZ,AF,cX,aX,e1,e2,e3,e4,f1,f2,w1,w3,w4,w5,w6,a1,a2,hn,hw,wii,wrap32,qI,VX,Nat.reduceEqDiff,Nat.reduceAdd]
    exact⟨(i+1,outs.set i r,(cy+t*y) / 4294967296,0),by simp only;omega,s1,rfl,s2,s3,s4,s5,s6,s7,by (repeat' apply And.intro)<;>first | rfl | trivial⟩
  ·have w6:IntKind.i64.wrap ((cy % 4294967296:Nat):Int)=((cy % 4294967296:Nat):Int):=wrapN _ rfl (by omega)
   obtain⟨_,a1,a2,r,l',A7,lO,hw,s1,s2,s3,s4,s5,s6,s7⟩:=step 0 cy (by decide) (by simp) (fun d hd=>by have:=(List.getElem?_eq_some_iff.1 hd).1;omega) (fun _=>rfl)
   by_cases hn:(x:Int)-((cy % 4294967296:Nat):Int)-(l:Int)<0
   ·have:=lO.1 hn
    subst this
    simp only[eQ,k0,k1,k2,k7,k8,yZ,AF,cX,aX,e1,e2,e3,e4,w1,w6,a1,a2,hn,hw,wii,wrap32,qI,VX,Nat.reduceEqDiff,Nat.reduceAdd]
    exact⟨(i+1,outs.set i r,cy / 4294967296,1),by simp only;omega,s1,rfl,s2,s3,s4,s5,s6,s7,by (repeat' apply And.intro)<;>first | rfl | trivial⟩
   ·have:l'=0:=by
     have:l'≠1:=fun h=>hn (lO.2 h)
     omega
    subst this
    simp only[eQ,k0,k1,k2,k7,k8,yZ,AF,cX,aX,e1,e2,e3,e4,w1,w6,a1,a2,hn,hw,wii,wrap32,qI,VX,Nat.reduceEqDiff,Nat.reduceAdd]
    exact⟨(i+1,outs.set i r,cy / 4294967296,0),by simp only;omega,s1,rfl,s2,s3,s4,s5,s6,s7,by (repeat' apply And.intro)<;>first | rfl | trivial⟩
 ·have qW:i=L:=by omega
  subst qW
  rw[List.take_of_length_le (by omega),List.take_of_length_le (by omega),List.take_of_length_le (by omega)] at hv
  have abX:=mT jS
  rw[iC] at abX
  by_cases hz:l=0∧cy=0
  ·obtain⟨rfl,rfl⟩:=hz
   simp only[eQ,k0,k1,k2,k7,k8,yZ,AF,cX,Int.natCast_zero,VX,Nat.reduceEqDiff,Nat.reduceAdd]
   exact⟨outs,rfl,iC,jS,.inl (by simpa using hv.symm)⟩
  ·have Ub:cy+l=1:=by
    rcases Vh hv abX hVL vF with h | h<;>omega
   rw[Ub,Nat.mul_one] at hv
   have Yt:val 4294967296 gE<t*val 4294967296 vs:=by omega
   have fin:∀s2:List Nat,s2.length=i→(∀d∈s2,d<4294967296)→∀c,val 4294967296 outs+val 4294967296 vs=val 4294967296 s2+4294967296^i*c→val 4294967296 s2+t*val 4294967296 vs=val 4294967296 gE+val 4294967296 vs:=by
    intro s2 h2 h3 c h4
    have h5:=mT h3
    rw[h2] at h5
    exact Ws hv h4 h5 hVL vF MC (by omega)
   have hlen:=e0 (rd outs iC)
   by_cases xM:(l:Int)=0
   ·have hcy:¬(cy:Int)=0:=by omega
    simp only[eQ,k0,k1,k2,k7,k8,yZ,AF,cX,xM,hcy,hlen,VX,Nat.reduceEqDiff,Nat.reduceAdd]
    exact back _ outs iC jS fin Yt k0 k1 (by rfl) (by rfl) (by rfl)
   ·simp only[eQ,k0,k1,k2,k7,k8,yZ,AF,cX,xM,hlen,VX,Nat.reduceEqDiff,Nat.reduceAdd]
    exact back _ outs iC jS fin Yt k0 k1 (by rfl) (by rfl) (by rfl)
end Go.PM
namespace Go.PM
theorem tG {d:Nat} {H:aB}:fz (d+1) H (.tree [] .nil)=some (bC 0):=by
 rw[Cb]
 unfold fz
 have:aW (.tree [] .nil)=false:=by simp[aW]
 simp only[this,Bool.false_eq_true,if_false]
 rfl
theorem Xi {d:Nat} {H:aB} {m:Nat} {t:TK} (ht:t = .cl 1∨t = .op):fz (d+2) H (.tree ((aC 4294967296 m).map uV) t)=some (bC m):=by
 rcases ht with rfl | rfl
 ·unfold fz
  have:aW (.tree ((aC 4294967296 m).map uV) (.cl 1))=false:=by simp[aW]
  simp only[this,Bool.false_eq_true,if_false]
  rw[mapM_pure (dY fun _=>rfl)]
  rfl
 ·exact aJ (bK m)
abbrev H3 (us ws os:List Nat):aB:=[.row 0 (us.map uV) 1 true,.row 0 (ws.map uV) 1 true,.row 0 (os.map uV) 1 true]
theorem AB {us ws os:List Nat}:aV (H3 us ws os) 0 0=some (us.map uV,1,true):=rfl
theorem adQ {us ws os:List Nat}:aV (H3 us ws os) 1 0=some (ws.map uV,1,true):=rfl
theorem Yf {us ws os:List Nat}:aV (H3 us ws os) 2 0=some (os.map uV,1,true):=rfl
theorem T7 {us:List Nat} {i n N V:Nat} (hN:us.length=N) (cX:i+n<N) (hd:∀d∈us,d<4294967296) (hV:V<4294967296^n) (As:val 4294967296 (us.drop (i+1))<V) :
  us=us.take i++(us.drop i).take (n+1)++us.drop (i+(n+1))∧(us.take i).length=i∧((us.drop i).take (n+1)).length=n+1∧val 4294967296 ((us.drop i).take (n+1))<4294967296*V∧val 4294967296 (us.drop i)=val 4294967296 ((us.drop i).take (n+1))∧val 4294967296 (us.drop (i+(n+1)))=0∧∀j,j<n+1→((us.drop i).take (n+1))[j]? = us[i+j]? := by
 obtain⟨x,hx⟩:∃x,us[i]? = some x:=⟨_,List.getElem?_eq_getElem (by omega)⟩
 have lx:=hd x (List.mem_of_getElem? hx)
 have h1:=pS (b:=4294967296) hx
 have h2:val 4294967296 (us.drop i)<4294967296*V:=by
  have:4294967296*(val 4294967296 (us.drop (i+1))+1)≤4294967296*V:=Nat.mul_le_mul_left _ As
  omega
 have h3:=nF (b:=4294967296) (us.drop i) (n+1)
 have h4:((us.drop i).take (n+1)).length=n+1:=by rw[List.length_take,List.length_drop];omega
 rw[h4,List.drop_drop] at h3
 have h5:val 4294967296 (us.drop (i+(n+1)))=0:=by
  rcases Nat.eq_zero_or_pos (val 4294967296 (us.drop (i+(n+1)))) with h | h
  ·exact h
  ·have h6:4294967296^(n+1)*1≤4294967296^(n+1)*val 4294967296 (us.drop (i+(n+1))):=Nat.mul_le_mul_left _ h
   have h7:4294967296*V≤4294967296^(n+1):=by rw[Nat.pow_succ,Nat.mul_comm];exact Nat.mul_le_mul_right _ (by omega)
   omega
 rw[h5,Nat.mul_zero,Nat.add_zero] at h3
 refine⟨?_,by rw[List.length_take];omega,h4,by omega,h3,h5,fun j hj => ?_⟩
 ·rw[List.append_assoc,←List.drop_drop,List.take_append_drop,List.take_append_drop]
 ·rw[List.getElem?_take_of_lt hj,List.getElem?_drop]
theorem NL {x D p w:Nat} (hp:0<p) (hw:p*w=4294967296):(x+4294967296*D) / p=((D % 4294967296*4294967296+x) / p) % 4294967296+4294967296*(D / p)∨¬x<4294967296:=by
 rcases Nat.lt_or_ge x 4294967296 with hx | hx
 ·left
  have h1:(x+4294967296*D) / p / 4294967296=D / p:=by
   rw[Nat.div_div_eq_div_mul,Nat.mul_comm p,←Nat.div_div_eq_div_mul,Nat.add_mul_div_left _ _ (by decide),Nat.div_eq_of_lt hx,Nat.zero_add]
  have h2:(x+4294967296*D) / p % 4294967296=(D % 4294967296*4294967296+x) / p % 4294967296:=by
   have e:x+4294967296*D=(D % 4294967296*4294967296+x)+p*(4294967296*(w*(D / 4294967296))):=by
    have h3:=Nat.mod_add_div D 4294967296
    have h4:p*(4294967296*(w*(D / 4294967296)))=(p*w)*(4294967296*(D / 4294967296)):=by grind
    rw[h4,hw]
    omega
   rw[e,Nat.add_mul_div_left _ _ hp,Nat.add_mul_mod_self_left]
  have:=Nat.mod_add_div ((x+4294967296*D) / p) 4294967296
  rw[h1,h2] at this
  exact this.symm
 ·right
  omega
theorem Qd {x:Nat} (h0:x≠0) (hx:x<4294967296):∃s,s≤31∧TC 219 [uV x] (VI (s:Nat))∧x*2^s<4294967296:=by
 obtain⟨h1,h2,h3⟩:=Lib.bitLenAux_bounds 64 x (by omega) h0
 have h4:Lib.bitLenAux 64 x-1<32:=by
  have:2^(Lib.bitLenAux 64 x-1)<2^32:=by omega
  exact(Nat.pow_lt_pow_iff_right (by decide)).1 this
 refine⟨32-Lib.bitLenAux 64 x,by omega,?_,?_⟩
 ·have:=SI x hx
  have e:(((32-Lib.bitLenAux 64 x:Nat)):Int)=32-(Lib.bitLen x:Int):=by unfold Lib.bitLen;omega
  rw[e]
  exact this
 ·have:2^Lib.bitLenAux 64 x*2^(32-Lib.bitLenAux 64 x)=4294967296:=by rw[←Nat.pow_add,show Lib.bitLenAux 64 x+(32-Lib.bitLenAux 64 x)=32 by omega]
  rw[←this]
  exact Nat.mul_lt_mul_of_pos_right h3 (Nat.pow_pos (by decide))
theorem SG {us ws os:List Nat} {k N s w0:Nat} {ρ:cP} {Q:VQ} (hs:s≤31) (hw:2^s*w0=4294967296) (hN:us.length=N) (hk:k≤N) (A2:N≤70368744177664) (hd:∀d∈us,d<4294967296) (g8:ρ 8=VI s) (g9:ρ 9 = .ref 0 0 0 k N) (anB:ρ 147=VI k) (akN:ρ 148=VI 0)
  (hQ:∀(aU:cP) (EE:List Nat),aU 9 = .ref 0 0 0 k N→aU 13=ρ 13→EE.length=N→(∀d∈EE,d<4294967296)→val 4294967296 (EE.take k)=val 4294967296 (us.take k) / 2^s→Q (.exit 4) aU (H3 EE ws os)) :
  VW ⟨true,false⟩ 0 (.loop jI) Q ρ (H3 us ws os):=by
 have hp:0<2^s:=Nat.pow_pos (by decide)
 refine bB (fun(t:Nat×List Nat) aU H=>t.1≤k∧H=H3 t.2 ws os∧t.2.length=N∧(∀d∈t.2,d<4294967296)∧(∀j,t.1≤j→t.2[j]? = us[j]?)∧val 4294967296 (t.2.take t.1)+4294967296^t.1*(val 4294967296 ((us.take k).drop t.1) / 2^s)=val 4294967296 (us.take k) / 2^s ∧
  aU 8=VI s∧aU 9 = .ref 0 0 0 k N∧aU 13=ρ 13∧aU 147=VI k∧aU 148=VI t.1) (fun t=>k-t.1) (0,us) ⟨Nat.zero_le _,rfl,hN,hd,fun _ _=>rfl,by simp[val],g8,g9,rfl,anB,akN⟩ ?_
 rintro⟨i,vs⟩ Kh H ⟨hi,rfl,CV,DU,Dx,hv,k8,k9,yZ,ZN,X1⟩
 simp only at hi CV DU Dx hv X1
 by_cases cX:(i:Int)<(k:Int)
 ·obtain⟨x,hx⟩:∃x,us[i]? = some x:=⟨_,List.getElem?_eq_getElem (by omega)⟩
  have hx2:vs[i]? = some x:=by rw[Dx i (Nat.le_refl _)];exact hx
  have lx:=hd x (List.mem_of_getElem? hx)
  have hx3:(us.take k)[i]? = some x:=by rw[List.getElem?_take_of_lt (by omega)];exact hx
  have h1:=pS (b:=4294967296) hx3
  generalize hD:val 4294967296 ((us.take k).drop (i+1))=D at *
  have hlen:pE (.ref 0 0 0 k N) (H3 vs ws os)=some (VI k):=iS AB
  have e1:bE 1 (.ref 0 0 0 k N) (VI i) (H3 vs ws os)=some (.ptr 0 0 i 0):=by rw[bD AB (by omega),Nat.zero_add]
  have e2:gM false 1 (.ptr 0 0 i 0) (H3 vs ws os)=some (uV x):=gS AB hx2
  have e3:∀d:Nat,dC 0 1 (.ptr 0 0 i 0) (uV d) (H3 vs ws os)=some (H3 (vs.set i d) ws os):=fun d=>by
   rw[fX (f:=uV) (e:=1) AB (by omega) (Nat.le_refl _) rfl rfl]
   rfl
  have wi:IntKind.i64.wrap ((i:Int)+1)=((i+1:Nat):Int):=wrapN (i+1) (by omega) (by omega)
  have wx:IntKind.u64.wrap (x:Int)=(x:Int):=eH _ (by omega)
  have hm:=Nat.mod_lt D (show 0<4294967296 by decide)
  have w5:=Cg (D % 4294967296) .u64 hm
  have w6:IntKind.u64.wrap (((D % 4294967296*4294967296:Nat):Int)+(x:Int))=((D % 4294967296*4294967296+x:Nat):Int):=by rw[←Int.natCast_add];exact eH _ (by omega)
  have w7:=Vn (D % 4294967296*4294967296+x) s hs
  have sd:(x+4294967296*D) / 2^s=((D % 4294967296*4294967296+x) / 2^s) % 4294967296+4294967296*(D / 2^s):=by
   rcases NL (x:=x) (D:=D) hp hw with h | h
   ·exact h
   ·exact absurd lx h
  have next:∃s':Nat×List Nat,k-s'.1<k-i∧s'.1≤k∧H3 (vs.set i (((D % 4294967296*4294967296+x) / 2^s) % 4294967296)) ws os=H3 s'.2 ws os∧s'.2.length=N∧(∀d∈s'.2,d<4294967296)∧(∀j,s'.1≤j→s'.2[j]? = us[j]?)∧val 4294967296 (s'.2.take s'.1)+4294967296^s'.1*(val 4294967296 ((us.take k).drop s'.1) / 2^s)=val 4294967296 (us.take k) / 2^s∧s'.1=i+1:=by
   refine⟨(i+1,vs.set i (((D % 4294967296*4294967296+x) / 2^s) % 4294967296)),by simp only;omega,by simp only;omega,rfl,by simp only[List.length_set];exact CV,jZ DU (Nat.mod_lt _ (by decide)),fun j hj => ?_,?_,rfl⟩
   ·simp only at hj ⊢
    rw[List.getElem?_set_ne (by omega)]
    exact Dx j (by omega)
   ·simp only
    rw[dG (by omega),hD,←hv,h1,sd,Nat.pow_succ]
    generalize (D % 4294967296*4294967296+x) / 2^s % 4294967296=q
    generalize D / 2^s=E
    rw[Nat.mul_add,Nat.mul_assoc,Nat.add_assoc]
  obtain⟨s',n1,n2,n3,n4,n5,n6,n7,n8⟩:=next
  by_cases afR:((i+1:Nat):Int)<(k:Int)
  ·obtain⟨h,hh⟩:∃h,us[i+1]? = some h:=⟨_,List.getElem?_eq_getElem (by omega)⟩
   have hh2:vs[i+1]? = some h:=by rw[Dx (i+1) (by omega)];exact hh
   have hhD:D % 4294967296=h:=by
    have hh3:(us.take k)[i+1]? = some h:=by rw[List.getElem?_take_of_lt (by omega)];exact hh
    have:=pS (b:=4294967296) hh3
    rw[hD] at this
    have lh:=hd h (List.mem_of_getElem? hh)
    omega
   have f1:bE 1 (.ref 0 0 0 k N) (VI ((i+1:Nat):Int)) (H3 vs ws os)=some (.ptr 0 0 (i+1) 0):=by rw[bD AB (by omega),Nat.zero_add]
   have f2:gM false 1 (.ptr 0 0 (i+1) 0) (H3 vs ws os)=some (uV h):=gS AB hh2
   have wh:IntKind.u64.wrap (h:Int)=(h:Int):=eH _ (by omega)
   rw[hhD] at w5 w6 w7 n3
   simp only[jI,k8,k9,ZN,X1,cX,afR,hlen,e1,e2,e3,f1,f2,wi,wx,wh,w5,w6,w7,wrap32,VX,Nat.reduceEqDiff,Nat.reduceAdd]
   exact⟨s',n1,n2,n3,n4,n5,n6,n7,yZ,by rw[n8]⟩
  ·have hD0:D=0:=by
    rw[←hD,List.drop_of_length_le (by rw[List.length_take];omega)]
    rfl
   subst hD0
   have w5':cU .shl (.int .u64 0) (.int .u64 32)=some (.int .u64 0):=Cg 0 .u64 (by decide)
   have w6':IntKind.u64.wrap ((0:Int)+(x:Int))=(x:Int):=by rw[Int.zero_add];exact wx
   have w7':=Vn x s hs
   simp only[Nat.zero_mod,Nat.zero_mul,Nat.zero_add] at n3
   simp only[jI,k8,k9,ZN,X1,cX,afR,hlen,e1,e2,e3,wi,wx,w5',w6',w7',wrap32,VX,Nat.reduceEqDiff,Nat.reduceAdd]
   exact⟨s',n1,n2,n3,n4,n5,n6,n7,yZ,by rw[n8]⟩
 ·have qW:i=k:=by omega
  subst qW
  rw[List.drop_of_length_le (by rw[List.length_take];omega)] at hv
  simp only[val,Nat.zero_div,Nat.mul_zero,Nat.add_zero] at hv
  simp only[jI,k8,k9,ZN,X1,cX,VX,Nat.reduceEqDiff,Nat.reduceAdd]
  exact hQ _ vs k9 yZ CV DU hv
end Go.PM
namespace Go.PM
theorem Qk {gE vs us ws os:List Nat} {n u2 u1 u0 v1 v0 N k g left:Nat} (G:tC 4294967296 gE vs n u2 u1 u0 v1 v0) {ρ:cP} {Q:VQ} (hN:us.length=N) (YE:2≤k) (hkN:k<N) (A2:N≤70368744177664) (YP:us[k-2]? = some u0)
  (g9:ρ 9 = .ref 0 0 0 N N) (g11:ρ 11=VK .u64 v1) (g12:ρ 12=VK .u64 v0) (g15:ρ 15=VI k) (g17:ρ 17=VK .u64 g) (g18:ρ 18=VK .u64 left) (hh:u2*4294967296+u1=g*v1+left) (hq:val 4294967296 gE / val 4294967296 vs≤g) (hl:left<4294967296) (hgb:g<18446744073709551616)
  (hQ:∀(aU:cP) (g':Nat),val 4294967296 gE / val 4294967296 vs≤g'→g'≤val 4294967296 gE / val 4294967296 vs+1→g'<4294967296→aU 17=VK .u64 g'→aU 8=ρ 8→aU 9=ρ 9→aU 10=ρ 10→aU 11=ρ 11→aU 12=ρ 12→aU 13=ρ 13→aU 14=ρ 14→aU 15=ρ 15→Q (.exit 2) aU (H3 us ws os)) :
  VW ⟨true,false⟩ 0 (.loop fD) Q ρ (H3 us ws os):=by
 have lv1:=G.Sc
 have lv0:=G.Xp
 have lu0:=G.Y9
 have qlt:=G.YR
 have jO:=G.pos
 refine bB (fun(t:Nat×Nat) aU H=>H=H3 us ws os∧u2*4294967296+u1=t.1*v1+t.2∧val 4294967296 gE / val 4294967296 vs≤t.1∧t.2<4294967296∧t.1<18446744073709551616 ∧
  aU 9 = .ref 0 0 0 N N∧aU 11=VK .u64 v1∧aU 12=VK .u64 v0∧aU 15=VI k∧aU 17=VK .u64 t.1∧aU 18=VK .u64 t.2∧aU 8=ρ 8∧aU 10=ρ 10∧aU 13=ρ 13∧aU 14=ρ 14) (fun t=>4294967296-t.2) (g,left) ⟨rfl,hh,hq,hl,hgb,g9,g11,g12,g15,g17,g18,rfl,rfl,rfl,rfl⟩ ?_
 rintro⟨g,left⟩ Kh H ⟨rfl,hh,hq,hl,hgb,k9,Si,Gd,Hv,EJ,Uy,k8,Ul,yZ,AF⟩
 simp only at hh hq hl hgb EJ Uy
 have e1:bE 1 (.ref 0 0 0 N N) (VI ((k-2:Nat):Int)) (H3 us ws os)=some (.ptr 0 0 (k-2) 0):=by rw[bD AB (by omega),Nat.zero_add]
 have e2:gM false 1 (.ptr 0 0 (k-2) 0) (H3 us ws os)=some (uV u0):=gS AB YP
 have wk:IntKind.i64.wrap ((k:Int)-2)=((k-2:Nat):Int):=wrapN _ (by omega) (by omega)
 have wu:IntKind.u64.wrap (u0:Int)=(u0:Int):=eH _ (by omega)
 have ws:=Cg left .u64 hl
 have wa:IntKind.u64.wrap (((left*4294967296:Nat):Int)+(u0:Int))=((left*4294967296+u0:Nat):Int):=by rw[←Int.natCast_add];exact eH _ (by omega)
 have wl:IntKind.u64.wrap ((left:Int)+(v1:Int))=((left+v1:Nat):Int):=by rw[←Int.natCast_add];exact eH _ (by omega)
 have same:Kh 9=ρ 9∧Kh 11=ρ 11∧Kh 12=ρ 12∧Kh 15=ρ 15:=⟨by rw[k9,g9],by rw[Si,g11],by rw[Gd,g12],by rw[Hv,g15]⟩
 obtain⟨s9,s11,s12,s15⟩:=same
 have down:val 4294967296 gE / val 4294967296 vs<g→∃g',g=g'+1∧IntKind.u64.wrap ((g:Int)-1)=(g':Int)∧u2*4294967296+u1=g'*v1+(left+v1)∧val 4294967296 gE / val 4294967296 vs≤g':=by
  intro h
  have Za:1≤g:=Nat.lt_of_le_of_lt (Nat.zero_le _) h
  obtain⟨g',rfl⟩:∃g',g=g'+1:=⟨g-1,by omega⟩
  refine⟨g',rfl,?_,?_,by omega⟩
  ·rw[show ((g'+1:Nat):Int)-1=(g':Int) by omega]
   exact eH _ (by omega)
  ·rw[hh,Nat.add_mul]
   omega
 by_cases hA:(4294967296:Int)≤(g:Int)
 ·obtain⟨g',UU,wg,Qy,JX⟩:=down (by omega)
  by_cases hB:(4294967296:Int)≤((left+v1:Nat):Int)
  ·obtain⟨c1,c2⟩:=G.broken Qy (by omega)
   simp only[fD,k9,Si,Gd,Hv,EJ,Uy,hA,hB,wg,wl,VX,Nat.reduceEqDiff,Nat.reduceAdd]
   exact hQ _ g' JX (G.Tk Qy (by omega) c2) c1 rfl k8 s9 Ul s11 s12 yZ AF s15
  ·simp only[fD,k9,Si,Gd,Hv,EJ,Uy,hA,hB,wg,wl,VX,Nat.reduceEqDiff,Nat.reduceAdd]
   exact⟨(g',left+v1),by simp only;omega,Qy,JX,by simp only;omega,by simp only;omega,by rfl,by rfl,k8,Ul,yZ,AF⟩
 ·have hgv:g*v0≤4294967295*4294967295:=Nat.mul_le_mul (by omega) (by omega)
  have wm:IntKind.u64.wrap ((g:Int)*(v0:Int))=((g*v0:Nat):Int):=by rw[←Int.natCast_mul];exact eH _ (by omega)
  by_cases hT:((left*4294967296+u0:Nat):Int)<((g*v0:Nat):Int)
  ·obtain⟨g',UU,wg,Qy,JX⟩:=down (G.too hh (by omega))
   by_cases hB:(4294967296:Int)≤((left+v1:Nat):Int)
   ·obtain⟨c1,c2⟩:=G.broken Qy (by omega)
    simp only[fD,k9,Si,Gd,Hv,EJ,Uy,hA,hB,hT,e1,e2,wk,wu,ws,wa,wm,wg,wl,VX,Nat.reduceEqDiff,Nat.reduceAdd]
    exact hQ _ g' JX (G.Tk Qy (by omega) c2) c1 rfl k8 s9 Ul s11 s12 yZ AF s15
   ·simp only[fD,k9,Si,Gd,Hv,EJ,Uy,hA,hB,hT,e1,e2,wk,wu,ws,wa,wm,wg,wl,VX,Nat.reduceEqDiff,Nat.reduceAdd]
    exact⟨(g',left+v1),by simp only;omega,Qy,JX,by simp only;omega,by simp only;omega,by rfl,by rfl,k8,Ul,yZ,AF⟩
  ·simp only[fD,k9,Si,Gd,Hv,EJ,Uy,hA,hT,e1,e2,wk,wu,ws,wa,wm,VX,Nat.reduceEqDiff,Nat.reduceAdd]
   exact hQ _ g hq (G.Tk hh (by omega) (by omega)) (by omega) EJ k8 s9 Ul s11 s12 yZ AF s15
theorem HT {X S S' R V q Q P w:Nat} (hs:S=q*V+S') (h:X+P*S+P*w*V*Q=R):X+P*S'+P*V*(q+w*Q)=R:=by
 subst hs
 grind
theorem UI {Ci ws Uo vs:List Nat} {N m n v1 v0 A s:Nat} {ρ:cP} {Q:VQ} (hN:Ci.length=N) (hm:m+(n+2)=N) (A2:N≤70368744177664) (F8:∀d∈Ci,d<4294967296) (hws:ws.take (n+2)=vs) (hwl:ws.length=n+3) (CV:vs.length=n+2) (DU:∀d∈vs,d<4294967296) (f1:vs[n+1]? = some v1) (f0:vs[n]? = some v0) (jO:1≤v1)
  (hA:val 4294967296 Ci=A) (As:val 4294967296 (Ci.drop m)<val 4294967296 vs) (iC:Uo.length=m) (jS:∀d∈Uo,d<4294967296)
  (g8:ρ 8=VI s) (g9:ρ 9 = .ref 0 0 0 N N) (g10:ρ 10 = .ref 1 0 0 (n+2) (n+3)) (g11:ρ 11=VK .u64 v1) (g12:ρ 12=VK .u64 v0) (g13:ρ 13 = .ref 2 0 0 m m) (g14:ρ 14=VI ((m:Int)-1))
  (hQ:∀(aU:cP) (us os:List Nat),aU 8=VI s→aU 9 = .ref 0 0 0 N N→aU 13 = .ref 2 0 0 m m→us.length=N→(∀d∈us,d<4294967296)→os.length=m→(∀d∈os,d<4294967296)→val 4294967296 us+val 4294967296 vs*val 4294967296 os=A→val 4294967296 us<val 4294967296 vs→Q (.exit 0) aU (H3 us ws os)) :
  VW ⟨true,false⟩ 0 (.loop lX) Q ρ (H3 Ci ws Uo):=by
 have hVb:=mT DU
 rw[CV] at hVb
 refine bB (fun(t:Nat×List Nat×List Nat) aU H=>t.1≤m∧H=H3 t.2.1 ws t.2.2∧t.2.1.length=N∧(∀d∈t.2.1,d<4294967296)∧t.2.2.length=m∧(∀d∈t.2.2,d<4294967296)∧val 4294967296 (t.2.1.drop t.1)<val 4294967296 vs∧val 4294967296 t.2.1+4294967296^t.1*val 4294967296 vs*val 4294967296 (t.2.2.drop t.1)=A ∧
  aU 8=VI s∧aU 9 = .ref 0 0 0 N N∧aU 10 = .ref 1 0 0 (n+2) (n+3)∧aU 11=VK .u64 v1∧aU 12=VK .u64 v0∧aU 13 = .ref 2 0 0 m m∧aU 14=VI ((t.1:Int)-1)) (fun t=>t.1) (m,Ci,Uo) ⟨Nat.le_refl _,rfl,hN,F8,iC,jS,As,by rw[List.drop_of_length_le (by simp only;omega)];simpa[val] using hA,g8,g9,g10,g11,g12,g13,g14⟩ ?_
 rintro⟨j,us,os⟩ Kh H ⟨hj,rfl,MQ,F8,iC,jS,aX,hv,k8,k9,Ul,Si,Gd,yZ,AF⟩
 simp only at hj MQ F8 iC jS aX hv AF
 by_cases hz:(0:Int)≤(j:Int)-1
 ·obtain⟨i,rfl⟩:∃i,j=i+1:=⟨j-1,by omega⟩
  have JD:((i+1:Nat):Int)-1=(i:Int):=by omega
  rw[JD] at AF hz
  obtain⟨Q3,Az,MC,hsW,W8,WW,wC⟩:=T7 (n:=n+2) MQ (by omega) F8 hVb aX
  generalize TY:(us.drop i).take (n+2+1)=gE at *
  have LH:∀d∈gE,d<4294967296:=fun d hd=>by rw[←TY] at hd;exact F8 d (List.mem_of_mem_drop (List.mem_of_mem_take hd))
  obtain⟨u2,Zl⟩:∃u2,us[i+(n+2)]? = some u2:=⟨_,List.getElem?_eq_getElem (by omega)⟩
  obtain⟨u1,Xx⟩:∃u1,us[i+(n+1)]? = some u1:=⟨_,List.getElem?_eq_getElem (by omega)⟩
  obtain⟨u0,YP⟩:∃u0,us[i+n]? = some u0:=⟨_,List.getElem?_eq_getElem (by omega)⟩
  have G:tC 4294967296 gE vs n u2 u1 u0 v1 v0:=⟨by decide,LH,DU,MC,CV,by rw[wC _ (by omega)];exact Zl,by rw[wC _ (by omega)];exact Xx,by rw[wC _ (by omega)];exact YP,f1,f0,jO,hsW⟩
  have lu2:=G.ZE
  have lu1:=G.VF
  have lv1:=G.Sc
  have qlt:=G.YR
  have E2:=G.E2
  have Z2:pE (.ref 1 0 0 (n+2) (n+3)) (H3 us ws os)=some (VI ((n+2:Nat):Int)):=iS adQ
  have w1:IntKind.i64.wrap ((i:Int)+((n+2:Nat):Int))=((i+(n+2):Nat):Int):=by rw[←Int.natCast_add];exact wrapN _ rfl (by omega)
  have w2:IntKind.i64.wrap (((i+(n+2):Nat):Int)-1)=((i+(n+1):Nat):Int):=wrapN _ (by omega) (by omega)
  have e2:bE 1 (.ref 0 0 0 N N) (VI ((i+(n+2):Nat):Int)) (H3 us ws os)=some (.ptr 0 0 (i+(n+2)) 0):=by rw[bD AB (by omega),Nat.zero_add]
  have e1:bE 1 (.ref 0 0 0 N N) (VI ((i+(n+1):Nat):Int)) (H3 us ws os)=some (.ptr 0 0 (i+(n+1)) 0):=by rw[bD AB (by omega),Nat.zero_add]
  have l2:gM false 1 (.ptr 0 0 (i+(n+2)) 0) (H3 us ws os)=some (uV u2):=gS AB Zl
  have l1:gM false 1 (.ptr 0 0 (i+(n+1)) 0) (H3 us ws os)=some (uV u1):=gS AB Xx
  have wu2:IntKind.u64.wrap (u2:Int)=(u2:Int):=eH _ (by omega)
  have wu1:IntKind.u64.wrap (u1:Int)=(u1:Int):=eH _ (by omega)
  have ws2:=Cg u2 .u64 lu2
  have wa:IntKind.u64.wrap (((u2*4294967296:Nat):Int)+(u1:Int))=((u2*4294967296+u1:Nat):Int):=by rw[←Int.natCast_add];exact eH _ (by omega)
  have q1:=RU (u2*4294967296+u1) v1 (by omega) jO
  have q2:=Mc (u2*4294967296+u1) v1 jO
  simp only[lX,k8,k9,Ul,Si,Gd,yZ,AF,hz,Z2,w1,w2,e1,e2,l1,l2,wu1,wu2,ws2,wa,q1,q2,VX,Nat.reduceEqDiff,Nat.reduceAdd]
  have hh:=Nat.mod_add_div (u2*4294967296+u1) v1
  have hml:=Nat.mod_lt (u2*4294967296+u1) jO
  have hdl:(u2*4294967296+u1) / v1≤u2*4294967296+u1:=Nat.div_le_self _ _
  have JU:val 4294967296 gE / val 4294967296 vs≤(u2*4294967296+u1) / v1:=by
   have t1:=(AT (n:=n+1) (xs:=gE) LH (by omega) (by rw[wC _ (by omega)];exact Zl) (by rw[wC _ (by omega)];exact Xx)).2
   have t2:=(wQ (n:=n+1) DU CV f1).1
   rw[Nat.le_div_iff_mul_le jO]
   have t3:val 4294967296 gE / val 4294967296 vs*(v1*4294967296^(n+1))≤val 4294967296 gE / val 4294967296 vs*val 4294967296 vs:=Nat.mul_le_mul_left _ t2
   have t4:=Nat.div_mul_le_self (val 4294967296 gE) (val 4294967296 vs)
   have t5:val 4294967296 gE / val 4294967296 vs*v1*4294967296^(n+1)<(u2*4294967296+u1+1)*4294967296^(n+1):=by rw[Nat.mul_assoc];omega
   have:=Nat.lt_of_mul_lt_mul_right t5
   omega
  refine Qk (k:=i+(n+2)) G MQ (by omega) (by omega) A2 (by rw[show i+(n+2)-2=i+n by omega];exact YP) k9 Si Gd (by rfl) (by rfl) (by rfl) (by rw[Nat.mul_comm ((u2*4294967296+u1) / v1)];omega) JU (by omega) (by omega) ?_
  intro Qn g' hq JX hgW r17 r8 r9 r10 r11 ZG Ys r14 r15
  have Nd:Qn 15=VI ((i+(n+2):Nat):Int):=r15
  have r8':Qn 8=VI s:=r8.trans k8
  have r9':Qn 9 = .ref 0 0 0 N N:=r9.trans k9
  have aaP:Qn 10 = .ref 1 0 0 (n+2) (n+3):=r10.trans Ul
  have abP:Qn 11=VK .u64 v1:=r11.trans Si
  have M5:Qn 12=VK .u64 v0:=ZG.trans Gd
  have NR:Qn 13 = .ref 2 0 0 m m:=Ys.trans yZ
  have NZ:Qn 14=VI i:=r14.trans AF
  have w3:IntKind.i64.wrap (((i+(n+2):Nat):Int)+1)=((i+(n+3):Nat):Int):=wrapN _ (by omega) (by omega)
  have WU:DR 1 (.ref 0 0 0 N N) (some (VI i)) (some (VI ((i+(n+3):Nat):Int))) none (H3 us ws os)=some (.ref 0 0 i (n+3) (N-i)):=by
   rw[Vl AB (by omega) (by omega),Nat.zero_add,Nat.add_sub_cancel_left]
  simp only[r8',r9',aaP,abP,M5,NR,NZ,Nd,r17,w3,WU,VX,Nat.reduceEqDiff,Nat.reduceAdd]
  have vF:g'*val 4294967296 vs≤val 4294967296 gE+val 4294967296 vs:=by
   have:=Nat.mul_le_mul_right (val 4294967296 vs) JX
   rw[Nat.add_mul,Nat.one_mul] at this
   have:=Nat.div_mul_le_self (val 4294967296 gE) (val 4294967296 vs)
   omega
  refine oW rfl ((Qr (pre:=us.take i) (gE:=gE) (post:=us.drop (i+(n+2+1))) (L:=n+3) (o:=i) (by rw[←Q3];exact AB) (adQ (us:=us) (ws:=ws) (os:=os)) (by decide) (Nat.zero_le _) Az MC (by omega) hws (by omega) (by omega) LH DU hgW vF).mono ?_)
  rintro r H' ⟨oU,rfl,A7,Wm,hr⟩
  generalize Y2:us.take i++oU++us.drop (i+(n+2+1))=EE at *
  have FQ:(H3 us ws os).set 0 (.row 0 (EE.map uV) 1 true)=H3 EE ws os:=rfl
  rw[FQ]
  have acI:EE.length=N:=by rw[←Y2,List.length_append,List.length_append,Az,A7,List.length_drop];omega
  have YQ:∀d∈EE,d<4294967296:=fun d hd=>by
   rw[←Y2,List.mem_append,List.mem_append] at hd
   rcases hd with(hd | hd) | hd
   ·exact F8 d (List.mem_of_mem_take hd)
   ·exact Wm d hd
   ·exact F8 d (List.mem_of_mem_drop hd)
  have PE:EE.drop i=oU++us.drop (i+(n+2+1)):=by rw[←Y2,List.append_assoc,List.drop_append,List.drop_of_length_le (by omega),Az];simp
  have PR:EE.take i=us.take i:=by rw[←Y2,List.append_assoc,List.take_append_of_le_length (by omega),List.take_of_length_le (by omega)]
  have Nk:val 4294967296 (EE.drop i)=val 4294967296 oU:=by rw[PE,vS,WW,Nat.mul_zero,Nat.add_zero]
  have digit:∀q:Nat,q=val 4294967296 gE / val 4294967296 vs→val 4294967296 oU=val 4294967296 gE % val 4294967296 vs →
    val 4294967296 (EE.drop i)<val 4294967296 vs∧val 4294967296 EE+4294967296^i*val 4294967296 vs*val 4294967296 ((os.set i q).drop i)=A:=by
   rintro q Pt XK
   have Yr:=Nat.mod_lt (val 4294967296 gE) E2
   refine⟨by rw[Nk,XK];exact Yr,?_⟩
   have h1:=Nat.div_add_mod (val 4294967296 gE) (val 4294967296 vs)
   rw[←Pt,←XK,Nat.mul_comm] at h1
   have h2:=nF (b:=4294967296) us i
   have h3:=nF (b:=4294967296) EE i
   rw[PR,Az,Nk] at h3
   rw[Az,W8] at h2
   rw[set_drop (by omega),qF,h3]
   rw[h2,Nat.pow_succ] at hv
   exact HT h1.symm hv
  have e3:∀d:Nat,bE 1 (.ref 2 0 0 m m) (VI i) (H3 EE ws os)=some (.ptr 2 0 i 0)∧dC 0 1 (.ptr 2 0 i 0) (uV d) (H3 EE ws os)=some (H3 EE ws (os.set i d)):=fun d=>by
   refine⟨by rw[bD Yf (by omega),Nat.zero_add],?_⟩
   rw[fX (f:=uV) (e:=1) Yf (by omega) (Nat.zero_le _) rfl rfl]
   rfl
  have wi:IntKind.i64.wrap ((i:Int)-1)=(i:Int)-1:=wrap64 (by omega) (by omega)
  rcases hr with⟨rfl,hr⟩ | ⟨rfl,hr1,Y4⟩
  ·have Cp:g'*val 4294967296 vs≤val 4294967296 gE:=by omega
   have Pt:g'=val 4294967296 gE / val 4294967296 vs:=by
    have:=(Nat.le_div_iff_mul_le E2).2 Cp
    omega
   have XK:val 4294967296 oU=val 4294967296 gE % val 4294967296 vs:=by
    have h1:=Nat.div_add_mod (val 4294967296 gE) (val 4294967296 vs)
    rw[←Pt,Nat.mul_comm] at h1
    omega
   obtain⟨d1,d2⟩:=digit g' Pt XK
   simp only[r8',r9',aaP,abP,M5,NR,NZ,Nd,r17,(e3 g').1,(e3 g').2,wi,wrap32,Nat.mod_eq_of_lt hgW,VX,Nat.reduceEqDiff,Nat.reduceAdd]
   exact⟨(i,EE,os.set i g'),by simp only;omega,by omega,rfl,acI,YQ,by rw[List.length_set];exact iC,jZ jS hgW,d1,d2,by (repeat' apply And.intro)<;>first | rfl | trivial⟩
  ·have Xr:val 4294967296 gE / val 4294967296 vs<g':=(Nat.div_lt_iff_lt_mul E2).2 hr1
   have Za:1≤g':=Nat.lt_of_le_of_lt (Nat.zero_le _) Xr
   obtain⟨q,rfl⟩:∃q,g'=q+1:=⟨g'-1,by omega⟩
   have Pt:q=val 4294967296 gE / val 4294967296 vs:=by omega
   have XK:val 4294967296 oU=val 4294967296 gE % val 4294967296 vs:=by
    have h1:=Nat.div_add_mod (val 4294967296 gE) (val 4294967296 vs)
    rw[←Pt,Nat.mul_comm] at h1
    rw[Nat.add_mul,Nat.one_mul] at Y4
    omega
   have wq:IntKind.u64.wrap (((q+1:Nat):Int)-1)=(q:Int):=by rw[show ((q+1:Nat):Int)-1=(q:Int) by omega];exact eH _ (by omega)
   obtain⟨d1,d2⟩:=digit q Pt XK
   simp only[r8',r9',aaP,abP,M5,NR,NZ,Nd,r17,wq,(e3 q).1,(e3 q).2,wi,wrap32,Nat.mod_eq_of_lt (show q<4294967296 by omega),VX,Nat.reduceEqDiff,Nat.reduceAdd]
   exact⟨(i,EE,os.set i q),by simp only;omega,by omega,rfl,acI,YQ,by rw[List.length_set];exact iC,jZ jS (by omega),d1,d2,by (repeat' apply And.intro)<;>first | rfl | trivial⟩
 ·have PT:j=0:=by omega
  subst PT
  rw[List.drop_zero] at aX
  rw[Nat.pow_zero,Nat.one_mul,List.drop_zero] at hv
  simp only[lX,k8,k9,Ul,Si,Gd,yZ,AF,hz,VX,Nat.reduceEqDiff,Nat.reduceAdd]
  exact hQ _ us os k8 k9 yZ MQ F8 iC jS hv aX
end Go.PM