/- Texts of a claim, in one: part 8. -/
import Derived.Test.YtjmflicajplclaaGreatDoorKGg
set_option linter.unusedSimpArgs false
set_option linter.unusedVariables false
namespace Go.PM
theorem J2 {x:Int} {r:Nat} (h:x+4294967296=r) (hx:x<0) (hr:0≤x+4294967296):IntKind.u32.wrap x=(r:Int):=by rw[IntKind.wrap_u32];omega
theorem Td (n:Nat) (hn:n≤70368744177664):AB [.int .u32 0] 4 (VI (n:Int)) (VI (n:Int)) []=some (.ref 0 0 0 n n,[.row 0 ((List.replicate n 0).map uV) 1 true]):=qV (f:=uV) (x:=0) rfl (by omega) (by omega)
theorem OM {outs:List Nat} {i d:Nat} (hi:i<outs.length):bX 0 1 (.ptr 0 0 i 0) (uV d) [.row 0 (outs.map uV) 1 true]=some [.row 0 ((outs.set i d).map uV) 1 true]:=by
 rw[fF (f:=uV) (e:=1) iP hi (Nat.le_refl _) rfl rfl]
 rfl
theorem Cs (a b:Nat) (HC:b≤a) (ha:(aC 4294967296 a).length≤17592186044416):TC 146 [bM a,bM b] (bM (a-b)):=by
 refine TC.walk ⟨true,false⟩ GV rfl (Nat.le_of_ble_eq_true rfl) (by simp[aL,bO]) (pT _) ?_
 have va:=cE (b:=4294967296) (by decide) a
 have vb:=cE (b:=4294967296) (by decide) b
 have la:=fB (b:=4294967296) (by decide) a
 have lb:=fB (b:=4294967296) (by decide) b
 have hle:=dU (b:=4294967296) (by decide) HC
 unfold bM
 generalize aC 4294967296 a=xs at *
 generalize aC 4294967296 b=ys at *
 simp only[Cy,AL,Td xs.length (by omega),VX,Nat.reduceEqDiff,Nat.reduceAdd]
 refine aQ (fun(s:Nat×List Nat×Nat) ρ H=>s.1≤xs.length∧H=[.row 0 (s.2.1.map uV) 1 true]∧s.2.1.length=xs.length∧(∀d∈s.2.1,d<4294967296)∧s.2.2≤1∧val 4294967296 (xs.take s.1)+4294967296^s.1*s.2.2=val 4294967296 (s.2.1.take s.1)+val 4294967296 (ys.take s.1) ∧
  ρ 0=AO xs∧ρ 1=AO ys∧ρ 5 = .ref 0 0 0 xs.length xs.length∧ρ 6=VI s.2.2∧ρ 13=VI xs.length∧ρ 14=VI s.1) (fun s=>xs.length-s.1) (0,List.replicate xs.length 0,0) ⟨Nat.zero_le _,rfl,by simp,zY (by decide) _,by simp,by simp[val],rfl,rfl,rfl,rfl,rfl,rfl⟩ ?_
 rintro⟨i,outs,l⟩ ρ H ⟨hi,rfl,iO,kL,hc,hv,g0,g1,g5,g6,g13,g14⟩
 simp only at hi iO kL hc hv g6 g14
 by_cases cP:(i:Int)<(xs.length:Int)
 ·obtain⟨x,hx⟩:∃x,xs[i]? = some x:=⟨_,List.getElem?_eq_getElem (by omega)⟩
  have lx:=la x (List.mem_of_getElem? hx)
  have e1:=aI (f:=uV) (t := .op) (H:=[.row 0 (outs.map uV) 1 true]) (size:=1) (k := .i64) hx rfl
  have w1:IntKind.i64.wrap (x:Int)=(x:Int):=wrapN x rfl (by omega)
  have w2:IntKind.i64.wrap ((x:Int)-(l:Int))=(x:Int)-(l:Int):=wrap64 (by omega) (by omega)
  have wi:IntKind.i64.wrap ((i:Int)+1)=((i+1:Nat):Int):=wrapN (i+1) (by omega) (by omega)
  have e3:bH 1 (.ref 0 0 0 xs.length xs.length) (VI i) [.row 0 (outs.map uV) 1 true]=some (.ptr 0 0 i 0):=by rw[aY iP (by omega),Nat.zero_add]
  have e4:∀s:Nat,bX 0 1 (.ptr 0 0 i 0) (uV s) [.row 0 (outs.map uV) 1 true]=some [.row 0 ((outs.set i s).map uV) 1 true]:=fun s=>OM (by omega)
  have step:∀y r l':Nat,y<4294967296→r<4294967296→l'≤1→(∀d,ys[i]? = some d→d=y)→(ys.length≤i→y=0)→r+y+l=x+4294967296*l' →
    i+1≤xs.length∧(outs.set i r).length=xs.length∧(∀d∈outs.set i r,d<4294967296)∧l'≤1∧val 4294967296 (xs.take (i+1))+4294967296^(i+1)*l'=val 4294967296 ((outs.set i r).take (i+1))+val 4294967296 (ys.take (i+1)):=by
   intro y r l' _ hr Bf h1 h2 hd
   refine⟨by omega,by rw[List.length_set];exact iO,lA kL hr,Bf,?_⟩
   have hy:val 4294967296 (ys.take (i+1))=val 4294967296 (ys.take i)+4294967296^i*y:=by
    cases SZ:ys[i]? with
    | some d=>rw[aV SZ,h1 d SZ]
    |
     none =>
     have hle:=List.getElem?_eq_none_iff.1 SZ
     rw[h2 hle,iU hle,iU (by omega),Nat.mul_zero,Nat.add_zero]
   rw[aV hx,hy,eE (by omega),Nat.pow_succ]
   exact I2 hv hd
  by_cases bA:(i:Int)<(ys.length:Int)
  ·obtain⟨y,hy⟩:∃y,ys[i]? = some y:=⟨_,List.getElem?_eq_getElem (by omega)⟩
   have ly:=lb y (List.mem_of_getElem? hy)
   have e2:=aI (f:=uV) (t := .op) (H:=[.row 0 (outs.map uV) 1 true]) (size:=1) (k := .i64) hy rfl
   have w3:IntKind.i64.wrap (y:Int)=(y:Int):=wrapN y rfl (by omega)
   have w4:IntKind.i64.wrap ((x:Int)-(l:Int)-(y:Int))=(x:Int)-(l:Int)-(y:Int):=wrap64 (by omega) (by omega)
   by_cases lU:(x:Int)-(l:Int)-(y:Int)<0
   ·obtain⟨r,hr⟩:∃r:Nat,r+y+l=x+4294967296:=⟨x+4294967296-l-y,by omega⟩
    have w5:IntKind.u32.wrap ((x:Int)-(l:Int)-(y:Int))=(r:Int):=J2 (by omega) lU (by omega)
    obtain⟨s1,s2,s3,s4,s5⟩:=step y r 1 ly (by omega) (Nat.le_refl _) (fun d hd=>by rw[hy] at hd;injection hd with hd;exact hd.symm) (fun h=>by omega) (by omega)
    simp only[iA,g0,g1,g5,g6,g13,g14,cP,bA,lU,e1,e2,e3,e4,w1,w2,w3,w4,w5,wi,VX,Nat.reduceEqDiff,Nat.reduceAdd]
    exact⟨(i+1,outs.set i r,1),by simp only;omega,s1,rfl,s2,s3,s4,s5,by (repeat' apply And.intro)<;>first | rfl | trivial⟩
   ·obtain⟨r,hr⟩:∃r:Nat,r+y+l=x:=⟨x-l-y,by omega⟩
    have w5:IntKind.u32.wrap ((x:Int)-(l:Int)-(y:Int))=(r:Int):=by rw[IntKind.wrap_u32];omega
    obtain⟨s1,s2,s3,s4,s5⟩:=step y r 0 ly (by omega) (by omega) (fun d hd=>by rw[hy] at hd;injection hd with hd;exact hd.symm) (fun h=>by omega) (by omega)
    simp only[iA,g0,g1,g5,g6,g13,g14,cP,bA,lU,e1,e2,e3,e4,w1,w2,w3,w4,w5,wi,VX,Nat.reduceEqDiff,Nat.reduceAdd]
    exact⟨(i+1,outs.set i r,0),by simp only;omega,s1,rfl,s2,s3,s4,s5,by (repeat' apply And.intro)<;>first | rfl | trivial⟩
  ·by_cases lU:(x:Int)-(l:Int)<0
   ·obtain⟨r,hr⟩:∃r:Nat,r+l=x+4294967296:=⟨x+4294967296-l,by omega⟩
    have w5:IntKind.u32.wrap ((x:Int)-(l:Int))=(r:Int):=J2 (by omega) lU (by omega)
    obtain⟨s1,s2,s3,s4,s5⟩:=step 0 r 1 (by decide) (by omega) (Nat.le_refl _) (fun d hd=>by have:=(List.getElem?_eq_some_iff.1 hd).1;omega) (fun _=>rfl) (by omega)
    simp only[iA,g0,g1,g5,g6,g13,g14,cP,bA,lU,e1,e3,e4,w1,w2,w5,wi,VX,Nat.reduceEqDiff,Nat.reduceAdd]
    exact⟨(i+1,outs.set i r,1),by simp only;omega,s1,rfl,s2,s3,s4,s5,by (repeat' apply And.intro)<;>first | rfl | trivial⟩
   ·obtain⟨r,hr⟩:∃r:Nat,r+l=x:=⟨x-l,by omega⟩
    have w5:IntKind.u32.wrap ((x:Int)-(l:Int))=(r:Int):=by rw[IntKind.wrap_u32];omega
    obtain⟨s1,s2,s3,s4,s5⟩:=step 0 r 0 (by decide) (by omega) (by omega) (fun d hd=>by have:=(List.getElem?_eq_some_iff.1 hd).1;omega) (fun _=>rfl) (by omega)
    simp only[iA,g0,g1,g5,g6,g13,g14,cP,bA,lU,e1,e3,e4,w1,w2,w5,wi,VX,Nat.reduceEqDiff,Nat.reduceAdd]
    exact⟨(i+1,outs.set i r,0),by simp only;omega,s1,rfl,s2,s3,s4,s5,by (repeat' apply And.intro)<;>first | rfl | trivial⟩
 ·have nS:i=xs.length:=by omega
  subst nS
  rw[List.take_length,List.take_of_length_le (l:=ys) hle,List.take_of_length_le (l:=outs) (by omega),va,vb] at hv
  have eQ:=oI kL
  rw[iO] at eQ
  have D7:val 4294967296 outs=a-b:=by
   rcases Nat.lt_or_ge l 1 with h | h
   ·have:l=0:=by omega
    subst this
    rw[Nat.mul_zero] at hv
    omega
   ·have:l=1:=by omega
    subst this
    rw[Nat.mul_one] at hv
    omega
  simp only[iA,g0,g1,g5,g6,g13,g14,cP,VX,Nat.reduceEqDiff,Nat.reduceAdd]
  refine qT (m:=a-b) iP (by omega) (Nat.le_refl _) (by omega) (fun d hd=>kL d (List.mem_of_mem_take hd)) (by rw[List.take_of_length_le (by omega)];exact D7) fun k hk he => ?_
  simp only[VX,Nat.reduceEqDiff,Nat.reduceAdd]
  exact OD iP (by omega) hk he
theorem Sr {P Q A B Y x c r q o y W:Nat} (MW:A+P*Q*c=B+P*(x*Y)) (h1:r+W*q=c+(x*y+o)):A+P*Q*r+P*Q*W*q=B+P*Q*o+P*(x*(Y+Q*y)):=by
 have h2:P*Q*(r+W*q)=P*Q*(c+(x*y+o)):=by rw[h1]
 grind
theorem kT (a b:Nat) (ha:(aC 4294967296 a).length≤17592186044416) (hb:(aC 4294967296 b).length≤17592186044416):TC 143 [bM a,bM b] (bM (a*b)):=by
 refine TC.walk ⟨true,false⟩ Hv rfl (Nat.le_of_ble_eq_true rfl) (by simp[aL,bO]) (pT _) ?_
 have va:=cE (b:=4294967296) (by decide) a
 have vb:=cE (b:=4294967296) (by decide) b
 have la:=fB (b:=4294967296) (by decide) a
 have lb:=fB (b:=4294967296) (by decide) b
 unfold bM
 generalize aC 4294967296 a=xs at *
 generalize aC 4294967296 b=ys at *
 have w0:IntKind.i64.wrap ((xs.length:Int)+(ys.length:Int))=((xs.length+ys.length:Nat):Int):=wrapN _ (by omega) (by omega)
 simp only[C8,A6,w0,Td (xs.length+ys.length) (by omega),VX,Nat.reduceEqDiff,Nat.reduceAdd]
 generalize hN:xs.length+ys.length=N at *
 refine aQ (fun(s:Nat×List Nat) ρ H=>s.1≤xs.length∧H=[.row 0 (s.2.map uV) 1 true]∧s.2.length=N∧(∀d∈s.2,d<4294967296)∧val 4294967296 (s.2.take (s.1+ys.length))=val 4294967296 (xs.take s.1)*b ∧
  ρ 0=AO xs∧ρ 1=AO ys∧ρ 5 = .ref 0 0 0 N N∧ρ 17=AO xs∧ρ 18=VI xs.length∧ρ 19=VI s.1) (fun s=>xs.length-s.1) (0,List.replicate N 0) ⟨Nat.zero_le _,rfl,by simp,zY (by decide) _,by simp[val,List.take_replicate,qI],rfl,rfl,rfl,rfl,rfl,rfl⟩ ?_
 rintro⟨i,outs⟩ ρ H ⟨hi,rfl,iO,kL,hv,g0,g1,g5,g17,g18,g19⟩
 simp only at hi iO kL hv g19
 by_cases cP:(i:Int)<(xs.length:Int)
 ·obtain⟨x,hx⟩:∃x,xs[i]? = some x:=⟨_,List.getElem?_eq_getElem (by omega)⟩
  have lx:=la x (List.mem_of_getElem? hx)
  have e1:=aI (f:=uV) (t := .op) (H:=[.row 0 (outs.map uV) 1 true]) (size:=1) (k := .i64) hx rfl
  simp only[rU,g0,g1,g5,g17,g18,g19,cP,e1,VX,Nat.reduceEqDiff,Nat.reduceAdd]
  refine aQ (fun(s:Nat×List Nat×Nat) ρ H=>s.1≤ys.length∧H=[.row 0 (s.2.1.map uV) 1 true]∧s.2.1.length=N∧(∀d∈s.2.1,d<4294967296)∧s.2.2<4294967296 ∧
   val 4294967296 (s.2.1.take (i+s.1))+4294967296^(i+s.1)*s.2.2=val 4294967296 (outs.take (i+s.1))+4294967296^i*(x*val 4294967296 (ys.take s.1))∧(∀j,i+s.1≤j→s.2.1[j]? = outs[j]?) ∧
   ρ 0=AO xs∧ρ 1=AO ys∧ρ 5 = .ref 0 0 0 N N∧ρ 6=VI i∧ρ 7=uV x∧ρ 8=VK .u64 s.2.2∧ρ 17=AO xs∧ρ 18=VI xs.length∧ρ 19=VI i∧ρ 24=AO ys∧ρ 25=VI ys.length∧ρ 26=VI s.1) (fun s=>ys.length-s.1) (0,outs,0) ⟨Nat.zero_le _,rfl,iO,kL,by simp,by simp[val],fun _ _=>rfl,by (repeat' apply And.intro)<;>first | rfl | trivial⟩ ?_
  rintro⟨k,os,c⟩ Ns H ⟨hk,rfl,OO,PH,hc,MW,Fz,k0,k1,k5,k6,k7,k8,Ik,Yp,k19,k24,k25,k26⟩
  simp only at hk OO PH hc MW Fz k8 k26
  have wi:IntKind.i64.wrap ((i:Int)+1)=((i+1:Nat):Int):=wrapN (i+1) (by omega) (by omega)
  by_cases SF:(k:Int)<(ys.length:Int)
  ·obtain⟨y,hy⟩:∃y,ys[k]? = some y:=⟨_,List.getElem?_eq_getElem (by omega)⟩
   have ly:=lb y (List.mem_of_getElem? hy)
   obtain⟨o,ho⟩:∃o,os[i+k]? = some o:=⟨_,List.getElem?_eq_getElem (by omega)⟩
   have lo:=PH o (List.mem_of_getElem? ho)
   have ho':outs[i+k]? = some o:=by rw[←Fz (i+k) (Nat.le_refl _)];exact ho
   have f1:=aI (f:=uV) (t := .op) (H:=[.row 0 (os.map uV) 1 true]) (size:=1) (k := .i64) hy rfl
   have w1:IntKind.i64.wrap ((i:Int)+(k:Int))=((i+k:Nat):Int):=wrapN _ (by omega) (by omega)
   have f2:bH 1 (.ref 0 0 0 N N) (VI ((i+k:Nat):Int)) [.row 0 (os.map uV) 1 true]=some (.ptr 0 0 (i+k) 0):=by rw[aY iP (by omega),Nat.zero_add]
   have f3:cI false 1 (.ptr 0 0 (i+k) 0) [.row 0 (os.map uV) 1 true]=some (uV o):=hJ iP ho
   have f4:∀s:Nat,bX 0 1 (.ptr 0 0 (i+k) 0) (uV s) [.row 0 (os.map uV) 1 true]=some [.row 0 ((os.set (i+k) s).map uV) 1 true]:=fun s=>OM (by omega)
   have Ag:x*y≤4294967295*4294967295:=Nat.mul_le_mul (by omega) (by omega)
   have w2:IntKind.u64.wrap (x:Int)=(x:Int):=dT _ (by omega)
   have w3:IntKind.u64.wrap (y:Int)=(y:Int):=dT _ (by omega)
   have w4:IntKind.u64.wrap (o:Int)=(o:Int):=dT _ (by omega)
   have w5:IntKind.u64.wrap ((x:Int)*(y:Int))=((x*y:Nat):Int):=by rw[←Int.natCast_mul];exact dT _ (by omega)
   have w6:IntKind.u64.wrap (((x*y:Nat):Int)+(o:Int))=((x*y+o:Nat):Int):=by rw[←Int.natCast_add];exact dT _ (by omega)
   have w7:IntKind.u64.wrap ((c:Int)+((x*y+o:Nat):Int))=((c+(x*y+o):Nat):Int):=by rw[←Int.natCast_add];exact dT _ (by omega)
   have wk:IntKind.i64.wrap ((k:Int)+1)=((k+1:Nat):Int):=wrapN (k+1) (by omega) (by omega)
   simp only[sA,k0,k1,k5,k6,k7,k8,Ik,Yp,k19,k24,k25,k26,SF,f1,f2,f3,f4,w1,w2,w3,w4,w5,w6,w7,wk,wrap32,nC,VX,Nat.reduceEqDiff,Nat.reduceAdd]
   have hq:(c+(x*y+o)) / 4294967296<4294967296:=Nat.div_lt_of_lt_mul (by omega)
   refine⟨(k+1,os.set (i+k) ((c+(x*y+o)) % 4294967296),(c+(x*y+o)) / 4294967296),by simp only;omega,by omega,rfl,by rw[List.length_set];exact OO,lA PH (Nat.mod_lt _ (by decide)),hq,?_,fun j hj => ?_,by (repeat' apply And.intro)<;>first | rfl | trivial⟩
   ·have h1:=Nat.mod_add_div (c+(x*y+o)) 4294967296
    rw[←Nat.add_assoc,eE (by omega),aV ho',aV hy,Nat.pow_succ]
    rw[Nat.pow_add] at MW ⊢
    exact Sr MW h1
   ·rw[List.getElem?_set_ne (by omega)]
    exact Fz j (by omega)
  ·have hke:k=ys.length:=by omega
   subst hke
   rw[List.take_length,vb,hv] at MW
   have w1:IntKind.i64.wrap ((i:Int)+(ys.length:Int))=((i+ys.length:Nat):Int):=wrapN _ (by omega) (by omega)
   have f2:bH 1 (.ref 0 0 0 N N) (VI ((i+ys.length:Nat):Int)) [.row 0 (os.map uV) 1 true]=some (.ptr 0 0 (i+ys.length) 0):=by rw[aY iP (by omega),Nat.zero_add]
   have f4:∀s:Nat,bX 0 1 (.ptr 0 0 (i+ys.length) 0) (uV s) [.row 0 (os.map uV) 1 true]=some [.row 0 ((os.set (i+ys.length) s).map uV) 1 true]:=fun s=>OM (by omega)
   simp only[sA,k0,k1,k5,k6,k7,k8,Ik,Yp,k19,k24,k25,k26,SF,f2,f4,w1,wi,wrap32,VX,Nat.reduceEqDiff,Nat.reduceAdd]
   refine⟨(i+1,os.set (i+ys.length) (c % 4294967296)),by simp only;omega,by omega,rfl,by rw[List.length_set];exact OO,lA PH (Nat.mod_lt _ (by decide)),?_,by (repeat' apply And.intro)<;>first | rfl | trivial⟩
   rw[show i+1+ys.length=i+ys.length+1 by omega,eE (by omega),Nat.mod_eq_of_lt hc,MW,aV hx,Nat.add_mul,Nat.mul_assoc]
 ·have nS:i=xs.length:=by omega
  subst nS
  rw[hN,List.take_length,va,List.take_of_length_le (by omega)] at hv
  simp only[rU,g0,g1,g5,g17,g18,g19,cP,VX,Nat.reduceEqDiff,Nat.reduceAdd]
  refine qT (m:=a*b) iP (by omega) (Nat.le_refl _) (by omega) (fun d hd=>kL d (List.mem_of_mem_take hd)) (by rw[List.take_of_length_le (by omega)];exact hv) fun k hk he => ?_
  simp only[VX,Nat.reduceEqDiff,Nat.reduceAdd]
  exact OD iP (by omega) hk he
end Go.PM
namespace Go.PM
theorem set_drop {xs:List Nat} {i d:Nat} (h:i<xs.length):(xs.set i d).drop i=d::xs.drop (i+1):=by
 rw[List.drop_eq_getElem_cons (by rw[List.length_set];exact h),List.getElem_set_self,My h]
theorem Vu (n k:Nat) (hn:n≤70368744177664) {H:aA}:AB [.int .u32 0] 4 (VI (n:Int)) (VI (n:Int)) H=some (.ref H.length 0 0 n n,H++[.row 0 ((List.replicate n 0).map uV) 1 true]):=qV (f:=uV) (x:=0) rfl (by omega) (by omega)
theorem Rl {A q t r x d W:Nat} (h1:t+d*q=r*W+x):(q+W*A)*d+t=x+W*(A*d+r):=by grind
theorem TT {A B P S W c m x q:Nat} (hv:A+P*c=B*S) (h1:m*S+W*q=x*S):A+P*(c+m*S)+P*W*q=(B+P*x)*S:=by
 have h2:P*(m*S+W*q)=P*(x*S):=by rw[h1]
 grind
theorem vF (a d:Nat) (C4:0<d) (hdW:d<4294967296) (ha:(aC 4294967296 a).length≤17592186044416):TC 197 [bM a,uV d] (.eY [bM (a / d),uV (a % d)]):=by
 refine TC.walk ⟨true,false⟩ Cm rfl (Nat.le_of_ble_eq_true rfl) (by simp[aL,bO,aN,kE]) (by simp[gZ,qZ,pT,kE]) ?_
 have va:=cE (b:=4294967296) (by decide) a
 have la:=fB (b:=4294967296) (by decide) a
 unfold bM
 generalize aC 4294967296 a=xs at *
 have w0:IntKind.i64.wrap ((xs.length:Int)-1)=(xs.length:Int)-1:=wrap64 (by omega) (by omega)
 have wd:IntKind.u64.wrap (d:Int)=(d:Int):=dT _ (by omega)
 simp only[vG,sR,w0,Td xs.length (by omega),VX,Nat.reduceEqDiff,Nat.reduceAdd]
 refine aQ (fun(s:Nat×List Nat×Nat) ρ H=>s.1≤xs.length∧H=[.row 0 (s.2.1.map uV) 1 true]∧s.2.1.length=xs.length∧(∀d∈s.2.1,d<4294967296)∧s.2.2<d∧val 4294967296 (s.2.1.drop s.1)*d+s.2.2=val 4294967296 (xs.drop s.1) ∧
  ρ 0=AO xs∧ρ 1=uV d∧ρ 6 = .ref 0 0 0 xs.length xs.length∧ρ 7=VK .u64 s.2.2∧ρ 8=VI ((s.1:Int)-1)) (fun s=>s.1) (xs.length,List.replicate xs.length 0,0) ⟨Nat.le_refl _,rfl,by simp,zY (by decide) _,C4,by simp[val,List.drop_replicate],rfl,rfl,rfl,rfl,rfl⟩ ?_
 rintro⟨j,outs,r⟩ ρ H ⟨hj,rfl,iO,kL,hr,hv,g0,g1,g6,g7,g8⟩
 simp only at hj iO kL hr hv g7 g8
 by_cases hz:(0:Int)≤(j:Int)-1
 ·obtain⟨i,rfl⟩:∃i,j=i+1:=⟨j-1,by omega⟩
  obtain⟨x,hx⟩:∃x,xs[i]? = some x:=⟨_,List.getElem?_eq_getElem (by omega)⟩
  have lx:=la x (List.mem_of_getElem? hx)
  have Ec:((i+1:Nat):Int)-1=(i:Int):=by omega
  rw[Ec] at g8 hz
  have e1:=aI (f:=uV) (t := .op) (H:=[.row 0 (outs.map uV) 1 true]) (size:=1) (k := .i64) hx rfl
  have e3:bH 1 (.ref 0 0 0 xs.length xs.length) (VI i) [.row 0 (outs.map uV) 1 true]=some (.ptr 0 0 i 0):=by rw[aY iP (by omega),Nat.zero_add]
  have e4:∀s:Nat,bX 0 1 (.ptr 0 0 i 0) (uV s) [.row 0 (outs.map uV) 1 true]=some [.row 0 ((outs.set i s).map uV) 1 true]:=fun s=>OM (by omega)
  have w2:IntKind.i64.wrap ((i:Int)-1)=(i:Int)-1:=wrap64 (by omega) (by omega)
  have w3:IntKind.u64.wrap (x:Int)=(x:Int):=dT _ (by omega)
  have w4:IntKind.u64.wrap (((r*4294967296:Nat):Int)+(x:Int))=((r*4294967296+x:Nat):Int):=by rw[←Int.natCast_add];exact dT _ (by omega)
  have w5:=DO r .u64 (by omega)
  have q1:=Vv (r*4294967296+x) d (by omega) C4
  have q2:=Pz (r*4294967296+x) d C4
  have hq:(r*4294967296+x) / d<4294967296:=by
   rw[Nat.div_lt_iff_lt_mul C4]
   have:(r+1)*4294967296≤d*4294967296:=Nat.mul_le_mul_right _ hr
   rw[Nat.mul_comm 4294967296 d]
   omega
  simp only[lO,g0,g1,g6,g7,g8,hz,e1,e3,e4,w2,w3,w4,w5,wd,q1,q2,wrap32,Nat.mod_eq_of_lt hq,VX,Nat.reduceEqDiff,Nat.reduceAdd]
  refine⟨(i,outs.set i ((r*4294967296+x) / d),(r*4294967296+x) % d),by simp only;omega,by omega,rfl,by rw[List.length_set];exact iO,lA kL hq,Nat.mod_lt _ C4,?_,by (repeat' apply And.intro)<;>first | rfl | trivial⟩
  have h1:=Nat.mod_add_div (r*4294967296+x) d
  rw[set_drop (by omega),sE,sL hx,←hv]
  exact Rl h1
 ·have T5:j=0:=by omega
  subst T5
  rw[List.drop_zero,List.drop_zero,va] at hv
  have h1:a / d=val 4294967296 outs:=by
   rw[←hv,Nat.mul_comm,Nat.mul_add_div C4,Nat.div_eq_of_lt hr,Nat.add_zero]
  have h2:a % d=r:=by
   rw[←hv,Nat.mul_comm,Nat.mul_add_mod,Nat.mod_eq_of_lt hr]
  simp only[lO,g0,g1,g6,g7,g8,hz,VX,Nat.reduceEqDiff,Nat.reduceAdd]
  refine qT (m:=a / d) iP (by omega) (Nat.le_refl _) (by omega) (fun d hd=>kL d (List.mem_of_mem_take hd)) (by rw[List.take_of_length_le (by omega)];exact h1.symm) fun k hk he => ?_
  simp only[wrap32,Nat.mod_eq_of_lt (show r<4294967296 by omega),g7,VX,Nat.reduceEqDiff,Nat.reduceAdd]
  rw[h2]
  exact bN (d:=6) (J0 (d:=5) iP (by omega) hk he) (aJ rfl)
theorem Ge {n g e:Nat} {es:List VV} {w:Bool}:aH (List.replicate n bT.dead++[.row g es e w]) n g=some (es,e,w):=by rw[BD];exact aS
theorem avZ {n:Nat} (xs:List Nat):nP n (xs.map uV)=true:=by
 rw[Dg]
 intro x hx
 obtain⟨y,_,rfl⟩:=List.mem_map.1 hx
 rfl
theorem xX (a s:Nat) (hs:s≤31) (ha:(aC 4294967296 a).length≤17592186044416):FC 199 [bM a,VI s] fun n r L=>∃outs:List Nat,r = .ref n 0 0 ((aC 4294967296 a).length+1) ((aC 4294967296 a).length+1)∧L=[.row 0 (outs.map uV) 1 true]∧outs.length=(aC 4294967296 a).length+1∧(∀d∈outs,d<4294967296)∧val 4294967296 outs=a*2^s∧(∀d,outs[(aC 4294967296 a).length]? = some d→d<2^s):=by
 refine FC.walk ⟨true,false⟩ CQ (Nat.le_of_ble_eq_true rfl) fun n => ?_
 have va:=cE (b:=4294967296) (by decide) a
 have la:=fB (b:=4294967296) (by decide) a
 unfold bM
 generalize aC 4294967296 a=xs at *
 have hS:0<2^s:=Nat.pow_pos (by decide)
 have hSW:2^s*2^(32-s)=4294967296:=by rw[←Nat.pow_add,show s+(32-s)=32 by omega]
 have w0:IntKind.i64.wrap ((xs.length:Int)+1)=((xs.length+1:Nat):Int):=wrapN _ (by omega) (by omega)
 simp only[xC,uB,w0,Vu (xs.length+1) n (by omega),List.length_replicate,VX,Nat.reduceEqDiff,Nat.reduceAdd]
 refine aQ (fun(t:Nat×List Nat×Nat) ρ H=>t.1≤xs.length∧H=List.replicate n .dead++[.row 0 (t.2.1.map uV) 1 true]∧t.2.1.length=xs.length+1∧(∀d∈t.2.1,d<4294967296)∧t.2.1[t.1]? = some t.2.2∧t.2.2<2^s∧val 4294967296 (t.2.1.take t.1)+4294967296^t.1*t.2.2=val 4294967296 (xs.take t.1)*2^s ∧
  ρ 1=VI s∧ρ 5 = .ref n 0 0 (xs.length+1) (xs.length+1)∧ρ 13=AO xs∧ρ 14=VI xs.length∧ρ 15=VI t.1) (fun t=>xs.length-t.1) (0,List.replicate (xs.length+1) 0,0) ⟨Nat.zero_le _,rfl,by simp,zY (by decide) _,by simp,hS,by simp[val],rfl,rfl,rfl,rfl,rfl⟩ ?_
 rintro⟨i,outs,c⟩ ρ H ⟨hi,rfl,iO,kL,hoc,hc,hv,g1,g5,g13,g14,g15⟩
 simp only at hi iO kL hoc hc hv g15
 by_cases cP:(i:Int)<(xs.length:Int)
 ·obtain⟨x,hx⟩:∃x,xs[i]? = some x:=⟨_,List.getElem?_eq_getElem (by omega)⟩
  have lx:=la x (List.mem_of_getElem? hx)
  have e1:=aI (f:=uV) (t := .op) (H:=List.replicate n .dead++[.row 0 (outs.map uV) 1 true]) (size:=1) (k := .i64) hx rfl
  have wx:IntKind.u64.wrap (x:Int)=(x:Int):=dT _ (by omega)
  have wi:IntKind.i64.wrap ((i:Int)+1)=((i+1:Nat):Int):=wrapN (i+1) (by omega) (by omega)
  have w5:=ajI x s lx hs
  obtain⟨m,hm⟩:∃m,(x*2^s) % 4294967296=m*2^s:=by
   refine⟨x % 2^(32-s),?_⟩
   rw[←hSW,Nat.mul_comm x,Nat.mul_mod_mul_left,Nat.mul_comm]
  have hhi:(x*2^s) / 4294967296<2^s:=by
   rw[Nat.div_lt_iff_lt_mul (by decide),Nat.mul_comm (2^s)]
   exact Nat.mul_lt_mul_of_pos_right lx hS
  have bA:(x*2^s) % 4294967296<4294967296:=Nat.mod_lt _ (by decide)
  have hmm:m<2^(32-s):=by
   have:m*2^s<2^(32-s)*2^s:=by rw[←hm,Nat.mul_comm (2^(32-s)) (2^s),hSW];exact bA
   exact Nat.lt_of_mul_lt_mul_right this
  have akV:m*2^s+c<4294967296:=by
   have:(m+1)*2^s≤2^(32-s)*2^s:=Nat.mul_le_mul_right _ hmm
   rw[Nat.mul_comm (2^(32-s)),hSW,Nat.add_mul] at this
   omega
  have or1:=ajU c m s hc akV
  have e3:bH 1 (.ref n 0 0 (xs.length+1) (xs.length+1)) (VI i) (List.replicate n .dead++[.row 0 (outs.map uV) 1 true])=some (.ptr n 0 i 0):=by rw[aY Ge (by omega),Nat.zero_add]
  have e4:cI false 1 (.ptr n 0 i 0) (List.replicate n .dead++[.row 0 (outs.map uV) 1 true])=some (uV c):=hJ Ge hoc
  have e5:∀(os:List Nat) (j t:Nat),j<os.length→bX n 1 (.ptr n 0 j 0) (uV t) (List.replicate n .dead++[.row 0 (os.map uV) 1 true])=some (List.replicate n .dead++[.row 0 ((os.set j t).map uV) 1 true]):=fun os j t hj=>by
   rw[fF (f:=uV) (e:=1) Ge hj (Nat.le_refl _) rfl rfl,Bt]
   rfl
  have e6:bH 1 (.ref n 0 0 (xs.length+1) (xs.length+1)) (VI ((i+1:Nat):Int)) (List.replicate n .dead++[.row 0 ((outs.set i (c+m*2^s)).map uV) 1 true])=some (.ptr n 0 (i+1) 0):=by rw[aY Ge (by omega),Nat.zero_add]
  have e7:=e5 outs i (c+m*2^s) (by omega)
  have e8:=e5 (outs.set i (c+m*2^s)) (i+1) ((x*2^s) / 4294967296) (by rw[List.length_set];omega)
  have hq:(x*2^s) / 4294967296 % 4294967296=(x*2^s) / 4294967296:=Nat.mod_eq_of_lt (by
   have:2^s≤2^31:=Nat.pow_le_pow_right (by decide) hs
   omega)
  simp only[mY,g1,g5,g13,g14,g15,cP,e1,e3,e4,e6,e7,e8,wx,wi,w5,wrap32,nC,hm,or1,hq,VX,Nat.reduceEqDiff,Nat.reduceAdd]
  refine⟨(i+1,(outs.set i (c+m*2^s)).set (i+1) ((x*2^s) / 4294967296),(x*2^s) / 4294967296),by simp only;omega,by omega,rfl,by rw[List.length_set,List.length_set];exact iO,
   lA (lA kL (by omega)) (by
    have:2^s≤2^31:=Nat.pow_le_pow_right (by decide) hs
    omega),by rw[List.getElem?_set_self (by rw[List.length_set];omega)],hhi,?_,by (repeat' apply And.intro)<;>first | rfl | trivial⟩
  rw[List.take_set_of_le (Nat.le_refl _),eE (by omega),aV hx,Nat.pow_succ]
  have h1:=Nat.mod_add_div (x*2^s) 4294967296
  rw[hm] at h1
  exact TT hv h1
 ·have nS:i=xs.length:=by omega
  subst nS
  rw[List.take_length,va] at hv
  have D7:val 4294967296 outs=a*2^s:=by
   have h1:=aV (b:=4294967296) hoc
   rw[List.take_of_length_le (by omega)] at h1
   rw[h1]
   exact hv
  simp only[mY,g1,g5,g13,g14,g15,cP,VX,Nat.reduceEqDiff,Nat.reduceAdd]
  exact⟨_,rfl,by simp[eT],by simp[dL,avZ outs],outs,rfl,iO,kL,D7,fun d hd=>by rw[hoc] at hd;injection hd with hd;omega⟩
end Go.PM
namespace Go.PM
theorem Ps (n:Nat) (hn:n≤35184372088832):AB [.int .i64 0] 8 (VI (n:Int)) (VI (n:Int)) []=some (.ref 0 0 0 n n,[.row 0 ((List.replicate n 0).map tV) 1 true]):=qV (f:=tV) (x:=0) rfl (by omega) (by omega)
theorem O3 {outs:List Nat} {i d:Nat} (hi:i<outs.length):bX 0 1 (.ptr 0 0 i 0) (VI (d:Int)) [.row 0 (outs.map tV) 1 true]=some [.row 0 ((outs.set i d).map tV) 1 true]:=by
 rw[show VI (d:Int)=tV d from rfl,fF (f:=tV) (e:=1) JN hi (Nat.le_refl _) rfl rfl]
 rfl
theorem L4 {b g:Nat} {rows:List Nat} {w:Bool} {H:aA} {j d:Nat} (hr:aH H b g=some (rows.map tV,1,w)) (hj:rows[j]? = some d):cI false 1 (.ptr b g j 0) H=some (VI (d:Int)):=oP hr hj
theorem adT {n i:Nat} {outs:List Nat} (h:i<n):bH 1 (.ref 0 0 0 n n) (VI (i:Int)) [.row 0 (outs.map tV) 1 true]=some (.ptr 0 0 i 0):=by rw[aY JN h,Nat.zero_add]
theorem wr {x:Int} (n:Nat) (h:x=n) (hn:n≤9223372036854775807):IntKind.i64.wrap x=(n:Int):=wrapN n h hn
theorem zH (a b:Nat) (HC:b≤a) (ha:(aC 1000000000 a).length≤17592186044416):TC 156 [bS a,bS b] (bS (a-b)):=by
 refine TC.walk ⟨true,false⟩ FH rfl (Nat.le_of_ble_eq_true rfl) (by simp[aL,cA]) (mM _) ?_
 have hle:=dU (b:=1000000000) (by decide) HC
 simp only[B2,zO,Kb,cZ,VX,Nat.reduceEqDiff,Nat.reduceAdd]
 refine aQ (fun(s:Nat×List Nat×Nat) ρ H=>s.1=s.2.1.length∧s.1≤(aC 1000000000 a).length∧H=[.row s.2.1.length (s.2.1.map tV) 1 true]∧(∀d∈s.2.1,d<1000000000)∧s.2.2≤1∧val 1000000000 ((aC 1000000000 a).take s.1)+1000000000^s.1*s.2.2=val 1000000000 s.2.1+val 1000000000 ((aC 1000000000 b).take s.1) ∧
  ρ 0=bS a∧ρ 1=bS b∧ρ 5 = .ref 0 s.2.1.length 0 s.2.1.length s.2.1.length∧ρ 6=VI s.2.2∧ρ 11=VI (aC 1000000000 a).length∧ρ 12=VI s.1) (fun s=>(aC 1000000000 a).length-s.1) (0,[],0) ⟨rfl,Nat.zero_le _,rfl,by simp,by simp,by simp[val],rfl,rfl,rfl,rfl,rfl,rfl⟩ ?_
 rintro⟨i,outs,l⟩ ρ H ⟨hi,JT,rfl,kL,hc,hv,g0,g1,g5,g6,g11,g12⟩
 simp only at hi JT kL hc hv g5 g6 g12
 by_cases cP:(i:Int)<((aC 1000000000 a).length:Int)
 ·have hx:=J6 (b:=1000000000) (by decide) (n:=a) (i:=i) (by omega)
  have e1:bH 1 (bS a) (VI i) [.row outs.length (outs.map tV) 1 true]=some (.cV (tV (a / 1000000000^i % 1000000000)) 0):=aI (f:=tV) (t := .op) (size:=1) (k := .i64) hx rfl
  have c2:=Dn b i
  have t1:=Ep (b:=1000000000) (aC 1000000000 a) i
  have t2:=Ep (b:=1000000000) (aC 1000000000 b) i
  rw[GX (by decide)] at t1 t2
  have lx:=Nat.mod_lt (a / 1000000000^i) (show 0<1000000000 by decide)
  have ly:=Nat.mod_lt (b / 1000000000^i) (show 0<1000000000 by decide)
  generalize a / 1000000000^i % 1000000000=x at *
  generalize b / 1000000000^i % 1000000000=y at *
  have wi:IntKind.i64.wrap ((i:Int)+1)=((i+1:Nat):Int):=wrapN (i+1) (by omega) (by omega)
  have w1:IntKind.i64.wrap ((x:Int)-(y:Int))=(x:Int)-(y:Int):=wrap64 (by omega) (by omega)
  have w2:IntKind.i64.wrap ((x:Int)-(y:Int)-(l:Int))=(x:Int)-(y:Int)-(l:Int):=wrap64 (by omega) (by omega)
  have step:∀r l':Nat,r<1000000000→l'≤1→r+y+l=x+1000000000*l'→(∀d∈outs++[r],d<1000000000)∧val 1000000000 ((aC 1000000000 a).take (i+1))+1000000000^(i+1)*l'=val 1000000000 (outs++[r])+val 1000000000 ((aC 1000000000 b).take (i+1)):=by
   intro r l' hr _ hd
   refine⟨fun d h => ?_,?_⟩
   ·rcases List.mem_append.1 h with h | h
    ·exact kL d h
    ·rw[List.mem_singleton.1 h];exact hr
   ·rw[t1,t2,rN,←hi,Nat.pow_succ]
    exact I2 hv hd
  by_cases lU:(x:Int)-(y:Int)-(l:Int)<0
  ·obtain⟨r,hr⟩:∃r:Nat,r+y+l=x+1000000000:=⟨x+1000000000-l-y,by omega⟩
   have w3:IntKind.i64.wrap ((x:Int)-(y:Int)-(l:Int)+1000000000)=(r:Int):=wrapN r (by omega) (by omega)
   obtain⟨s1,s2⟩:=step r 1 (by omega) (Nat.le_refl _) (by omega)
   have a1:=adZ (ds:=outs) (d:=r) (by omega)
   simp only[lT,g0,g1,g5,g6,g11,g12,cP,e1,c2,w1,w2,w3,wi,lU,sF,uJ,a1,VX,Nat.reduceEqDiff,Nat.reduceAdd]
   refine⟨(i+1,outs++[r],1),by simp only;omega,by simp;omega,by simp only;omega,by simp,s1,Nat.le_refl _,s2,?_⟩
   simp only[List.length_append,List.length_singleton]
   try (repeat' apply And.intro)<;>first | rfl | trivial
  ·obtain⟨r,hr⟩:∃r:Nat,r+y+l=x:=⟨x-l-y,by omega⟩
   obtain⟨s1,s2⟩:=step r 0 (by omega) (by omega) (by omega)
   have er:(x:Int)-(y:Int)-(l:Int)=(r:Int):=by omega
   have a1:=adZ (ds:=outs) (d:=r) (by omega)
   have w3:IntKind.i64.wrap ((x:Int)-(y:Int)-(l:Int))=(r:Int):=wrapN r er (by omega)
   have sN:¬(r:Int)<0:=by omega
   simp only[lT,g0,g1,g5,g6,g11,g12,cP,e1,c2,w1,w3,wi,sN,sF,uJ,a1,VX,Nat.reduceEqDiff,Nat.reduceAdd]
   refine⟨(i+1,outs++[r],0),by simp only;omega,by simp;omega,by simp only;omega,by simp,s1,Nat.zero_le _,s2,?_⟩
   simp only[List.length_append,List.length_singleton]
   try (repeat' apply And.intro)<;>first | rfl | trivial
 ·have nS:i=(aC 1000000000 a).length:=by omega
  rw[nS,List.take_length,List.take_of_length_le (l:=aC 1000000000 b) hle,cE (by decide),cE (by decide)] at hv
  have eQ:=oI kL
  rw[←hi,nS] at eQ
  have D7:val 1000000000 outs=a-b:=by
   rcases Nat.lt_or_ge l 1 with h | h
   ·have:l=0:=by omega
    subst this
    rw[Nat.mul_zero] at hv
    omega
   ·have:l=1:=by omega
    subst this
    rw[Nat.mul_one] at hv
    omega
  simp only[lT,g0,g1,g5,g6,g11,g12,cP,VX,Nat.reduceEqDiff,Nat.reduceAdd]
  refine Hx kL rfl (by omega) D7 ?_
  simp only[VX,Nat.reduceEqDiff,Nat.reduceAdd]
  exact R9 _
theorem kR (a b:Nat) (ha:(aC 1000000000 a).length≤17592186044416) (hb:(aC 1000000000 b).length≤17592186044416):TC 152 [bS a,bS b] (bS (a*b)):=by
 refine TC.walk ⟨true,false⟩ Hj rfl (Nat.le_of_ble_eq_true rfl) (by simp[aL,cA]) (mM _) ?_
 have va:=cE (b:=1000000000) (by decide) a
 have vb:=cE (b:=1000000000) (by decide) b
 have la:=fB (b:=1000000000) (by decide) a
 have lb:=fB (b:=1000000000) (by decide) b
 unfold bS
 generalize aC 1000000000 a=xs at *
 generalize aC 1000000000 b=ys at *
 have w0:IntKind.i64.wrap ((xs.length:Int)+(ys.length:Int))=((xs.length+ys.length:Nat):Int):=wrapN _ (by omega) (by omega)
 simp only[Dp,A5,dQ,w0,Ps (xs.length+ys.length) (by omega),VX,Nat.reduceEqDiff,Nat.reduceAdd]
 generalize hN:xs.length+ys.length=N at *
 refine aQ (fun(s:Nat×List Nat) ρ H=>s.1≤xs.length∧H=[.row 0 (s.2.map tV) 1 true]∧s.2.length=N∧(∀d∈s.2,d<1000000000)∧val 1000000000 (s.2.take (s.1+ys.length))=val 1000000000 (xs.take s.1)*b∧(∀j,s.1+ys.length≤j→j<N→s.2[j]? = some 0) ∧
  ρ 0=gR xs∧ρ 1=gR ys∧ρ 5 = .ref 0 0 0 N N∧ρ 17=VI xs.length∧ρ 18=VI s.1) (fun s=>xs.length-s.1) (0,List.replicate N 0) ⟨Nat.zero_le _,rfl,by simp,zY (by decide) _,by simp[val,List.take_replicate,qI],fun j _ h=>by simp[List.getElem?_replicate,h],rfl,rfl,rfl,rfl,rfl⟩ ?_
 rintro⟨i,outs⟩ ρ H ⟨hi,rfl,iO,kL,hv,hzr,g0,g1,g5,g17,g18⟩
 simp only at hi iO kL hv hzr g18
 by_cases cP:(i:Int)<(xs.length:Int)
 ·obtain⟨x,hx⟩:∃x,xs[i]? = some x:=⟨_,List.getElem?_eq_getElem (by omega)⟩
  have lx:=la x (List.mem_of_getElem? hx)
  have e1:∀os:List Nat,bH 1 (gR xs) (VI i) [.row 0 (os.map tV) 1 true]=some (.cV (tV x) 0):=fun os=>aI (f:=tV) (t := .op) (size:=1) (k := .i64) hx rfl
  simp only[sC,g0,g1,g5,g17,g18,cP,dQ,VX,Nat.reduceEqDiff,Nat.reduceAdd]
  refine aQ (fun(s:Nat×List Nat×Nat) ρ H=>s.1≤ys.length∧H=[.row 0 (s.2.1.map tV) 1 true]∧s.2.1.length=N∧(∀d∈s.2.1,d<1000000000)∧s.2.2<1000000000 ∧
   val 1000000000 (s.2.1.take (i+s.1))+1000000000^(i+s.1)*s.2.2=val 1000000000 (outs.take (i+s.1))+1000000000^i*(x*val 1000000000 (ys.take s.1))∧(∀j,i+s.1≤j→s.2.1[j]? = outs[j]?) ∧
   ρ 0=gR xs∧ρ 1=gR ys∧ρ 5 = .ref 0 0 0 N N∧ρ 6=VI i∧ρ 7=VI s.2.2∧ρ 17=VI xs.length∧ρ 18=VI i∧ρ 22=VI ys.length∧ρ 23=VI s.1) (fun s=>ys.length-s.1) (0,outs,0) ⟨Nat.zero_le _,rfl,iO,kL,by simp,by simp[val],fun _ _=>rfl,by (repeat' apply And.intro)<;>first | rfl | trivial⟩ ?_
  rintro⟨k,os,c⟩ Ns H ⟨hk,rfl,OO,PH,hc,MW,Fz,k0,k1,k5,k6,k7,Ik,Yp,k22,k23⟩
  simp only at hk OO PH hc MW Fz k7 k23
  have wi:IntKind.i64.wrap ((i:Int)+1)=((i+1:Nat):Int):=wrapN (i+1) (by omega) (by omega)
  by_cases SF:(k:Int)<(ys.length:Int)
  ·obtain⟨y,hy⟩:∃y,ys[k]? = some y:=⟨_,List.getElem?_eq_getElem (by omega)⟩
   have ly:=lb y (List.mem_of_getElem? hy)
   obtain⟨o,ho⟩:∃o,os[i+k]? = some o:=⟨_,List.getElem?_eq_getElem (by omega)⟩
   have lo:=PH o (List.mem_of_getElem? ho)
   have ho':outs[i+k]? = some o:=by rw[←Fz (i+k) (Nat.le_refl _)];exact ho
   have f1:bH 1 (gR ys) (VI k) [.row 0 (os.map tV) 1 true]=some (.cV (tV y) 0):=aI (f:=tV) (t := .op) (size:=1) (k := .i64) hy rfl
   have w1:IntKind.i64.wrap ((i:Int)+(k:Int))=((i+k:Nat):Int):=wrapN _ (by omega) (by omega)
   have f2:bH 1 (.ref 0 0 0 N N) (VI ((i+k:Nat):Int)) [.row 0 (os.map tV) 1 true]=some (.ptr 0 0 (i+k) 0):=adT (by omega)
   have f3:cI false 1 (.ptr 0 0 (i+k) 0) [.row 0 (os.map tV) 1 true]=some (VI (o:Int)):=L4 JN ho
   have f4:∀s:Nat,bX 0 1 (.ptr 0 0 (i+k) 0) (VI (s:Int)) [.row 0 (os.map tV) 1 true]=some [.row 0 ((os.set (i+k) s).map tV) 1 true]:=fun s=>O3 (by omega)
   have Ag:x*y≤999999999*999999999:=Nat.mul_le_mul (by omega) (by omega)
   have w5:IntKind.i64.wrap ((x:Int)*(y:Int))=((x*y:Nat):Int):=wrapN _ (by simp) (by omega)
   have w6:IntKind.i64.wrap ((o:Int)+((x*y:Nat):Int))=((o+x*y:Nat):Int):=wrapN _ (by omega) (by omega)
   have w7:IntKind.i64.wrap (((o+x*y:Nat):Int)+(c:Int))=((o+x*y+c:Nat):Int):=wrapN _ (by omega) (by omega)
   have wk:IntKind.i64.wrap ((k:Int)+1)=((k+1:Nat):Int):=wrapN (k+1) (by omega) (by omega)
   have r1:=Ou (o+x*y+c)
   have q1:=NO (o+x*y+c) (by omega)
   simp only[rG,k0,k1,k5,k6,k7,Ik,Yp,k22,k23,SF,e1,f1,f2,f3,f4,w1,w5,w6,w7,wk,r1,q1,VX,Nat.reduceEqDiff,Nat.reduceAdd]
   have hq:(o+x*y+c) / 1000000000<1000000000:=Nat.div_lt_of_lt_mul (by omega)
   refine⟨(k+1,os.set (i+k) ((o+x*y+c) % 1000000000),(o+x*y+c) / 1000000000),by simp only;omega,by omega,rfl,by rw[List.length_set];exact OO,lA PH (Nat.mod_lt _ (by decide)),hq,?_,fun j hj => ?_,by (repeat' apply And.intro)<;>first | rfl | trivial⟩
   ·have h1:=Nat.mod_add_div (o+x*y+c) 1000000000
    rw[show o+x*y+c=c+(x*y+o) by omega] at h1 ⊢
    rw[←Nat.add_assoc,eE (by omega),aV ho',aV hy,Nat.pow_succ]
    rw[Nat.pow_add] at MW ⊢
    exact Sr MW h1
   ·rw[List.getElem?_set_ne (by omega)]
    exact Fz j (by omega)
  ·have hke:k=ys.length:=by omega
   subst hke
   rw[List.take_length,vb,hv] at MW
   have w1:IntKind.i64.wrap ((i:Int)+(ys.length:Int))=((i+ys.length:Nat):Int):=wrapN _ (by omega) (by omega)
   have D4:os[i+ys.length]? = some 0:=by rw[Fz _ (Nat.le_refl _)];exact hzr _ (Nat.le_refl _) (by omega)
   have f2:bH 1 (.ref 0 0 0 N N) (VI ((i+ys.length:Nat):Int)) [.row 0 (os.map tV) 1 true]=some (.ptr 0 0 (i+ys.length) 0):=adT (by omega)
   have f3:cI false 1 (.ptr 0 0 (i+ys.length) 0) [.row 0 (os.map tV) 1 true]=some (VI ((0:Nat):Int)):=L4 JN D4
   have f4:∀s:Nat,bX 0 1 (.ptr 0 0 (i+ys.length) 0) (VI (s:Int)) [.row 0 (os.map tV) 1 true]=some [.row 0 ((os.set (i+ys.length) s).map tV) 1 true]:=fun s=>O3 (by omega)
   have w2:IntKind.i64.wrap (((0:Nat):Int)+(c:Int))=(c:Int):=wrapN _ (by omega) (by omega)
   simp only[rG,k0,k1,k5,k6,k7,Ik,Yp,k22,k23,SF,dQ,f2,f3,f4,w1,w2,wi,VX,Nat.reduceEqDiff,Nat.reduceAdd]
   refine⟨(i+1,os.set (i+ys.length) c),by simp only;omega,by omega,rfl,by rw[List.length_set];exact OO,lA PH hc,?_,fun j hj Yv => ?_,by (repeat' apply And.intro)<;>first | rfl | trivial⟩
   ·rw[show i+1+ys.length=i+ys.length+1 by omega,eE (by omega),MW,aV hx,Nat.add_mul,Nat.mul_assoc]
   ·rw[List.getElem?_set_ne (by omega),Fz j (by omega)]
    exact hzr j (by omega) Yv
 ·have nS:i=xs.length:=by omega
  subst nS
  rw[hN,List.take_length,va,List.take_of_length_le (by omega)] at hv
  simp only[sC,g0,g1,g5,g17,g18,cP,VX,Nat.reduceEqDiff,Nat.reduceAdd]
  refine Hx (m:=a*b) kL iO.symm (by omega) hv ?_
  simp only[VX,Nat.reduceEqDiff,Nat.reduceAdd]
  exact R9 _
theorem BP (a:Nat) (ha:(aC 1000000000 a).length≤17592186044416):TC 201 [bS a] (if (aC 1000000000 a).length≤2 then .eY [VI a,VB true] else .eY [VI 0,VB false]):=by
 refine TC.walk ⟨true,false⟩ Jp rfl (Nat.le_of_ble_eq_true rfl) (by simp[aL,cA]) (by split<;>rfl) ?_
 by_cases h2:(aC 1000000000 a).length≤2
 ·rw[if_pos h2]
  have h3:¬(2:Int)<((aC 1000000000 a).length:Int):=by omega
  have c0:TC 186 [bS a,VI 0] (VI ((a % 1000000000:Nat):Int)):=by have:=Dn a 0;rwa [Nat.pow_zero,Nat.div_one] at this
  have c1:TC 186 [bS a,VI 1] (VI ((a / 1000000000 % 1000000000:Nat):Int)):=by have:=Dn a 1;rwa [Nat.pow_one] at this
  have bA:=gE (b:=1000000000) (by decide) a
  have hp:1000000000^(aC 1000000000 a).length≤1000000000^2:=Nat.pow_le_pow_right (by decide) h2
  have hm:a / 1000000000<1000000000:=Nat.div_lt_of_lt_mul (by omega)
  rw[Nat.mod_eq_of_lt hm] at c1
  have hmd:=Nat.mod_add_div a 1000000000
  have w1:IntKind.i64.wrap (1000000000*((a / 1000000000:Nat):Int))=((1000000000*(a / 1000000000):Nat):Int):=wrapN _ (by omega) (by omega)
  have w2:IntKind.i64.wrap (((a % 1000000000:Nat):Int)+((1000000000*(a / 1000000000):Nat):Int))=(a:Int):=wrapN _ (by omega) (by omega)
  simp only[Aa,uX,cZ,h3,c0,c1,w1,w2,VX,Nat.reduceEqDiff,Nat.reduceAdd]
  exact aF rfl
 ·rw[if_neg h2]
  have h3:(2:Int)<((aC 1000000000 a).length:Int):=by omega
  simp only[Aa,uX,cZ,h3,VX,Nat.reduceEqDiff,Nat.reduceAdd]
  exact aF rfl
theorem ZN {outs:List Nat} {n cap x:Nat} (hn:n=outs.length) (hc:n<cap):eO 0 1 8 (.ref 0 0 0 n cap) [VI (x:Int)] [.row 0 ((outs++List.replicate (cap-n) 0).map tV) 1 true]=some (.ref 0 0 0 (n+1) cap,[.row 0 (((outs++[x])++List.replicate (cap-(n+1)) 0).map tV) 1 true]):=by
 subst hn
 simp only[eO,aS,List.length_map,List.length_append,List.length_replicate,List.length_cons,List.length_nil,Nat.zero_add]
 rw[if_pos ⟨by decide,by decide⟩,if_pos ⟨trivial,Nat.le_refl _,by omega⟩,if_pos (by omega),if_neg (by omega),if_pos (by omega)]
 congr 3
 have e:List.replicate (cap-outs.length) 0=(0:Nat)::List.replicate (cap-(outs.length+1)) 0:=by
  rw[show cap-outs.length=(cap-(outs.length+1))+1 by omega,List.replicate_succ]
 simp only[cR,List.set_cons_zero,e,List.map_append,List.map_cons,List.length_cons,List.length_nil,List.map_nil]
 congr 1
 rw[List.take_left' (by simp),←List.drop_drop,List.drop_left' (by simp)]
 simp
theorem wX (a d:Nat) (C4:0<d) (hd:d<1000000000) (ha:(aC 1000000000 a).length<17592186044416):TC 203 [bS a,VI (d:Int)] (bS (a*d)):=by
 refine TC.walk ⟨true,false⟩ Fm rfl (Nat.le_of_ble_eq_true rfl) (by simp[aL,cA];rfl) (mM _) ?_
 have w0:IntKind.i64.wrap (((aC 1000000000 a).length:Int)+1)=(((aC 1000000000 a).length+1:Nat):Int):=wrapN _ (by omega) (by omega)
 have mk:AB [.int .i64 0] 8 (VI 0) (VI (((aC 1000000000 a).length+1:Nat):Int)) []=some (.ref 0 0 0 0 ((aC 1000000000 a).length+1),[.row 0 ((([]:List Nat)++List.replicate ((aC 1000000000 a).length+1-0) 0).map tV) 1 true]):=by
  simp only[AB]
  rw[if_pos ⟨by omega,by omega,by omega,by omega⟩]
  simp
  rfl
 simp only[A4,xP,cZ,w0,mk,VX,Nat.reduceEqDiff,Nat.reduceAdd]
 refine aQ (fun(s:Nat×List Nat×Nat) ρ H=>s.1=s.2.1.length∧s.1≤(aC 1000000000 a).length∧H=[.row 0 ((s.2.1++List.replicate ((aC 1000000000 a).length+1-s.1) 0).map tV) 1 true]∧s.2.2<d∧aC 1000000000 (a*d)=s.2.1++aC 1000000000 (a / 1000000000^s.1*d+s.2.2) ∧
  ρ 1=VI d∧ρ 5 = .ref 0 0 0 s.1 ((aC 1000000000 a).length+1)∧ρ 6=VI s.2.2∧ρ 14=bS a∧ρ 15=VI (aC 1000000000 a).length∧ρ 16=VI s.1) (fun s=>(aC 1000000000 a).length-s.1) (0,[],0) ⟨rfl,Nat.zero_le _,rfl,C4,by simp,rfl,rfl,rfl,rfl,rfl,rfl⟩ ?_
 rintro⟨i,outs,c⟩ ρ H ⟨hi,JT,rfl,hc,hv,g1,g5,g6,g14,g15,g16⟩
 simp only at hi JT hc hv g5 g6 g16
 by_cases cP:(i:Int)<((aC 1000000000 a).length:Int)
 ·have hx:=J6 (b:=1000000000) (by decide) (n:=a) (i:=i) (by omega)
  have hA:=(DP (b:=1000000000) (by decide) (n:=a) (i:=i)).1 (by omega)
  have e1:∀H,bH 1 (bS a) (VI i) H=some (.cV (tV (a / 1000000000^i % 1000000000)) 0):=fun H=>aI (f:=tV) (t := .op) (size:=1) (k := .i64) hx rfl
  have lx:=Nat.mod_lt (a / 1000000000^i) (show 0<1000000000 by decide)
  have fC:a / 1000000000^i*d+c≠0:=by
   have:=Nat.mul_ne_zero hA (show d≠0 by omega)
   omega
  rw[Xx (by decide) fC,←sK] at hv
  generalize a / 1000000000^i % 1000000000=x at *
  have hxd:x*d≤999999999*999999999:=Nat.mul_le_mul (by omega) (by omega)
  have w1:IntKind.i64.wrap ((x:Int)*(d:Int))=((x*d:Nat):Int):=wrapN _ (by simp) (by omega)
  have w2:IntKind.i64.wrap (((x*d:Nat):Int)+(c:Int))=((x*d+c:Nat):Int):=wrapN _ (by omega) (by omega)
  have wi:IntKind.i64.wrap ((i:Int)+1)=((i+1:Nat):Int):=wrapN (i+1) (by omega) (by omega)
  have r1:=Ou (x*d+c)
  have q1:=NO (x*d+c) (by omega)
  have a1:=ZN (outs:=outs) (n:=i) (cap:=(aC 1000000000 a).length+1) (x:=(x*d+c) % 1000000000) hi (by omega)
  have hq:(x*d+c) / 1000000000<d:=by
   rw[Nat.div_lt_iff_lt_mul (by decide)]
   have h1:x*d≤999999999*d:=Nat.mul_le_mul_right _ (by omega)
   omega
  simp only[kM,g1,g5,g6,g14,g15,g16,cP,e1,w1,w2,wi,r1,q1,sF,uJ,a1,VX,Nat.reduceEqDiff,Nat.reduceAdd]
  refine⟨(i+1,outs++[(x*d+c) % 1000000000],(x*d+c) / 1000000000),by simp only;omega,by simp;omega,by simp only;omega,rfl,hq,by rw[hv,List.append_assoc];rfl,?_⟩
  try (repeat' apply And.intro)<;>first | rfl | trivial
 ·have nS:i=(aC 1000000000 a).length:=by omega
  have hz:a / 1000000000^i=0:=by
   have:=mt (DP (b:=1000000000) (by decide) (n:=a) (i:=i)).2
   omega
  rw[hz,Nat.zero_mul,Nat.zero_add] at hv
  by_cases hcp:(0:Int)<(c:Int)
  ·rw[C0 (b:=1000000000) (by decide) (show c≠0 by omega) (show c<1000000000 by omega)] at hv
   have a1:=ZN (outs:=outs) (n:=i) (cap:=(aC 1000000000 a).length+1) (x:=c) hi (by omega)
   simp only[kM,g1,g5,g6,g14,g15,g16,cP,hcp,sF,uJ,a1,VX,Nat.reduceEqDiff,Nat.reduceAdd]
   rw[bS,hv]
   rw[PN aS (by simp;omega) (by omega) (eR fun _=>rfl)]
   rw[List.map_append,List.take_left' (by simp;omega)]
  ·have hc0:c=0:=by omega
   rw[hc0,bY,List.append_nil] at hv
   simp only[kM,g1,g5,g6,g14,g15,g16,cP,hcp,VX,Nat.reduceEqDiff,Nat.reduceAdd]
   rw[bS,hv]
   rw[PN aS (by simp;omega) (by omega) (eR fun _=>rfl)]
   rw[List.map_append,List.take_left' (by simp;omega)]
theorem JP (a b:Nat) (ha:a≤9223372036854775807) (hb:0<b):dB .quo (.int .i64 (a:Int)) (.int .i64 (b:Int))=some (.int .i64 ((a / b:Nat):Int)):=by
 have h1:¬((b:Int)=0):=by omega
 have h2:(a:Int).tdiv (b:Int)=((a / b:Nat):Int):=by rw[Int.tdiv_eq_ediv_of_nonneg (by omega)];simp
 have h3:a / b≤a:=Nat.div_le_self _ _
 simp only[dB,if_true,h1,if_false,h2]
 generalize a / b=q at *
 rw[wrap64 (by omega) (by omega)]
theorem LC (a b:Nat) (hb:0<b):dB .rem (.int .i64 (a:Int)) (.int .i64 (b:Int))=some (.int .i64 ((a % b:Nat):Int)):=by
 have h1:¬((b:Int)=0):=by omega
 have h2:(a:Int).tmod (b:Int)=((a % b:Nat):Int):=by rw[Int.tmod_eq_emod_of_nonneg (by omega)];simp
 simp only[dB,if_true,h1,if_false,h2]
theorem aaM {r d x:Nat} (hr:r<d) (hd:d<1000000000) (hx:x<1000000000):r*1000000000+x≤9223372036854775807:=by omega
theorem amW {r d x:Nat} (C4:0<d) (hr:r<d) (hx:x<1000000000):(r*1000000000+x) / d<1000000000:=by
 rw[Nat.div_lt_iff_lt_mul C4]
 omega
theorem xI (a d:Nat) (C4:0<d) (hdT:d<1000000000) (ha:(aC 1000000000 a).length≤17592186044416):TC 202 [bS a,VI (d:Int)] (.eY [bS (a / d),VI ((a % d:Nat):Int)]):=by
 refine TC.walk ⟨true,false⟩ E6 rfl (Nat.le_of_ble_eq_true rfl) (by simp[aL,cA];rfl) (by simp[gZ,qZ,mM,kE]) ?_
 have va:=cE (b:=1000000000) (by decide) a
 have la:=fB (b:=1000000000) (by decide) a
 unfold bS
 generalize aC 1000000000 a=xs at *
 have w0:IntKind.i64.wrap ((xs.length:Int)-1)=(xs.length:Int)-1:=wrap64 (by omega) (by omega)
 simp only[Ap,xV,dQ,w0,Ps xs.length (by omega),VX,Nat.reduceEqDiff,Nat.reduceAdd]
 refine aQ (fun(s:Nat×List Nat×Nat) ρ H=>s.1≤xs.length∧H=[.row 0 (s.2.1.map tV) 1 true]∧s.2.1.length=xs.length∧(∀d∈s.2.1,d<1000000000)∧s.2.2<d∧val 1000000000 (s.2.1.drop s.1)*d+s.2.2=val 1000000000 (xs.drop s.1) ∧
  ρ 0=gR xs∧ρ 1=VI d∧ρ 6 = .ref 0 0 0 xs.length xs.length∧ρ 7=VI s.2.2∧ρ 8=VI ((s.1:Int)-1)) (fun s=>s.1) (xs.length,List.replicate xs.length 0,0) ⟨Nat.le_refl _,rfl,by simp,zY (by decide) _,C4,by simp[val,List.drop_replicate],rfl,rfl,rfl,rfl,rfl⟩ ?_
 rintro⟨j,outs,r⟩ ρ H ⟨hj,rfl,iO,kL,hr,hv,g0,g1,g6,g7,g8⟩
 simp only at hj iO kL hr hv g7 g8
 by_cases hz:(0:Int)≤(j:Int)-1
 ·obtain⟨i,rfl⟩:∃i,j=i+1:=⟨j-1,by omega⟩
  obtain⟨x,hx⟩:∃x,xs[i]? = some x:=⟨_,List.getElem?_eq_getElem (by omega)⟩
  have lx:=la x (List.mem_of_getElem? hx)
  have Ec:((i+1:Nat):Int)-1=(i:Int):=by omega
  rw[Ec] at g8 hz
  have e1:=aI (f:=tV) (t := .op) (H:=[.row 0 (outs.map tV) 1 true]) (size:=1) (k := .i64) hx rfl
  have e3:bH 1 (.ref 0 0 0 xs.length xs.length) (VI i) [.row 0 (outs.map tV) 1 true]=some (.ptr 0 0 i 0):=adT (by omega)
  have e4:∀s:Nat,bX 0 1 (.ptr 0 0 i 0) (VI (s:Int)) [.row 0 (outs.map tV) 1 true]=some [.row 0 ((outs.set i s).map tV) 1 true]:=fun s=>O3 (by omega)
  have w2:IntKind.i64.wrap ((i:Int)-1)=(i:Int)-1:=wrap64 (by omega) (by omega)
  have w4:IntKind.i64.wrap ((r:Int)*1000000000)=((r*1000000000:Nat):Int):=wrapN _ (by omega) (by omega)
  have w5:IntKind.i64.wrap (((r*1000000000:Nat):Int)+(x:Int))=((r*1000000000+x:Nat):Int):=wrapN _ (by omega) (by omega)
  have Ee:r*1000000000+x≤9223372036854775807:=aaM hr hdT lx
  have q1:=JP (r*1000000000+x) d Ee C4
  have q2:=LC (r*1000000000+x) d C4
  have hq:(r*1000000000+x) / d<1000000000:=amW C4 hr lx
  simp only[pC,g0,g1,g6,g7,g8,hz,e1,e3,e4,w2,w4,w5,q1,q2,VX,Nat.reduceEqDiff,Nat.reduceAdd]
  refine⟨(i,outs.set i ((r*1000000000+x) / d),(r*1000000000+x) % d),by simp only;omega,by omega,rfl,by rw[List.length_set];exact iO,lA kL hq,Nat.mod_lt _ C4,?_,by (repeat' apply And.intro)<;>first | rfl | trivial⟩
  have h1:=Nat.mod_add_div (r*1000000000+x) d
  rw[set_drop (by omega),sE,sL hx,←hv]
  exact Rl h1
 ·have T5:j=0:=by omega
  subst T5
  rw[List.drop_zero,List.drop_zero,va] at hv
  have h1:a / d=val 1000000000 outs:=by
   rw[←hv,Nat.mul_comm,Nat.mul_add_div C4,Nat.div_eq_of_lt hr,Nat.add_zero]
  have h2:a % d=r:=by
   rw[←hv,Nat.mul_comm,Nat.mul_add_mod,Nat.mod_eq_of_lt hr]
  simp only[pC,g0,g1,g6,g7,g8,hz,VX,Nat.reduceEqDiff,Nat.reduceAdd]
  refine Hx (m:=a / d) kL iO.symm (by omega) h1.symm ?_
  simp only[g7,VX,Nat.reduceEqDiff,Nat.reduceAdd]
  rw[h2]
  exact aF (by simp[aN,aL,xN,bS,kE])
end Go.PM
namespace Go.PM
theorem ON {H:aA} {b b' g:Nat} {x:bT} (h:b≠b'):aH (H.set b x) b' g=aH H b' g:=by
 unfold aH
 rw[List.getElem?_set_ne h]
theorem mQ {H:aA} {b g e:Nat} {es lQ:List VV} {w w':Bool} (h:aH H b g=some (es,e,w)):aH (H.set b (.row g lQ e w')) b g=some (lQ,e,w'):=by
 have bA:b<H.length:=by
  unfold aH at h
  split at h
  ·rename_i hb
   exact(List.getElem?_eq_some_iff.1 hb).1
  ·cases h
 unfold aH
 rw[List.getElem?_set_self bA]
 simp
theorem lK {H:aA} {b:Nat} {x y:bT}:(H.set b x).set b y=H.set b y:=by rw[List.set_set]
theorem vZ {H:aA} {b g e:Nat} {es:List VV} {w:Bool} (h:aH H b g=some (es,e,w)):H.set b (.row g es e w)=H:=by
 apply List.ext_getElem?
 intro i
 by_cases hi:b=i
 ·subst hi
  unfold aH at h
  split at h
  ·rename_i hb
   split at h
   ·rename_i hg
    cases h
    rw[List.getElem?_set_self (List.getElem?_eq_some_iff.1 hb).1,hb,hg]
   ·cases h
  ·cases h
 ·rw[List.getElem?_set_ne hi]
theorem ZR {H:aA} {b g o i lo d:Nat} {pre gU post:List Nat} (hr:aH H b g=some ((pre++gU++post).map uV,1,true)) (ho:pre.length=o) (hi:i<gU.length) (eQ:lo≤b) :
  bX lo 1 (.ptr b g (o+i) 0) (uV d) H=some (H.set b (.row g ((pre++gU.set i d++post).map uV) 1 true)):=by
 rw[fF (f:=uV) (e:=1) hr (by simp only[List.length_append];omega) eQ rfl rfl,VU ho hi]
theorem Tw {H:aA} {lo b g o L c b2 g2 n2 c2 t:Nat} {pre gU post vs NM:List Nat} {w2:Bool} (hr:aH H b g=some ((pre++gU++post).map uV,1,true)) (hr2:aH H b2 g2=some (NM.map uV,1,w2)) (hb:b≠b2) (eQ:lo≤b)
  (ho:pre.length=o) (hL:gU.length=L) (azF:L≤70368744177664) (PT:NM.take n2=vs) (hn2:n2≤NM.length) (hle:n2≤L) (Yf:∀d∈gU,d<4294967296) (GN:∀d∈vs,d<4294967296) (ht:t<4294967296) (qK:t*val 4294967296 vs≤val 4294967296 gU+val 4294967296 vs) :
  jO 200 [.ref b g o L c,.ref b2 g2 0 n2 c2,VK .u64 t] lo H fun r H'=>∃qR:List Nat,H'=H.set b (.row g ((pre++qR++post).map uV) 1 true)∧qR.length=L∧(∀d∈qR,d<4294967296) ∧
   ((r=VB false∧val 4294967296 qR+t*val 4294967296 vs=val 4294967296 gU)∨(r=VB true∧val 4294967296 gU<t*val 4294967296 vs∧val 4294967296 qR+t*val 4294967296 vs=val 4294967296 gU+val 4294967296 vs)):=by
 refine jO.walk ⟨true,false⟩ Jw (Nat.le_of_ble_eq_true rfl) ?_
 have EM:vs.length=n2:=by rw[←PT,List.length_take];omega
 have uH:∀i,i<n2→NM[i]? = vs[i]? := fun i hi=>by rw[←PT,List.getElem?_take_of_lt hi]
 have OO:=oI Yf
 have MW:=oI GN
 rw[hL] at OO
 rw[EM] at MW
 have hVL:val 4294967296 vs≤4294967296^L:=Nat.le_trans (Nat.le_of_lt MW) (Nat.pow_le_pow_right (by decide) hle)
 have e0:∀ {K:aA} {es:List VV},aH K b g=some (es,1,true)→oC (.ref b g o L c) K=some (VI L):=fun h=>dR h
 have e00:∀ {K:aA},aH K b2 g2=some (NM.map uV,1,w2)→oC (.ref b2 g2 0 n2 c2) K=some (VI n2):=fun h=>dR h
 have rd:∀(s:List Nat),s.length=L→aH (H.set b (.row g ((pre++s++post).map uV) 1 true)) b g=some ((pre++s++post).map uV,1,true):=fun s _=>mQ hr
 have rd2:∀(s:List Nat),aH (H.set b (.row g ((pre++s++post).map uV) 1 true)) b2 g2=some (NM.map uV,1,w2):=fun s=>by rw[ON hb];exact hr2
 have wi:∀i:Nat,i<L→IntKind.i64.wrap ((i:Int)+1)=((i+1:Nat):Int):=fun i hi=>wrapN (i+1) (by omega) (by omega)
 have back:∀(ρ:dG) (s:List Nat),s.length=L→(∀d∈s,d<4294967296)→(∀s2:List Nat,s2.length=L→(∀d∈s2,d<4294967296)→∀c,val 4294967296 s+val 4294967296 vs=val 4294967296 s2+4294967296^L*c→val 4294967296 s2+t*val 4294967296 vs=val 4294967296 gU+val 4294967296 vs)→val 4294967296 gU<t*val 4294967296 vs→ρ 0 = .ref b g o L c→ρ 1 = .ref b2 g2 0 n2 c2→ρ 7=VK .u64 0→ρ 58=VI L→ρ 59=VI 0 →
   VW ⟨true,false⟩ lo (.loop kX) (zV 2 (mI (VW ⟨true,false⟩ lo (.seq (.dH [⟨(some 6),(.mv (.const (.bool true))),none,false,[]⟩]) .ret) (AZ [.tmp 6] fun r H'=>∃qR:List Nat,H'=H.set b (.row g ((pre++qR++post).map uV) 1 true)∧qR.length=L∧(∀d∈qR,d<4294967296)∧((r=VB false∧val 4294967296 qR+t*val 4294967296 vs=val 4294967296 gU)∨(r=VB true∧val 4294967296 gU<t*val 4294967296 vs∧val 4294967296 qR+t*val 4294967296 vs=val 4294967296 gU+val 4294967296 vs)))) (AZ [.tmp 6] fun r H'=>∃qR:List Nat,H'=H.set b (.row g ((pre++qR++post).map uV) 1 true)∧qR.length=L∧(∀d∈qR,d<4294967296)∧((r=VB false∧val 4294967296 qR+t*val 4294967296 vs=val 4294967296 gU)∨(r=VB true∧val 4294967296 gU<t*val 4294967296 vs∧val 4294967296 qR+t*val 4294967296 vs=val 4294967296 gU+val 4294967296 vs))))) ρ (H.set b (.row g ((pre++s++post).map uV) 1 true)):=by
  intro ρ s hs PH KC aeA g0 g1 g7 g58 g59
  refine aQ (fun(u:Nat×List Nat×Nat) ρ K=>u.1≤L∧K=H.set b (.row g ((pre++u.2.1++post).map uV) 1 true)∧u.2.1.length=L∧(∀d∈u.2.1,d<4294967296)∧u.2.2≤1∧val 4294967296 (s.take u.1)+val 4294967296 (vs.take u.1)=val 4294967296 (u.2.1.take u.1)+4294967296^u.1*u.2.2∧(∀j,u.1≤j→u.2.1[j]? = s[j]?) ∧
   ρ 0 = .ref b g o L c∧ρ 1 = .ref b2 g2 0 n2 c2∧ρ 7=VK .u64 u.2.2∧ρ 58=VI L∧ρ 59=VI u.1) (fun u=>L-u.1) (0,s,0) ⟨Nat.zero_le _,rfl,hs,PH,by simp,by simp[val],fun _ _=>rfl,g0,g1,g7,g58,g59⟩ ?_
  rintro⟨i,outs,cy⟩ Ns K ⟨hi,rfl,iO,kL,hc,hv,Fz,k0,k1,k7,k58,k59⟩
  simp only at hi iO kL hc hv Fz k7 k59
  by_cases cP:(i:Int)<(L:Int)
  ·obtain⟨x,hx⟩:∃x,outs[i]? = some x:=⟨_,List.getElem?_eq_getElem (by omega)⟩
   have lx:=kL x (List.mem_of_getElem? hx)
   have Pa:s[i]? = some x:=by rw[←Fz i (Nat.le_refl _)];exact hx
   have e1:bH 1 (.ref b g o L c) (VI i) (H.set b (.row g ((pre++outs++post).map uV) 1 true))=some (.ptr b g (o+i) 0):=aY (rd outs iO) (by omega)
   have e2:cI false 1 (.ptr b g (o+i) 0) (H.set b (.row g ((pre++outs++post).map uV) 1 true))=some (uV x):=hJ (rd outs iO) (by rw[OT ho (by omega)];exact hx)
   have e3:∀d:Nat,bX lo 1 (.ptr b g (o+i) 0) (uV d) (H.set b (.row g ((pre++outs++post).map uV) 1 true))=some (H.set b (.row g ((pre++outs.set i d++post).map uV) 1 true)):=fun d=>by
    rw[ZR (rd outs iO) ho (by omega) eQ,lK]
   have e4:=e00 (rd2 outs)
   have w1:IntKind.u64.wrap (x:Int)=(x:Int):=dT _ (by omega)
   have w2:IntKind.u64.wrap ((cy:Int)+(x:Int))=((cy+x:Nat):Int):=by rw[←Int.natCast_add];exact dT _ (by omega)
   have wii:=wi i (by omega)
   have step:∀y,y<4294967296→(∀d,vs[i]? = some d→d=y)→(vs.length≤i→y=0) →
     (i+1≤L∧(outs.set i ((cy+x+y) % 4294967296)).length=L∧(∀d∈outs.set i ((cy+x+y) % 4294967296),d<4294967296)∧(cy+x+y) / 4294967296≤1∧val 4294967296 (s.take (i+1))+val 4294967296 (vs.take (i+1))=val 4294967296 ((outs.set i ((cy+x+y) % 4294967296)).take (i+1))+4294967296^(i+1)*((cy+x+y) / 4294967296))∧∀j,i+1≤j→(outs.set i ((cy+x+y) % 4294967296))[j]? = s[j]? := by
    intro y hy h1 h2
    refine⟨⟨by omega,by rw[List.length_set];exact iO,lA kL (Nat.mod_lt _ (by decide)),by omega,?_⟩,fun j hj=>by rw[List.getElem?_set_ne (by omega)];exact Fz j (by omega)⟩
    have hy':val 4294967296 (vs.take (i+1))=val 4294967296 (vs.take i)+4294967296^i*y:=by
     cases SZ:vs[i]? with
     | some d=>rw[aV SZ,h1 d SZ]
     |
      none =>
      have hle:=List.getElem?_eq_none_iff.1 SZ
      rw[h2 hle,iU hle,iU (by omega),Nat.mul_zero,Nat.add_zero]
    rw[aV Pa,hy',eE (by omega),Nat.pow_succ]
    exact Fh hv rfl (Nat.mod_add_div _ _)
   by_cases bA:(i:Int)<(n2:Int)
   ·obtain⟨y,hy⟩:∃y,vs[i]? = some y:=⟨_,List.getElem?_eq_getElem (by omega)⟩
    have ly:=GN y (List.mem_of_getElem? hy)
    have f1:bH 1 (.ref b2 g2 0 n2 c2) (VI i) (H.set b (.row g ((pre++outs++post).map uV) 1 true))=some (.ptr b2 g2 i 0):=by rw[aY (rd2 outs) (by omega),Nat.zero_add]
    have f2:cI false 1 (.ptr b2 g2 i 0) (H.set b (.row g ((pre++outs++post).map uV) 1 true))=some (uV y):=hJ (rd2 outs) (by rw[uH i (by omega)];exact hy)
    have w3:IntKind.u64.wrap (y:Int)=(y:Int):=dT _ (by omega)
    have w4:IntKind.u64.wrap (((cy+x:Nat):Int)+(y:Int))=((cy+x+y:Nat):Int):=by rw[←Int.natCast_add];exact dT _ (by omega)
    obtain⟨⟨s1,s2,s3,s4,s5⟩,s6⟩:=step y ly (fun d hd=>by rw[hy] at hd;injection hd with hd;exact hd.symm) (fun h=>by omega)
    simp only[kX,k0,k1,k7,k58,k59,cP,bA,e1,e2,e3,e4,f1,f2,w1,w2,w3,w4,wii,wrap32,nC,VX,Nat.reduceEqDiff,Nat.reduceAdd]
    exact⟨(i+1,outs.set i ((cy+x+y) % 4294967296),(cy+x+y) / 4294967296),by simp only;omega,s1,rfl,s2,s3,s4,s5,s6,by (repeat' apply And.intro)<;>first | rfl | trivial⟩
   ·obtain⟨⟨s1,s2,s3,s4,s5⟩,s6⟩:=step 0 (by decide) (fun d hd=>by have:=(List.getElem?_eq_some_iff.1 hd).1;omega) (fun _=>rfl)
    simp only[Nat.add_zero] at s2 s3 s4 s5 s6
    simp only[kX,k0,k1,k7,k58,k59,cP,bA,e1,e2,e3,e4,w1,w2,wii,wrap32,nC,VX,Nat.reduceEqDiff,Nat.reduceAdd]
    exact⟨(i+1,outs.set i ((cy+x) % 4294967296),(cy+x) / 4294967296),by simp only;omega,s1,rfl,s2,s3,s4,s5,s6,by (repeat' apply And.intro)<;>first | rfl | trivial⟩
  ·have nS:i=L:=by omega
   subst nS
   rw[List.take_of_length_le (by omega),List.take_of_length_le (by omega),List.take_of_length_le (by omega)] at hv
   simp only[kX,k0,k1,k7,k58,k59,cP,VX,Nat.reduceEqDiff,Nat.reduceAdd]
   exact⟨outs,rfl,iO,kL,.inr ⟨aeA,KC outs iO kL cy hv⟩⟩
 simp only[Ev,BY,e0 hr,VX,Nat.reduceEqDiff,Nat.reduceAdd]
 refine aQ (fun(u:Nat×List Nat×Nat×Nat) ρ K=>u.1≤L∧K=H.set b (.row g ((pre++u.2.1++post).map uV) 1 true)∧u.2.1.length=L∧(∀d∈u.2.1,d<4294967296)∧u.2.2.1<4294967296∧u.2.2.2≤1∧val 4294967296 (gU.take u.1)+4294967296^u.1*(u.2.2.1+u.2.2.2)=val 4294967296 (u.2.1.take u.1)+t*val 4294967296 (vs.take u.1)∧(∀j,u.1≤j→u.2.1[j]? = gU[j]?) ∧
  ρ 0 = .ref b g o L c∧ρ 1 = .ref b2 g2 0 n2 c2∧ρ 2=VK .u64 t∧ρ 7=VK .u64 u.2.2.1∧ρ 8=VI u.2.2.2∧ρ 13=VI L∧ρ 14=VI u.1) (fun u=>L-u.1) (0,gU,0,0) ⟨Nat.zero_le _,(vZ hr).symm,hL,Yf,by simp,by simp,by simp[val],fun _ _=>rfl,by (repeat' apply And.intro)<;>first | rfl | trivial⟩ ?_
 rintro⟨i,outs,cy,l⟩ ρ K ⟨hi,rfl,iO,kL,hc,Ds,hv,Fz,k0,k1,k2,k7,k8,A8,Ce⟩
 simp only at hi iO kL hc Ds hv Fz k7 k8 Ce
 by_cases cP:(i:Int)<(L:Int)
 ·obtain⟨x,hx⟩:∃x,outs[i]? = some x:=⟨_,List.getElem?_eq_getElem (by omega)⟩
  have lx:=kL x (List.mem_of_getElem? hx)
  have Pa:gU[i]? = some x:=by rw[←Fz i (Nat.le_refl _)];exact hx
  have e1:bH 1 (.ref b g o L c) (VI i) (H.set b (.row g ((pre++outs++post).map uV) 1 true))=some (.ptr b g (o+i) 0):=aY (rd outs iO) (by omega)
  have e2:cI false 1 (.ptr b g (o+i) 0) (H.set b (.row g ((pre++outs++post).map uV) 1 true))=some (uV x):=hJ (rd outs iO) (by rw[OT ho (by omega)];exact hx)
  have e3:∀d:Nat,bX lo 1 (.ptr b g (o+i) 0) (uV d) (H.set b (.row g ((pre++outs++post).map uV) 1 true))=some (H.set b (.row g ((pre++outs.set i d++post).map uV) 1 true)):=fun d=>by
   rw[ZR (rd outs iO) ho (by omega) eQ,lK]
  have e4:=e00 (rd2 outs)
  have wii:=wi i (by omega)
  have w1:IntKind.i64.wrap (x:Int)=(x:Int):=wrapN x rfl (by omega)
  have step:∀y c1,y<4294967296→c1=cy+t*y→(∀d,vs[i]? = some d→d=y)→(vs.length≤i→y=0) →
    c1 / 4294967296<4294967296∧IntKind.i64.wrap ((x:Int)-((c1 % 4294967296:Nat):Int)-(l:Int))=(x:Int)-((c1 % 4294967296:Nat):Int)-(l:Int)∧IntKind.i64.wrap ((x:Int)-((c1 % 4294967296:Nat):Int))=(x:Int)-((c1 % 4294967296:Nat):Int) ∧
    ∃r l',l'≤1∧((x:Int)-((c1 % 4294967296:Nat):Int)-(l:Int)<0↔l'=1)∧IntKind.u32.wrap ((x:Int)-((c1 % 4294967296:Nat):Int)-(l:Int))=((r:Nat):Int) ∧
    (i+1≤L∧(outs.set i r).length=L∧(∀d∈outs.set i r,d<4294967296)∧c1 / 4294967296<4294967296∧l'≤1∧val 4294967296 (gU.take (i+1))+4294967296^(i+1)*(c1 / 4294967296+l')=val 4294967296 ((outs.set i r).take (i+1))+t*val 4294967296 (vs.take (i+1))∧∀j,i+1≤j→(outs.set i r)[j]? = gU[j]?):=by
   intro y c1 hy hc1 h1 h2
   have hty:t*y≤4294967295*4294967295:=Nat.mul_le_mul (by omega) (by omega)
   have hm:=Nat.mod_lt c1 (show 0<4294967296 by decide)
   have hdv:=Nat.mod_add_div c1 4294967296
   have hq:c1 / 4294967296<4294967296:=Nat.div_lt_of_lt_mul (by omega)
   refine⟨hq,wrap64 (by omega) (by omega),wrap64 (by omega) (by omega),?_⟩
   obtain⟨r,l',Bf,EP,hd,hlw,lU⟩:∃r l':Nat,l'≤1∧r<4294967296∧r+c1 % 4294967296+l=x+4294967296*l'∧IntKind.u32.wrap ((x:Int)-((c1 % 4294967296:Nat):Int)-(l:Int))=((r:Nat):Int)∧((x:Int)-((c1 % 4294967296:Nat):Int)-(l:Int)<0↔l'=1):=by
    by_cases hn:(x:Int)-((c1 % 4294967296:Nat):Int)-(l:Int)<0
    ·exact⟨x+4294967296-c1 % 4294967296-l,1,by omega,by omega,by omega,J2 (by omega) hn (by omega),fun _=>rfl,fun _=>hn⟩
    ·exact⟨x-c1 % 4294967296-l,0,by omega,by omega,by omega,by rw[IntKind.wrap_u32];omega,fun h=>absurd h hn,fun h=>by omega⟩
   refine⟨r,l',Bf,lU,hlw,by omega,by rw[List.length_set];exact iO,lA kL EP,hq,Bf,?_,fun j hj=>by rw[List.getElem?_set_ne (by omega)];exact Fz j (by omega)⟩
   have hy':val 4294967296 (vs.take (i+1))=val 4294967296 (vs.take i)+4294967296^i*y:=by
    cases SZ:vs[i]? with
    | some d=>rw[aV SZ,h1 d SZ]
    |
     none =>
     have hle:=List.getElem?_eq_none_iff.1 SZ
     rw[h2 hle,iU hle,iU (by omega),Nat.mul_zero,Nat.add_zero]
   rw[aV Pa,hy',eE (by omega),Nat.pow_succ]
   have:=W4 hv hc1 hdv.symm hd
   rw[this,Nat.mul_add,Nat.mul_left_comm t]
  by_cases bA:(i:Int)<(n2:Int)
  ·obtain⟨y,hy⟩:∃y,vs[i]? = some y:=⟨_,List.getElem?_eq_getElem (by omega)⟩
   have ly:=GN y (List.mem_of_getElem? hy)
   have f1:bH 1 (.ref b2 g2 0 n2 c2) (VI i) (H.set b (.row g ((pre++outs++post).map uV) 1 true))=some (.ptr b2 g2 i 0):=by rw[aY (rd2 outs) (by omega),Nat.zero_add]
   have f2:cI false 1 (.ptr b2 g2 i 0) (H.set b (.row g ((pre++outs++post).map uV) 1 true))=some (uV y):=hJ (rd2 outs) (by rw[uH i (by omega)];exact hy)
   have w3:IntKind.u64.wrap (y:Int)=(y:Int):=dT _ (by omega)
   have hty:t*y≤4294967295*4294967295:=Nat.mul_le_mul (by omega) (by omega)
   have w4:IntKind.u64.wrap ((t:Int)*(y:Int))=((t*y:Nat):Int):=by rw[←Int.natCast_mul];exact dT _ (by omega)
   have w5:IntKind.u64.wrap ((cy:Int)+((t*y:Nat):Int))=((cy+t*y:Nat):Int):=by rw[←Int.natCast_add];exact dT _ (by omega)
   have w6:IntKind.i64.wrap (((cy+t*y) % 4294967296:Nat):Int)=(((cy+t*y) % 4294967296:Nat):Int):=wrapN _ rfl (by omega)
   obtain⟨_,a1,a2,r,l',Bf,lU,hw,s1,s2,s3,s4,s5,s6,s7⟩:=step y (cy+t*y) ly rfl (fun d hd=>by rw[hy] at hd;injection hd with hd;exact hd.symm) (fun h=>by omega)
   by_cases hn:(x:Int)-(((cy+t*y) % 4294967296:Nat):Int)-(l:Int)<0
   ·have:=lU.1 hn
    subst this
    simp only[fL,k0,k1,k2,k7,k8,A8,Ce,cP,bA,e1,e2,e3,e4,f1,f2,w1,w3,w4,w5,w6,a1,a2,hn,hw,wii,wrap32,nC,VX,Nat.reduceEqDiff,Nat.reduceAdd]
    exact⟨(i+1,outs.set i r,(cy+t*y) / 4294967296,1),by simp only;omega,s1,rfl,s2,s3,s4,s5,s6,s7,by (repeat' apply And.intro)<;>first | rfl | trivial⟩
   ·have:l'=0:=by
     have:l'≠1:=fun h=>hn (lU.2 h)
     omega
    subst this
    simp only[fL,k0,k1,k2,k7,k8,A8,Ce,cP,bA,e1,e2,e3,e4,f1,f2,w1,w3,w4,w5,w6,a1,a2,hn,hw,wii,wrap32,nC,VX,Nat.reduceEqDiff,Nat.reduceAdd]
    exact⟨(i+1,outs.set i r,(cy+t*y) / 4294967296,0),by simp only;omega,s1,rfl,s2,s3,s4,s5,s6,s7,by (repeat' apply And.intro)<;>first | rfl | trivial⟩
  ·have w6:IntKind.i64.wrap ((cy % 4294967296:Nat):Int)=((cy % 4294967296:Nat):Int):=wrapN _ rfl (by omega)
   obtain⟨_,a1,a2,r,l',Bf,lU,hw,s1,s2,s3,s4,s5,s6,s7⟩:=step 0 cy (by decide) (by simp) (fun d hd=>by have:=(List.getElem?_eq_some_iff.1 hd).1;omega) (fun _=>rfl)
   by_cases hn:(x:Int)-((cy % 4294967296:Nat):Int)-(l:Int)<0
   ·have:=lU.1 hn
    subst this
    simp only[fL,k0,k1,k2,k7,k8,A8,Ce,cP,bA,e1,e2,e3,e4,w1,w6,a1,a2,hn,hw,wii,wrap32,nC,VX,Nat.reduceEqDiff,Nat.reduceAdd]
    exact⟨(i+1,outs.set i r,cy / 4294967296,1),by simp only;omega,s1,rfl,s2,s3,s4,s5,s6,s7,by (repeat' apply And.intro)<;>first | rfl | trivial⟩
   ·have:l'=0:=by
     have:l'≠1:=fun h=>hn (lU.2 h)
     omega
    subst this
    simp only[fL,k0,k1,k2,k7,k8,A8,Ce,cP,bA,e1,e2,e3,e4,w1,w6,a1,a2,hn,hw,wii,wrap32,nC,VX,Nat.reduceEqDiff,Nat.reduceAdd]
    exact⟨(i+1,outs.set i r,cy / 4294967296,0),by simp only;omega,s1,rfl,s2,s3,s4,s5,s6,s7,by (repeat' apply And.intro)<;>first | rfl | trivial⟩
 ·have nS:i=L:=by omega
  subst nS
  rw[List.take_of_length_le (by omega),List.take_of_length_le (by omega),List.take_of_length_le (by omega)] at hv
  have ajL:=oI kL
  rw[iO] at ajL
  by_cases hz:l=0∧cy=0
  ·obtain⟨rfl,rfl⟩:=hz
   simp only[fL,k0,k1,k2,k7,k8,A8,Ce,cP,Int.natCast_zero,VX,Nat.reduceEqDiff,Nat.reduceAdd]
   exact⟨outs,rfl,iO,kL,.inl (by simpa using hv.symm)⟩
  ·have Xy:cy+l=1:=by
    rcases Zq hv ajL hVL qK with h | h<;>omega
   rw[Xy,Nat.mul_one] at hv
   have aeA:val 4294967296 gU<t*val 4294967296 vs:=by omega
   have fin:∀s2:List Nat,s2.length=i→(∀d∈s2,d<4294967296)→∀c,val 4294967296 outs+val 4294967296 vs=val 4294967296 s2+4294967296^i*c→val 4294967296 s2+t*val 4294967296 vs=val 4294967296 gU+val 4294967296 vs:=by
    intro s2 h2 h3 c h4
    have h5:=oI h3
    rw[h2] at h5
    exact acA hv h4 h5 hVL qK OO (by omega)
   have hlen:=e0 (rd outs iO)
   by_cases Af:(l:Int)=0
   ·have hcy:¬(cy:Int)=0:=by omega
    simp only[fL,k0,k1,k2,k7,k8,A8,Ce,cP,Af,hcy,hlen,VX,Nat.reduceEqDiff,Nat.reduceAdd]
    exact back _ outs iO kL fin aeA k0 k1 (by rfl) (by rfl) (by rfl)
   ·simp only[fL,k0,k1,k2,k7,k8,A8,Ce,cP,Af,hlen,VX,Nat.reduceEqDiff,Nat.reduceAdd]
    exact back _ outs iO kL fin aeA k0 k1 (by rfl) (by rfl) (by rfl)
end Go.PM
namespace Go.PM
section
variable {H:aA} {b g o i lo d:Nat} {L R:List VV} {low:List Nat}
theorem aaX (hr:aH H b g=some (L++low.map tV++R,1,true)) (ho:L.length=o) (hi:low[i]? = some d):cI false 1 (.ptr b g (o+i) 0) H=some (VI (d:Int)):=by
 have bA:=(List.getElem?_eq_some_iff.1 hi).1
 rw[O4 hr (x:=tV d) (by rw[OT ho (by simpa using bA)];simp[hi])]
 rfl
theorem acG (hr:aH H b g=some (L++low.map tV++R,1,true)) (ho:L.length=o) (hi:i<low.length) (eQ:lo≤b):bX lo 1 (.ptr b g (o+i) 0) (VI (d:Int)) H=some (H.set b (.row g (L++(low.set i d).map tV++R) 1 true)):=by
 rw[cF hr (by simp only[List.length_append,List.length_map];omega) eQ rfl rfl,VU ho (by simpa using hi),List.map_set]
theorem TM {n:Nat} {z:Int} (hr:aH H b g=some (L++low.map tV++VI z::R,1,true)) (ho:L.length=o) (hn:low.length=n):cI false 1 (.ptr b g (o+n) 0) H=some (VI z):=by
 rw[O4 hr (x:=VI z) (by rw[List.getElem?_append_right (by simp;omega)];simp[ho,hn])]
 rfl
theorem ZA {n:Nat} {z z':Int} (hr:aH H b g=some (L++low.map tV++VI z::R,1,true)) (ho:L.length=o) (hn:low.length=n) (eQ:lo≤b):bX lo 1 (.ptr b g (o+n) 0) (VI z') H=some (H.set b (.row g (L++low.map tV++VI z'::R) 1 true)):=by
 rw[cF hr (by simp only[List.length_append,List.length_map,List.length_cons];omega) eQ rfl rfl,List.set_append_right _ _ (by simp;omega)]
 congr 5
 simp[ho,hn]
end
theorem OJ {P A N B c u x t r k m q T:Nat} (h:A+P*c=N+t*B) (h1:r+m+c=u+T*k) (h2:m+T*q=x*t):(A+P*u)+P*T*(q+k)=(N+P*r)+t*(B+P*x):=by
 have e1:P*(r+m+c)=P*(u+T*k):=by rw[h1]
 have e2:P*(m+T*q)=P*(x*t):=by rw[h2]
 grind
theorem aaP {x t:Nat} (hx:x<1000000000) (ht:t<1000000000):x*t≤999999998000000001∧x*t / 1000000000≤999999998:=by
 have h:x*t≤999999999*999999999:=Nat.mul_le_mul (by omega) (by omega)
 omega
theorem XX {H:aA} {lo b g o n N t top:Nat} {L R:List VV} {low vs:List Nat} (hr:aH H b g=some (L++low.map tV++VI (top:Int)::R,1,true)) (eQ:lo≤b) (ho:L.length=o) (hl:low.length=n) (EM:vs.length=n) (hN:o+n<N) (Dq:N≤70368744177664)
  (ZU:∀d∈low,d<1000000000) (GN:∀d∈vs,d<1000000000) (ht:t<1000000000) (ZH:top<1000000000) :
  jO 204 [.ref b g 0 N N,gR vs,VI (o:Int),VI (t:Int)] lo H fun r H'=>∃(AD:List Nat) (c:Nat),H'=H.set b (.row g (L++AD.map tV++VI ((top:Int)-(c:Int))::R) 1 true)∧AD.length=n∧(∀d∈AD,d<1000000000)∧c≤1000000000 ∧
   r=VB (decide ((top:Int)-(c:Int)<0))∧val 1000000000 low+1000000000^n*c=val 1000000000 AD+t*val 1000000000 vs:=by
 refine jO.walk ⟨true,false⟩ FD (Nat.le_of_ble_eq_true rfl) ?_
 have rd:∀(s:List Nat) (z:Int),aH (H.set b (.row g (L++s.map tV++VI z::R) 1 true)) b g=some (L++s.map tV++VI z::R,1,true):=fun s z=>mQ hr
 have ad:∀(K:aA) (es:List VV) (i:Nat),aH K b g=some (es,1,true)→i≤n→bH 1 (.ref b g 0 N N) (VI ((o+i:Nat):Int)) K=some (.ptr b g (o+i) 0):=fun K es i h hi=>by rw[aY h (by omega),Nat.zero_add]
 simp only[Cd,zI,dQ,VX,Nat.reduceEqDiff,Nat.reduceAdd]
 refine aQ (fun(u:Nat×List Nat×Nat) ρ K=>u.1≤n∧K=H.set b (.row g (L++u.2.1.map tV++VI (top:Int)::R) 1 true)∧u.2.1.length=n∧(∀d∈u.2.1,d<1000000000)∧u.2.2≤1000000000∧val 1000000000 (low.take u.1)+1000000000^u.1*u.2.2=val 1000000000 (u.2.1.take u.1)+t*val 1000000000 (vs.take u.1)∧(∀j,u.1≤j→u.2.1[j]? = low[j]?) ∧
  ρ 0 = .ref b g 0 N N∧ρ 1=gR vs∧ρ 2=VI o∧ρ 3=VI t∧ρ 9=VI u.2.2∧ρ 13=gR vs∧ρ 14=VI vs.length∧ρ 15=VI u.1) (fun u=>n-u.1) (0,low,0) ⟨Nat.zero_le _,(vZ hr).symm,hl,ZU,by simp,by simp[val],fun _ _=>rfl,by (repeat' apply And.intro)<;>first | rfl | trivial⟩ ?_
 rintro⟨i,outs,c⟩ ρ K ⟨hi,rfl,iO,kL,hc,hv,Fz,k0,k1,k2,k3,k9,A8,Ce,JX⟩
 simp only at hi iO kL hc hv Fz k9 JX
 by_cases cP:(i:Int)<(vs.length:Int)
 ·obtain⟨u,hu⟩:∃u,outs[i]? = some u:=⟨_,List.getElem?_eq_getElem (by omega)⟩
  have lu:=kL u (List.mem_of_getElem? hu)
  have hu':low[i]? = some u:=by rw[←Fz i (Nat.le_refl _)];exact hu
  obtain⟨x,hx⟩:∃x,vs[i]? = some x:=⟨_,List.getElem?_eq_getElem (by omega)⟩
  have lx:=GN x (List.mem_of_getElem? hx)
  obtain⟨xt1,xt2⟩:=aaP lx ht
  have e1:bH 1 (gR vs) (VI i) (H.set b (.row g (L++outs.map tV++VI (top:Int)::R) 1 true))=some (.cV (tV x) 0):=aI (f:=tV) (t := .op) (size:=1) (k := .i64) hx rfl
  have w1:IntKind.i64.wrap ((o:Int)+(i:Int))=((o+i:Nat):Int):=wrapN _ (by omega) (by omega)
  have e2:=ad _ _ i (rd outs top) (by omega)
  have e3:=aaX (rd outs top) ho hu
  have e4:∀d:Nat,bX lo 1 (.ptr b g (o+i) 0) (VI (d:Int)) (H.set b (.row g (L++outs.map tV++VI (top:Int)::R) 1 true))=some (H.set b (.row g (L++(outs.set i d).map tV++VI (top:Int)::R) 1 true)):=fun d=>by rw[acG (rd outs top) ho (by omega) eQ,lK]
  have w2:IntKind.i64.wrap ((x:Int)*(t:Int))=((x*t:Nat):Int):=wrapN _ (by simp) (by omega)
  have r1:=Ou (x*t)
  have q1:=NO (x*t) (by omega)
  have hm:=Nat.mod_lt (x*t) (show 0<1000000000 by decide)
  have hdv:=Nat.mod_add_div (x*t) 1000000000
  have wi:IntKind.i64.wrap ((i:Int)+1)=((i+1:Nat):Int):=wrapN (i+1) (by omega) (by omega)
  generalize hmq:x*t % 1000000000=m at *
  generalize hqq:x*t / 1000000000=q at *
  have w3:IntKind.i64.wrap ((u:Int)-(m:Int))=(u:Int)-(m:Int):=wrap64 (by omega) (by omega)
  have w4:IntKind.i64.wrap ((u:Int)-(m:Int)-(c:Int))=(u:Int)-(m:Int)-(c:Int):=wrap64 (by omega) (by omega)
  have step:∀r k:Nat,r<1000000000→r+m+c=u+1000000000*k→val 1000000000 (low.take (i+1))+1000000000^(i+1)*(q+k)=val 1000000000 ((outs.set i r).take (i+1))+t*val 1000000000 (vs.take (i+1))∧(∀d∈outs.set i r,d<1000000000)∧(∀j,i+1≤j→(outs.set i r)[j]? = low[j]?)∧(outs.set i r).length=n:=by
   intro r k hr hk
   refine⟨?_,lA kL hr,fun j hj=>by rw[List.getElem?_set_ne (by omega)];exact Fz j (by omega),by rw[List.length_set];exact iO⟩
   rw[aV hu',aV hx,eE (by omega),Nat.pow_succ]
   exact OJ hv hk hdv
  by_cases h1:(u:Int)-(m:Int)-(c:Int)<0
  ·have w5:IntKind.i64.wrap ((u:Int)-(m:Int)-(c:Int)+1000000000)=(u:Int)-(m:Int)-(c:Int)+1000000000:=wrap64 (by omega) (by omega)
   have w6:IntKind.i64.wrap ((q:Int)+1)=((q+1:Nat):Int):=wrapN _ (by omega) (by omega)
   by_cases h2:(u:Int)-(m:Int)-(c:Int)+1000000000<0
   ·obtain⟨r,hr⟩:∃r:Nat,r+m+c=u+1000000000*2:=⟨u+1000000000*2-m-c,by omega⟩
    have w7:IntKind.i64.wrap ((u:Int)-(m:Int)-(c:Int)+1000000000+1000000000)=(r:Int):=wrapN r (by omega) (by omega)
    have w8:IntKind.i64.wrap (((q+1:Nat):Int)+1)=((q+2:Nat):Int):=wrapN _ (by omega) (by omega)
    obtain⟨s1,s2,s3,s4⟩:=step r 2 (by omega) hr
    simp only[jC,k0,k1,k2,k3,k9,A8,Ce,JX,cP,e1,e2,e3,e4,w1,w2,w3,w4,w5,w6,w7,w8,wi,r1,q1,h1,h2,VX,Nat.reduceEqDiff,Nat.reduceAdd]
    refine⟨(i+1,outs.set i r,q+2),by simp only;omega,by omega,rfl,s4,s2,by simp only;omega,s1,s3,?_⟩
    try (repeat' apply And.intro)<;>first | rfl | trivial
   ·obtain⟨r,hr⟩:∃r:Nat,r+m+c=u+1000000000*1:=⟨u+1000000000*1-m-c,by omega⟩
    have w7:IntKind.i64.wrap ((u:Int)-(m:Int)-(c:Int)+1000000000)=(r:Int):=wrapN r (by omega) (by omega)
    have h3:¬(r:Int)<0:=by omega
    obtain⟨s1,s2,s3,s4⟩:=step r 1 (by omega) hr
    simp only[jC,k0,k1,k2,k3,k9,A8,Ce,JX,cP,e1,e2,e3,e4,w1,w2,w3,w4,w6,w7,wi,r1,q1,h1,h3,VX,Nat.reduceEqDiff,Nat.reduceAdd]
    refine⟨(i+1,outs.set i r,q+1),by simp only;omega,by omega,rfl,s4,s2,by simp only;omega,s1,s3,?_⟩
    try (repeat' apply And.intro)<;>first | rfl | trivial
  ·obtain⟨r,hr⟩:∃r:Nat,r+m+c=u+1000000000*0:=⟨u-m-c,by omega⟩
   have w7:IntKind.i64.wrap ((u:Int)-(m:Int)-(c:Int))=(r:Int):=wrapN r (by omega) (by omega)
   have h3:¬(r:Int)<0:=by omega
   obtain⟨s1,s2,s3,s4⟩:=step r 0 (by omega) hr
   simp only[jC,k0,k1,k2,k3,k9,A8,Ce,JX,cP,e1,e2,e3,e4,w1,w2,w3,w7,wi,r1,q1,h3,VX,Nat.reduceEqDiff,Nat.reduceAdd]
   refine⟨(i+1,outs.set i r,q),by simp only;omega,by omega,rfl,s4,s2,by simp only;omega,s1,s3,?_⟩
   try (repeat' apply And.intro)<;>first | rfl | trivial
 ·have nS:i=n:=by omega
  subst nS
  rw[List.take_of_length_le (by omega),List.take_of_length_le (by omega),List.take_of_length_le (by omega)] at hv
  have w1:IntKind.i64.wrap ((o:Int)+(vs.length:Int))=((o+i:Nat):Int):=wrapN _ (by omega) (by omega)
  have e2:=ad _ _ i (rd outs top) (by omega)
  have e2':=ad _ _ i (rd outs ((top:Int)-(c:Int))) (by omega)
  have e3:=TM (rd outs top) ho iO
  have e3':=TM (rd outs ((top:Int)-(c:Int))) ho iO
  have e4:bX lo 1 (.ptr b g (o+i) 0) (VI ((top:Int)-(c:Int))) (H.set b (.row g (L++outs.map tV++VI (top:Int)::R) 1 true))=some (H.set b (.row g (L++outs.map tV++VI ((top:Int)-(c:Int))::R) 1 true)):=by rw[ZA (rd outs top) ho iO eQ,lK]
  have w2:IntKind.i64.wrap ((top:Int)-(c:Int))=(top:Int)-(c:Int):=wrap64 (by omega) (by omega)
  simp only[jC,k0,k1,k2,k3,k9,A8,Ce,JX,cP,dQ,w1,w2,e2,e2',e3,e3',e4,VX,Nat.reduceEqDiff,Nat.reduceAdd]
  refine⟨outs,c,rfl,iO,kL,hc,?_,hv⟩
  try rfl
theorem X8 {H:aA} {lo b g o n N:Nat} {z:Int} {L R:List VV} {low vs:List Nat} (hr:aH H b g=some (L++low.map tV++VI z::R,1,true)) (eQ:lo≤b) (ho:L.length=o) (hl:low.length=n) (EM:vs.length=n) (hN:o+n<N) (Dq:N≤70368744177664)
  (ZU:∀d∈low,d<1000000000) (GN:∀d∈vs,d<1000000000) (hz : -1000000000≤z) (SC:z≤1000000000) :
  jO 205 [.ref b g 0 N N,gR vs,VI (o:Int)] lo H fun r H'=>∃(AD:List Nat) (c:Nat),H'=H.set b (.row g (L++AD.map tV++VI (z+(c:Int))::R) 1 true)∧AD.length=n∧(∀d∈AD,d<1000000000)∧c≤1 ∧
   val 1000000000 low+val 1000000000 vs=val 1000000000 AD+1000000000^n*c:=by
 refine jO.walk ⟨true,false⟩ GU (Nat.le_of_ble_eq_true rfl) ?_
 have rd:∀(s:List Nat) (z:Int),aH (H.set b (.row g (L++s.map tV++VI z::R) 1 true)) b g=some (L++s.map tV++VI z::R,1,true):=fun s z=>mQ hr
 have ad:∀(K:aA) (es:List VV) (i:Nat),aH K b g=some (es,1,true)→i≤n→bH 1 (.ref b g 0 N N) (VI ((o+i:Nat):Int)) K=some (.ptr b g (o+i) 0):=fun K es i h hi=>by rw[aY h (by omega),Nat.zero_add]
 simp only[B7,zA,dQ,VX,Nat.reduceEqDiff,Nat.reduceAdd]
 refine aQ (fun(u:Nat×List Nat×Nat) ρ K=>u.1≤n∧K=H.set b (.row g (L++u.2.1.map tV++VI z::R) 1 true)∧u.2.1.length=n∧(∀d∈u.2.1,d<1000000000)∧u.2.2≤1∧val 1000000000 (low.take u.1)+val 1000000000 (vs.take u.1)=val 1000000000 (u.2.1.take u.1)+1000000000^u.1*u.2.2∧(∀j,u.1≤j→u.2.1[j]? = low[j]?) ∧
  ρ 0 = .ref b g 0 N N∧ρ 1=gR vs∧ρ 2=VI o∧ρ 6=VI u.2.2∧ρ 10=gR vs∧ρ 11=VI vs.length∧ρ 12=VI u.1) (fun u=>n-u.1) (0,low,0) ⟨Nat.zero_le _,(vZ hr).symm,hl,ZU,by simp,by simp[val],fun _ _=>rfl,by (repeat' apply And.intro)<;>first | rfl | trivial⟩ ?_
 rintro⟨i,outs,c⟩ ρ K ⟨hi,rfl,iO,kL,hc,hv,Fz,k0,k1,k2,k6,Yq,V3,HA⟩
 simp only at hi iO kL hc hv Fz k6 HA
 by_cases cP:(i:Int)<(vs.length:Int)
 ·obtain⟨u,hu⟩:∃u,outs[i]? = some u:=⟨_,List.getElem?_eq_getElem (by omega)⟩
  have lu:=kL u (List.mem_of_getElem? hu)
  have hu':low[i]? = some u:=by rw[←Fz i (Nat.le_refl _)];exact hu
  obtain⟨x,hx⟩:∃x,vs[i]? = some x:=⟨_,List.getElem?_eq_getElem (by omega)⟩
  have lx:=GN x (List.mem_of_getElem? hx)
  have e1:bH 1 (gR vs) (VI i) (H.set b (.row g (L++outs.map tV++VI z::R) 1 true))=some (.cV (tV x) 0):=aI (f:=tV) (t := .op) (size:=1) (k := .i64) hx rfl
  have w1:IntKind.i64.wrap ((o:Int)+(i:Int))=((o+i:Nat):Int):=wrapN _ (by omega) (by omega)
  have e2:=ad _ _ i (rd outs z) (by omega)
  have e3:=aaX (rd outs z) ho hu
  have e4:∀d:Nat,bX lo 1 (.ptr b g (o+i) 0) (VI (d:Int)) (H.set b (.row g (L++outs.map tV++VI z::R) 1 true))=some (H.set b (.row g (L++(outs.set i d).map tV++VI z::R) 1 true)):=fun d=>by rw[acG (rd outs z) ho (by omega) eQ,lK]
  have w2:IntKind.i64.wrap ((u:Int)+(x:Int))=((u+x:Nat):Int):=wrapN _ (by omega) (by omega)
  have w3:IntKind.i64.wrap (((u+x:Nat):Int)+(c:Int))=((u+x+c:Nat):Int):=wrapN _ (by omega) (by omega)
  have r1:=Ou (u+x+c)
  have q1:=NO (u+x+c) (by omega)
  have wi:IntKind.i64.wrap ((i:Int)+1)=((i+1:Nat):Int):=wrapN (i+1) (by omega) (by omega)
  simp only[qS,k0,k1,k2,k6,Yq,V3,HA,cP,e1,e2,e3,e4,w1,w2,w3,wi,r1,q1,VX,Nat.reduceEqDiff,Nat.reduceAdd]
  refine⟨(i+1,outs.set i ((u+x+c) % 1000000000),(u+x+c) / 1000000000),by simp only;omega,by omega,rfl,by rw[List.length_set];exact iO,lA kL (Nat.mod_lt _ (by decide)),by simp only;omega,?_,fun j hj=>by rw[List.getElem?_set_ne (by omega)];exact Fz j (by omega),?_⟩
  ·simp only
   rw[aV hu',aV hx,eE (by omega),Nat.pow_succ]
   exact Fh hv (show c+u+x=u+x+c by omega) (Nat.mod_add_div _ _)
  ·try (repeat' apply And.intro)<;>first | rfl | trivial
 ·have nS:i=n:=by omega
  subst nS
  rw[List.take_of_length_le (by omega),List.take_of_length_le (by omega),List.take_of_length_le (by omega)] at hv
  have w1:IntKind.i64.wrap ((o:Int)+(vs.length:Int))=((o+i:Nat):Int):=wrapN _ (by omega) (by omega)
  have e2:=ad _ _ i (rd outs z) (by omega)
  have e3:=TM (rd outs z) ho iO
  have e4:bX lo 1 (.ptr b g (o+i) 0) (VI (z+(c:Int))) (H.set b (.row g (L++outs.map tV++VI z::R) 1 true))=some (H.set b (.row g (L++outs.map tV++VI (z+(c:Int))::R) 1 true)):=by rw[ZA (rd outs z) ho iO eQ,lK]
  have w2:IntKind.i64.wrap (z+(c:Int))=z+(c:Int):=wrap64 (by omega) (by omega)
  simp only[qS,k0,k1,k2,k6,Yq,V3,HA,cP,dQ,w1,w2,e2,e3,e4,VX,Nat.reduceEqDiff,Nat.reduceAdd]
  exact⟨outs,c,rfl,iO,kL,hc,hv⟩
end Go.PM
namespace Go.PM
theorem vW {d:Nat} {H:aA}:fz (d+1) H (.tree [] .nil)=some (bM 0):=by
 rw[DS]
 unfold fz
 have:aN (.tree [] .nil)=false:=by simp[aN]
 simp only[this,Bool.false_eq_true,if_false]
 rfl
theorem aaB {d:Nat} {H:aA} {m:Nat} {t:TK} (ht:t = .cl 1∨t = .op):fz (d+2) H (.tree ((aC 4294967296 m).map uV) t)=some (bM m):=by
 rcases ht with rfl | rfl
 ·unfold fz
  have:aN (.tree ((aC 4294967296 m).map uV) (.cl 1))=false:=by simp[aN]
  simp only[this,Bool.false_eq_true,if_false]
  rw[mapM_pure (eR fun _=>rfl)]
  rfl
 ·exact aJ (bO m)
abbrev H3 (us ws os:List Nat):aA:=[.row 0 (us.map uV) 1 true,.row 0 (ws.map uV) 1 true,.row 0 (os.map uV) 1 true]
theorem Co {us ws os:List Nat}:aH (H3 us ws os) 0 0=some (us.map uV,1,true):=rfl
theorem aqK {us ws os:List Nat}:aH (H3 us ws os) 1 0=some (ws.map uV,1,true):=rfl
theorem agC {us ws os:List Nat}:aH (H3 us ws os) 2 0=some (os.map uV,1,true):=rfl
theorem XU {us:List Nat} {i n N V:Nat} (hN:us.length=N) (cP:i+n<N) (hd:∀d∈us,d<4294967296) (hV:V<4294967296^n) (BW:val 4294967296 (us.drop (i+1))<V) :
  us=us.take i++(us.drop i).take (n+1)++us.drop (i+(n+1))∧(us.take i).length=i∧((us.drop i).take (n+1)).length=n+1∧val 4294967296 ((us.drop i).take (n+1))<4294967296*V∧val 4294967296 (us.drop i)=val 4294967296 ((us.drop i).take (n+1))∧val 4294967296 (us.drop (i+(n+1)))=0∧∀j,j<n+1→((us.drop i).take (n+1))[j]? = us[i+j]? := by
 obtain⟨x,hx⟩:∃x,us[i]? = some x:=⟨_,List.getElem?_eq_getElem (by omega)⟩
 have lx:=hd x (List.mem_of_getElem? hx)
 have h1:=sL (b:=4294967296) hx
 have h2:val 4294967296 (us.drop i)<4294967296*V:=by
  have:4294967296*(val 4294967296 (us.drop (i+1))+1)≤4294967296*V:=Nat.mul_le_mul_left _ BW
  omega
 have h3:=oL (b:=4294967296) (us.drop i) (n+1)
 have h4:((us.drop i).take (n+1)).length=n+1:=by rw[List.length_take,List.length_drop];omega
 rw[h4,List.drop_drop] at h3
 have h5:val 4294967296 (us.drop (i+(n+1)))=0:=by
  rcases Nat.eq_zero_or_pos (val 4294967296 (us.drop (i+(n+1)))) with h | h
  ·exact h
  ·have h6:4294967296^(n+1)*1≤4294967296^(n+1)*val 4294967296 (us.drop (i+(n+1))):=Nat.mul_le_mul_left _ h
   have h7:4294967296*V≤4294967296^(n+1):=by rw[Nat.pow_succ,Nat.mul_comm];exact Nat.mul_le_mul_right _ (by omega)
   omega
 rw[h5,Nat.mul_zero,Nat.add_zero] at h3
 refine⟨?_,by rw[List.length_take];omega,h4,by omega,h3,h5,fun j hj => ?_⟩
 ·rw[List.append_assoc,←List.drop_drop,List.take_append_drop,List.take_append_drop]
 ·rw[List.getElem?_take_of_lt hj,List.getElem?_drop]
theorem QO {x D p w:Nat} (hp:0<p) (hw:p*w=4294967296):(x+4294967296*D) / p=((D % 4294967296*4294967296+x) / p) % 4294967296+4294967296*(D / p)∨¬x<4294967296:=by
 rcases Nat.lt_or_ge x 4294967296 with hx | hx
 ·left
  have h1:(x+4294967296*D) / p / 4294967296=D / p:=by
   rw[Nat.div_div_eq_div_mul,Nat.mul_comm p,←Nat.div_div_eq_div_mul,Nat.add_mul_div_left _ _ (by decide),Nat.div_eq_of_lt hx,Nat.zero_add]
  have h2:(x+4294967296*D) / p % 4294967296=(D % 4294967296*4294967296+x) / p % 4294967296:=by
   have e:x+4294967296*D=(D % 4294967296*4294967296+x)+p*(4294967296*(w*(D / 4294967296))):=by
    have h3:=Nat.mod_add_div D 4294967296
    have h4:p*(4294967296*(w*(D / 4294967296)))=(p*w)*(4294967296*(D / 4294967296)):=by grind
    rw[h4,hw]
    omega
   rw[e,Nat.add_mul_div_left _ _ hp,Nat.add_mul_mod_self_left]
  have:=Nat.mod_add_div ((x+4294967296*D) / p) 4294967296
  rw[h1,h2] at this
  exact this.symm
 ·right
  omega
theorem Um {x:Nat} (h0:x≠0) (hx:x<4294967296):∃s,s≤31∧TC 198 [uV x] (VI (s:Nat))∧x*2^s<4294967296:=by
 obtain⟨h1,h2,h3⟩:=Lib.bitLenAux_bounds 64 x (by omega) h0
 have h4:Lib.bitLenAux 64 x-1<32:=by
  have:2^(Lib.bitLenAux 64 x-1)<2^32:=by omega
  exact(Nat.pow_lt_pow_iff_right (by decide)).1 this
 refine⟨32-Lib.bitLenAux 64 x,by omega,?_,?_⟩
 ·have:=W2 x hx
  have e:(((32-Lib.bitLenAux 64 x:Nat)):Int)=32-(Lib.bitLen x:Int):=by unfold Lib.bitLen;omega
  rw[e]
  exact this
 ·have:2^Lib.bitLenAux 64 x*2^(32-Lib.bitLenAux 64 x)=4294967296:=by rw[←Nat.pow_add,show Lib.bitLenAux 64 x+(32-Lib.bitLenAux 64 x)=32 by omega]
  rw[←this]
  exact Nat.mul_lt_mul_of_pos_right h3 (Nat.pow_pos (by decide))
theorem X4 {us ws os:List Nat} {k N s w0:Nat} {ρ:dG} {Q:VQ} (hs:s≤31) (hw:2^s*w0=4294967296) (hN:us.length=N) (hk:k≤N) (Dq:N≤70368744177664) (hd:∀d∈us,d<4294967296) (g8:ρ 8=VI s) (g9:ρ 9 = .ref 0 0 0 k N) (ayL:ρ 147=VI k) (auY:ρ 148=VI 0)
  (hQ:∀(bC:dG) (Fi:List Nat),bC 9 = .ref 0 0 0 k N→bC 13=ρ 13→Fi.length=N→(∀d∈Fi,d<4294967296)→val 4294967296 (Fi.take k)=val 4294967296 (us.take k) / 2^s→Q (.exit 4) bC (H3 Fi ws os)) :
  VW ⟨true,false⟩ 0 (.loop kB) Q ρ (H3 us ws os):=by
 have hp:0<2^s:=Nat.pow_pos (by decide)
 refine aQ (fun(t:Nat×List Nat) bC H=>t.1≤k∧H=H3 t.2 ws os∧t.2.length=N∧(∀d∈t.2,d<4294967296)∧(∀j,t.1≤j→t.2[j]? = us[j]?)∧val 4294967296 (t.2.take t.1)+4294967296^t.1*(val 4294967296 ((us.take k).drop t.1) / 2^s)=val 4294967296 (us.take k) / 2^s ∧
  bC 8=VI s∧bC 9 = .ref 0 0 0 k N∧bC 13=ρ 13∧bC 147=VI k∧bC 148=VI t.1) (fun t=>k-t.1) (0,us) ⟨Nat.zero_le _,rfl,hN,hd,fun _ _=>rfl,by simp[val],g8,g9,rfl,ayL,auY⟩ ?_
 rintro⟨i,vs⟩ Ns H ⟨hi,rfl,EM,GN,Fz,hv,k8,k9,A8,amQ,agN⟩
 simp only at hi EM GN Fz hv agN
 by_cases cP:(i:Int)<(k:Int)
 ·obtain⟨x,hx⟩:∃x,us[i]? = some x:=⟨_,List.getElem?_eq_getElem (by omega)⟩
  have hx2:vs[i]? = some x:=by rw[Fz i (Nat.le_refl _)];exact hx
  have lx:=hd x (List.mem_of_getElem? hx)
  have hx3:(us.take k)[i]? = some x:=by rw[List.getElem?_take_of_lt (by omega)];exact hx
  have h1:=sL (b:=4294967296) hx3
  generalize hD:val 4294967296 ((us.take k).drop (i+1))=D at *
  have hlen:oC (.ref 0 0 0 k N) (H3 vs ws os)=some (VI k):=dR Co
  have e1:bH 1 (.ref 0 0 0 k N) (VI i) (H3 vs ws os)=some (.ptr 0 0 i 0):=by rw[aY Co (by omega),Nat.zero_add]
  have e2:cI false 1 (.ptr 0 0 i 0) (H3 vs ws os)=some (uV x):=hJ Co hx2
  have e3:∀d:Nat,bX 0 1 (.ptr 0 0 i 0) (uV d) (H3 vs ws os)=some (H3 (vs.set i d) ws os):=fun d=>by
   rw[fF (f:=uV) (e:=1) Co (by omega) (Nat.le_refl _) rfl rfl]
   rfl
  have wi:IntKind.i64.wrap ((i:Int)+1)=((i+1:Nat):Int):=wrapN (i+1) (by omega) (by omega)
  have wx:IntKind.u64.wrap (x:Int)=(x:Int):=dT _ (by omega)
  have hm:=Nat.mod_lt D (show 0<4294967296 by decide)
  have w5:=DO (D % 4294967296) .u64 hm
  have w6:IntKind.u64.wrap (((D % 4294967296*4294967296:Nat):Int)+(x:Int))=((D % 4294967296*4294967296+x:Nat):Int):=by rw[←Int.natCast_add];exact dT _ (by omega)
  have w7:=YG (D % 4294967296*4294967296+x) s hs
  have sd:(x+4294967296*D) / 2^s=((D % 4294967296*4294967296+x) / 2^s) % 4294967296+4294967296*(D / 2^s):=by
   rcases QO (x:=x) (D:=D) hp hw with h | h
   ·exact h
   ·exact absurd lx h
  have next:∃s':Nat×List Nat,k-s'.1<k-i∧s'.1≤k∧H3 (vs.set i (((D % 4294967296*4294967296+x) / 2^s) % 4294967296)) ws os=H3 s'.2 ws os∧s'.2.length=N∧(∀d∈s'.2,d<4294967296)∧(∀j,s'.1≤j→s'.2[j]? = us[j]?)∧val 4294967296 (s'.2.take s'.1)+4294967296^s'.1*(val 4294967296 ((us.take k).drop s'.1) / 2^s)=val 4294967296 (us.take k) / 2^s∧s'.1=i+1:=by
   refine⟨(i+1,vs.set i (((D % 4294967296*4294967296+x) / 2^s) % 4294967296)),by simp only;omega,by simp only;omega,rfl,by simp only[List.length_set];exact EM,lA GN (Nat.mod_lt _ (by decide)),fun j hj => ?_,?_,rfl⟩
   ·simp only at hj ⊢
    rw[List.getElem?_set_ne (by omega)]
    exact Fz j (by omega)
   ·simp only
    rw[eE (by omega),hD,←hv,h1,sd,Nat.pow_succ]
    generalize (D % 4294967296*4294967296+x) / 2^s % 4294967296=q
    generalize D / 2^s=E
    rw[Nat.mul_add,Nat.mul_assoc,Nat.add_assoc]
  obtain⟨s',n1,n2,n3,n4,n5,n6,n7,n8⟩:=next
  by_cases anZ:((i+1:Nat):Int)<(k:Int)
  ·obtain⟨h,hh⟩:∃h,us[i+1]? = some h:=⟨_,List.getElem?_eq_getElem (by omega)⟩
   have hh2:vs[i+1]? = some h:=by rw[Fz (i+1) (by omega)];exact hh
   have hhD:D % 4294967296=h:=by
    have hh3:(us.take k)[i+1]? = some h:=by rw[List.getElem?_take_of_lt (by omega)];exact hh
    have:=sL (b:=4294967296) hh3
    rw[hD] at this
    have lh:=hd h (List.mem_of_getElem? hh)
    omega
   have f1:bH 1 (.ref 0 0 0 k N) (VI ((i+1:Nat):Int)) (H3 vs ws os)=some (.ptr 0 0 (i+1) 0):=by rw[aY Co (by omega),Nat.zero_add]
   have f2:cI false 1 (.ptr 0 0 (i+1) 0) (H3 vs ws os)=some (uV h):=hJ Co hh2
   have wh:IntKind.u64.wrap (h:Int)=(h:Int):=dT _ (by omega)
   rw[hhD] at w5 w6 w7 n3
   simp only[kB,k8,k9,amQ,agN,cP,anZ,hlen,e1,e2,e3,f1,f2,wi,wx,wh,w5,w6,w7,wrap32,VX,Nat.reduceEqDiff,Nat.reduceAdd]
   exact⟨s',n1,n2,n3,n4,n5,n6,n7,A8,by rw[n8]⟩
  ·have hD0:D=0:=by
    rw[←hD,List.drop_of_length_le (by rw[List.length_take];omega)]
    rfl
   subst hD0
   have w5':dB .shl (.int .u64 0) (.int .u64 32)=some (.int .u64 0):=DO 0 .u64 (by decide)
   have w6':IntKind.u64.wrap ((0:Int)+(x:Int))=(x:Int):=by rw[Int.zero_add];exact wx
   have w7':=YG x s hs
   simp only[Nat.zero_mod,Nat.zero_mul,Nat.zero_add] at n3
   simp only[kB,k8,k9,amQ,agN,cP,anZ,hlen,e1,e2,e3,wi,wx,w5',w6',w7',wrap32,VX,Nat.reduceEqDiff,Nat.reduceAdd]
   exact⟨s',n1,n2,n3,n4,n5,n6,n7,A8,by rw[n8]⟩
 ·have nS:i=k:=by omega
  subst nS
  rw[List.drop_of_length_le (by rw[List.length_take];omega)] at hv
  simp only[val,Nat.zero_div,Nat.mul_zero,Nat.add_zero] at hv
  simp only[kB,k8,k9,amQ,agN,cP,VX,Nat.reduceEqDiff,Nat.reduceAdd]
  exact hQ _ vs k9 A8 EM GN hv
end Go.PM