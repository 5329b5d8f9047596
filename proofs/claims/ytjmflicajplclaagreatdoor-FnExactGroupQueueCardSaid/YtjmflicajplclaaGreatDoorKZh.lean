/- Texts of a claim, in one: part 8. -/
import Derived.Test.YtjmflicajplclaaGreatDoorKZg
set_option linter.unusedSimpArgs false
set_option linter.unusedVariables false
namespace Go.PM
theorem Kw {x:Int} {r:Nat} (h:x+4294967296=r) (hx:x<0) (hr:0≤x+4294967296):IntKind.u32.wrap x=(r:Int):=by rw[IntKind.wrap_u32];omega
theorem TX (n:Nat) (hn:n≤70368744177664):An [.int .u32 0] 4 (VI (n:Int)) (VI (n:Int)) []=some (.ref 0 0 0 n n,[.row 0 ((List.replicate n 0).map uV) 1 true]):=tZ (f:=uV) (x:=0) rfl (by omega) (by omega)
theorem Pz {outs:List Nat} {i d:Nat} (hi:i<outs.length):bQ 0 1 (.ptr 0 0 i 0) (uV d) [.row 0 (outs.map uV) 1 true]=some [.row 0 ((outs.set i d).map uV) 1 true]:=by
 rw[fJ (f:=uV) (e:=1) jE hi (Nat.le_refl _) rfl rfl]
 rfl
theorem Dq (a b:Nat) (FA:b≤a) (ha:(aC 4294967296 a).length≤17592186044416):TC 146 [bN a,bN b] (bN (a-b)):=by
 refine TC.walk ⟨true,false⟩ HJ rfl (Nat.le_of_ble_eq_true rfl) (by simp[aM,bR]) (qF _) ?_
 have va:=cJ (b:=4294967296) (by decide) a
 have vb:=cJ (b:=4294967296) (by decide) b
 have la:=fE (b:=4294967296) (by decide) a
 have lb:=fE (b:=4294967296) (by decide) b
 have hle:=dX (b:=4294967296) (by decide) FA
 unfold bN
 generalize aC 4294967296 a=xs at *
 generalize aC 4294967296 b=ys at *
 simp only[CW,Az,TX xs.length (by omega),VX,Nat.reduceEqDiff,Nat.reduceAdd]
 refine aT (fun(s:Nat×List Nat×Nat) ρ H=>s.1≤xs.length∧H=[.row 0 (s.2.1.map uV) 1 true]∧s.2.1.length=xs.length∧(∀d∈s.2.1,d<4294967296)∧s.2.2≤1∧val 4294967296 (xs.take s.1)+4294967296^s.1*s.2.2=val 4294967296 (s.2.1.take s.1)+val 4294967296 (ys.take s.1) ∧
  ρ 0=Au xs∧ρ 1=Au ys∧ρ 5 = .ref 0 0 0 xs.length xs.length∧ρ 6=VI s.2.2∧ρ 13=VI xs.length∧ρ 14=VI s.1) (fun s=>xs.length-s.1) (0,List.replicate xs.length 0,0) ⟨Nat.zero_le _,rfl,by simp,Af (by decide) _,by simp,by simp[val],rfl,rfl,rfl,rfl,rfl,rfl⟩ ?_
 rintro⟨i,outs,l⟩ ρ H ⟨hi,rfl,jM,lH,hc,hv,g0,g1,g5,g6,g13,g14⟩
 simp only at hi jM lH hc hv g6 g14
 by_cases dA:(i:Int)<(xs.length:Int)
 ·obtain⟨x,hx⟩:∃x,xs[i]? = some x:=⟨_,List.getElem?_eq_getElem (by omega)⟩
  have lx:=la x (List.mem_of_getElem? hx)
  have e1:=aL (f:=uV) (t := .op) (H:=[.row 0 (outs.map uV) 1 true]) (size:=1) (k := .i64) hx rfl
  have w1:IntKind.i64.wrap (x:Int)=(x:Int):=wrapN x rfl (by omega)
  have w2:IntKind.i64.wrap ((x:Int)-(l:Int))=(x:Int)-(l:Int):=wrap64 (by omega) (by omega)
  have wi:IntKind.i64.wrap ((i:Int)+1)=((i+1:Nat):Int):=wrapN (i+1) (by omega) (by omega)
  have e3:bK 1 (.ref 0 0 0 xs.length xs.length) (VI i) [.row 0 (outs.map uV) 1 true]=some (.ptr 0 0 i 0):=by rw[bD jE (by omega),Nat.zero_add]
  have e4:∀s:Nat,bQ 0 1 (.ptr 0 0 i 0) (uV s) [.row 0 (outs.map uV) 1 true]=some [.row 0 ((outs.set i s).map uV) 1 true]:=fun s=>Pz (by omega)
  have step:∀y r l':Nat,y<4294967296→r<4294967296→l'≤1→(∀d,ys[i]? = some d→d=y)→(ys.length≤i→y=0)→r+y+l=x+4294967296*l' →
    i+1≤xs.length∧(outs.set i r).length=xs.length∧(∀d∈outs.set i r,d<4294967296)∧l'≤1∧val 4294967296 (xs.take (i+1))+4294967296^(i+1)*l'=val 4294967296 ((outs.set i r).take (i+1))+val 4294967296 (ys.take (i+1)):=by
   intro y r l' _ hr BL h1 h2 hd
   refine⟨by omega,by rw[List.length_set];exact jM,lR lH hr,BL,?_⟩
   have hy:val 4294967296 (ys.take (i+1))=val 4294967296 (ys.take i)+4294967296^i*y:=by
    cases UG:ys[i]? with
    | some d=>rw[bC UG,h1 d UG]
    |
     none =>
     have hle:=List.getElem?_eq_none_iff.1 UG
     rw[h2 hle,jG hle,jG (by omega),Nat.mul_zero,Nat.add_zero]
   rw[bC hx,hy,eI (by omega),Nat.pow_succ]
   exact IB hv hd
  by_cases bH:(i:Int)<(ys.length:Int)
  ·obtain⟨y,hy⟩:∃y,ys[i]? = some y:=⟨_,List.getElem?_eq_getElem (by omega)⟩
   have ly:=lb y (List.mem_of_getElem? hy)
   have e2:=aL (f:=uV) (t := .op) (H:=[.row 0 (outs.map uV) 1 true]) (size:=1) (k := .i64) hy rfl
   have w3:IntKind.i64.wrap (y:Int)=(y:Int):=wrapN y rfl (by omega)
   have w4:IntKind.i64.wrap ((x:Int)-(l:Int)-(y:Int))=(x:Int)-(l:Int)-(y:Int):=wrap64 (by omega) (by omega)
   by_cases oV:(x:Int)-(l:Int)-(y:Int)<0
   ·obtain⟨r,hr⟩:∃r:Nat,r+y+l=x+4294967296:=⟨x+4294967296-l-y,by omega⟩
    have w5:IntKind.u32.wrap ((x:Int)-(l:Int)-(y:Int))=(r:Int):=Kw (by omega) oV (by omega)
    obtain⟨s1,s2,s3,s4,s5⟩:=step y r 1 ly (by omega) (Nat.le_refl _) (fun d hd=>by rw[hy] at hd;injection hd with hd;exact hd.symm) (fun h=>by omega) (by omega)
    simp only[iJ,g0,g1,g5,g6,g13,g14,dA,bH,oV,e1,e2,e3,e4,w1,w2,w3,w4,w5,wi,VX,Nat.reduceEqDiff,Nat.reduceAdd]
    exact⟨(i+1,outs.set i r,1),by simp only;omega,s1,rfl,s2,s3,s4,s5,by (repeat' apply And.intro)<;>first | rfl | trivial⟩
   ·obtain⟨r,hr⟩:∃r:Nat,r+y+l=x:=⟨x-l-y,by omega⟩
    have w5:IntKind.u32.wrap ((x:Int)-(l:Int)-(y:Int))=(r:Int):=by rw[IntKind.wrap_u32];omega
    obtain⟨s1,s2,s3,s4,s5⟩:=step y r 0 ly (by omega) (by omega) (fun d hd=>by rw[hy] at hd;injection hd with hd;exact hd.symm) (fun h=>by omega) (by omega)
    simp only[iJ,g0,g1,g5,g6,g13,g14,dA,bH,oV,e1,e2,e3,e4,w1,w2,w3,w4,w5,wi,VX,Nat.reduceEqDiff,Nat.reduceAdd]
    exact⟨(i+1,outs.set i r,0),by simp only;omega,s1,rfl,s2,s3,s4,s5,by (repeat' apply And.intro)<;>first | rfl | trivial⟩
  ·by_cases oV:(x:Int)-(l:Int)<0
   ·obtain⟨r,hr⟩:∃r:Nat,r+l=x+4294967296:=⟨x+4294967296-l,by omega⟩
    have w5:IntKind.u32.wrap ((x:Int)-(l:Int))=(r:Int):=Kw (by omega) oV (by omega)
    obtain⟨s1,s2,s3,s4,s5⟩:=step 0 r 1 (by decide) (by omega) (Nat.le_refl _) (fun d hd=>by have:=(List.getElem?_eq_some_iff.1 hd).1;omega) (fun _=>rfl) (by omega)
    simp only[iJ,g0,g1,g5,g6,g13,g14,dA,bH,oV,e1,e3,e4,w1,w2,w5,wi,VX,Nat.reduceEqDiff,Nat.reduceAdd]
    exact⟨(i+1,outs.set i r,1),by simp only;omega,s1,rfl,s2,s3,s4,s5,by (repeat' apply And.intro)<;>first | rfl | trivial⟩
   ·obtain⟨r,hr⟩:∃r:Nat,r+l=x:=⟨x-l,by omega⟩
    have w5:IntKind.u32.wrap ((x:Int)-(l:Int))=(r:Int):=by rw[IntKind.wrap_u32];omega
    obtain⟨s1,s2,s3,s4,s5⟩:=step 0 r 0 (by decide) (by omega) (by omega) (fun d hd=>by have:=(List.getElem?_eq_some_iff.1 hd).1;omega) (fun _=>rfl) (by omega)
    simp only[iJ,g0,g1,g5,g6,g13,g14,dA,bH,oV,e1,e3,e4,w1,w2,w5,wi,VX,Nat.reduceEqDiff,Nat.reduceAdd]
    exact⟨(i+1,outs.set i r,0),by simp only;omega,s1,rfl,s2,s3,s4,s5,by (repeat' apply And.intro)<;>first | rfl | trivial⟩
 ·have oB:i=xs.length:=by omega
  subst oB
  rw[List.take_length,List.take_of_length_le (l:=ys) hle,List.take_of_length_le (l:=outs) (by omega),va,vb] at hv
  have dL:=oF lH
  rw[jM] at dL
  have Cq:val 4294967296 outs=a-b:=by
   rcases Nat.lt_or_ge l 1 with h | h
   ·have:l=0:=by omega
    subst this
    rw[Nat.mul_zero] at hv
    omega
   ·have:l=1:=by omega
    subst this
    rw[Nat.mul_one] at hv
    omega
  simp only[iJ,g0,g1,g5,g6,g13,g14,dA,VX,Nat.reduceEqDiff,Nat.reduceAdd]
  refine rE (m:=a-b) jE (by omega) (Nat.le_refl _) (by omega) (fun d hd=>lH d (List.mem_of_mem_take hd)) (by rw[List.take_of_length_le (by omega)];exact Cq) fun k hk he => ?_
  simp only[VX,Nat.reduceEqDiff,Nat.reduceAdd]
  exact PT jE (by omega) hk he
theorem QS {P Q A B Y x c r q o y W:Nat} (Ng:A+P*Q*c=B+P*(x*Y)) (h1:r+W*q=c+(x*y+o)):A+P*Q*r+P*Q*W*q=B+P*Q*o+P*(x*(Y+Q*y)):=by
 have h2:P*Q*(r+W*q)=P*Q*(c+(x*y+o)):=by rw[h1]
 grind
theorem iF (a b:Nat) (ha:(aC 4294967296 a).length≤17592186044416) (hb:(aC 4294967296 b).length≤17592186044416):TC 143 [bN a,bN b] (bN (a*b)):=by
 refine TC.walk ⟨true,false⟩ HQ rfl (Nat.le_of_ble_eq_true rfl) (by simp[aM,bR]) (qF _) ?_
 have va:=cJ (b:=4294967296) (by decide) a
 have vb:=cJ (b:=4294967296) (by decide) b
 have la:=fE (b:=4294967296) (by decide) a
 have lb:=fE (b:=4294967296) (by decide) b
 unfold bN
 generalize aC 4294967296 a=xs at *
 generalize aC 4294967296 b=ys at *
 have w0:IntKind.i64.wrap ((xs.length:Int)+(ys.length:Int))=((xs.length+ys.length:Nat):Int):=wrapN _ (by omega) (by omega)
 simp only[CR,AU,w0,TX (xs.length+ys.length) (by omega),VX,Nat.reduceEqDiff,Nat.reduceAdd]
 generalize hN:xs.length+ys.length=N at *
 refine aT (fun(s:Nat×List Nat) ρ H=>s.1≤xs.length∧H=[.row 0 (s.2.map uV) 1 true]∧s.2.length=N∧(∀d∈s.2,d<4294967296)∧val 4294967296 (s.2.take (s.1+ys.length))=val 4294967296 (xs.take s.1)*b ∧
  ρ 0=Au xs∧ρ 1=Au ys∧ρ 5 = .ref 0 0 0 N N∧ρ 17=Au xs∧ρ 18=VI xs.length∧ρ 19=VI s.1) (fun s=>xs.length-s.1) (0,List.replicate N 0) ⟨Nat.zero_le _,rfl,by simp,Af (by decide) _,by simp[val,List.take_replicate,qW],rfl,rfl,rfl,rfl,rfl,rfl⟩ ?_
 rintro⟨i,outs⟩ ρ H ⟨hi,rfl,jM,lH,hv,g0,g1,g5,g17,g18,g19⟩
 simp only at hi jM lH hv g19
 by_cases dA:(i:Int)<(xs.length:Int)
 ·obtain⟨x,hx⟩:∃x,xs[i]? = some x:=⟨_,List.getElem?_eq_getElem (by omega)⟩
  have lx:=la x (List.mem_of_getElem? hx)
  have e1:=aL (f:=uV) (t := .op) (H:=[.row 0 (outs.map uV) 1 true]) (size:=1) (k := .i64) hx rfl
  simp only[sJ,g0,g1,g5,g17,g18,g19,dA,e1,VX,Nat.reduceEqDiff,Nat.reduceAdd]
  refine aT (fun(s:Nat×List Nat×Nat) ρ H=>s.1≤ys.length∧H=[.row 0 (s.2.1.map uV) 1 true]∧s.2.1.length=N∧(∀d∈s.2.1,d<4294967296)∧s.2.2<4294967296 ∧
   val 4294967296 (s.2.1.take (i+s.1))+4294967296^(i+s.1)*s.2.2=val 4294967296 (outs.take (i+s.1))+4294967296^i*(x*val 4294967296 (ys.take s.1))∧(∀j,i+s.1≤j→s.2.1[j]? = outs[j]?) ∧
   ρ 0=Au xs∧ρ 1=Au ys∧ρ 5 = .ref 0 0 0 N N∧ρ 6=VI i∧ρ 7=uV x∧ρ 8=VK .u64 s.2.2∧ρ 17=Au xs∧ρ 18=VI xs.length∧ρ 19=VI i∧ρ 24=Au ys∧ρ 25=VI ys.length∧ρ 26=VI s.1) (fun s=>ys.length-s.1) (0,outs,0) ⟨Nat.zero_le _,rfl,jM,lH,by simp,by simp[val],fun _ _=>rfl,by (repeat' apply And.intro)<;>first | rfl | trivial⟩ ?_
  rintro⟨k,os,c⟩ NA H ⟨hk,rfl,PJ,PG,hc,Ng,FD,k0,k1,k5,k6,k7,k8,Hk,YC,k19,k24,k25,k26⟩
  simp only at hk PJ PG hc Ng FD k8 k26
  have wi:IntKind.i64.wrap ((i:Int)+1)=((i+1:Nat):Int):=wrapN (i+1) (by omega) (by omega)
  by_cases Xy:(k:Int)<(ys.length:Int)
  ·obtain⟨y,hy⟩:∃y,ys[k]? = some y:=⟨_,List.getElem?_eq_getElem (by omega)⟩
   have ly:=lb y (List.mem_of_getElem? hy)
   obtain⟨o,ho⟩:∃o,os[i+k]? = some o:=⟨_,List.getElem?_eq_getElem (by omega)⟩
   have lo:=PG o (List.mem_of_getElem? ho)
   have ho':outs[i+k]? = some o:=by rw[←FD (i+k) (Nat.le_refl _)];exact ho
   have f1:=aL (f:=uV) (t := .op) (H:=[.row 0 (os.map uV) 1 true]) (size:=1) (k := .i64) hy rfl
   have w1:IntKind.i64.wrap ((i:Int)+(k:Int))=((i+k:Nat):Int):=wrapN _ (by omega) (by omega)
   have f2:bK 1 (.ref 0 0 0 N N) (VI ((i+k:Nat):Int)) [.row 0 (os.map uV) 1 true]=some (.ptr 0 0 (i+k) 0):=by rw[bD jE (by omega),Nat.zero_add]
   have f3:cE false 1 (.ptr 0 0 (i+k) 0) [.row 0 (os.map uV) 1 true]=some (uV o):=iO jE ho
   have f4:∀s:Nat,bQ 0 1 (.ptr 0 0 (i+k) 0) (uV s) [.row 0 (os.map uV) 1 true]=some [.row 0 ((os.set (i+k) s).map uV) 1 true]:=fun s=>Pz (by omega)
   have Ah:x*y≤4294967295*4294967295:=Nat.mul_le_mul (by omega) (by omega)
   have w2:IntKind.u64.wrap (x:Int)=(x:Int):=dW _ (by omega)
   have w3:IntKind.u64.wrap (y:Int)=(y:Int):=dW _ (by omega)
   have w4:IntKind.u64.wrap (o:Int)=(o:Int):=dW _ (by omega)
   have w5:IntKind.u64.wrap ((x:Int)*(y:Int))=((x*y:Nat):Int):=by rw[←Int.natCast_mul];exact dW _ (by omega)
   have w6:IntKind.u64.wrap (((x*y:Nat):Int)+(o:Int))=((x*y+o:Nat):Int):=by rw[←Int.natCast_add];exact dW _ (by omega)
   have w7:IntKind.u64.wrap ((c:Int)+((x*y+o:Nat):Int))=((c+(x*y+o):Nat):Int):=by rw[←Int.natCast_add];exact dW _ (by omega)
   have wk:IntKind.i64.wrap ((k:Int)+1)=((k+1:Nat):Int):=wrapN (k+1) (by omega) (by omega)
   simp only[sQ,k0,k1,k5,k6,k7,k8,Hk,YC,k19,k24,k25,k26,Xy,f1,f2,f3,f4,w1,w2,w3,w4,w5,w6,w7,wk,wrap32,nZ,VX,Nat.reduceEqDiff,Nat.reduceAdd]
   have hq:(c+(x*y+o)) / 4294967296<4294967296:=Nat.div_lt_of_lt_mul (by omega)
   refine⟨(k+1,os.set (i+k) ((c+(x*y+o)) % 4294967296),(c+(x*y+o)) / 4294967296),by simp only;omega,by omega,rfl,by rw[List.length_set];exact PJ,lR PG (Nat.mod_lt _ (by decide)),hq,?_,fun j hj => ?_,by (repeat' apply And.intro)<;>first | rfl | trivial⟩
   ·have h1:=Nat.mod_add_div (c+(x*y+o)) 4294967296
    rw[←Nat.add_assoc,eI (by omega),bC ho',bC hy,Nat.pow_succ]
    rw[Nat.pow_add] at Ng ⊢
    exact QS Ng h1
   ·rw[List.getElem?_set_ne (by omega)]
    exact FD j (by omega)
  ·have hke:k=ys.length:=by omega
   subst hke
   rw[List.take_length,vb,hv] at Ng
   have w1:IntKind.i64.wrap ((i:Int)+(ys.length:Int))=((i+ys.length:Nat):Int):=wrapN _ (by omega) (by omega)
   have f2:bK 1 (.ref 0 0 0 N N) (VI ((i+ys.length:Nat):Int)) [.row 0 (os.map uV) 1 true]=some (.ptr 0 0 (i+ys.length) 0):=by rw[bD jE (by omega),Nat.zero_add]
   have f4:∀s:Nat,bQ 0 1 (.ptr 0 0 (i+ys.length) 0) (uV s) [.row 0 (os.map uV) 1 true]=some [.row 0 ((os.set (i+ys.length) s).map uV) 1 true]:=fun s=>Pz (by omega)
   simp only[sQ,k0,k1,k5,k6,k7,k8,Hk,YC,k19,k24,k25,k26,Xy,f2,f4,w1,wi,wrap32,VX,Nat.reduceEqDiff,Nat.reduceAdd]
   refine⟨(i+1,os.set (i+ys.length) (c % 4294967296)),by simp only;omega,by omega,rfl,by rw[List.length_set];exact PJ,lR PG (Nat.mod_lt _ (by decide)),?_,by (repeat' apply And.intro)<;>first | rfl | trivial⟩
   rw[show i+1+ys.length=i+ys.length+1 by omega,eI (by omega),Nat.mod_eq_of_lt hc,Ng,bC hx,Nat.add_mul,Nat.mul_assoc]
 ·have oB:i=xs.length:=by omega
  subst oB
  rw[hN,List.take_length,va,List.take_of_length_le (by omega)] at hv
  simp only[sJ,g0,g1,g5,g17,g18,g19,dA,VX,Nat.reduceEqDiff,Nat.reduceAdd]
  refine rE (m:=a*b) jE (by omega) (Nat.le_refl _) (by omega) (fun d hd=>lH d (List.mem_of_mem_take hd)) (by rw[List.take_of_length_le (by omega)];exact hv) fun k hk he => ?_
  simp only[VX,Nat.reduceEqDiff,Nat.reduceAdd]
  exact PT jE (by omega) hk he
end Go.PM
namespace Go.PM
theorem set_drop {xs:List Nat} {i d:Nat} (h:i<xs.length):(xs.set i d).drop i=d::xs.drop (i+1):=by
 rw[List.drop_eq_getElem_cons (by rw[List.length_set];exact h),List.getElem_set_self,MZ h]
theorem Vr (n k:Nat) (hn:n≤70368744177664) {H:aA}:An [.int .u32 0] 4 (VI (n:Int)) (VI (n:Int)) H=some (.ref H.length 0 0 n n,H++[.row 0 ((List.replicate n 0).map uV) 1 true]):=tZ (f:=uV) (x:=0) rfl (by omega) (by omega)
theorem RA {A q t r x d W:Nat} (h1:t+d*q=r*W+x):(q+W*A)*d+t=x+W*(A*d+r):=by grind
theorem Uh {A B P S W c m x q:Nat} (hv:A+P*c=B*S) (h1:m*S+W*q=x*S):A+P*(c+m*S)+P*W*q=(B+P*x)*S:=by
 have h2:P*(m*S+W*q)=P*(x*S):=by rw[h1]
 grind
theorem vS (a d:Nat) (Ds:0<d) (hdW:d<4294967296) (ha:(aC 4294967296 a).length≤17592186044416):TC 197 [bN a,uV d] (.eX [bN (a / d),uV (a % d)]):=by
 refine TC.walk ⟨true,false⟩ Co rfl (Nat.le_of_ble_eq_true rfl) (by simp[aM,bR,aP,kC]) (by simp[iD,pY,qF,kC]) ?_
 have va:=cJ (b:=4294967296) (by decide) a
 have la:=fE (b:=4294967296) (by decide) a
 unfold bN
 generalize aC 4294967296 a=xs at *
 have w0:IntKind.i64.wrap ((xs.length:Int)-1)=(xs.length:Int)-1:=wrap64 (by omega) (by omega)
 have wd:IntKind.u64.wrap (d:Int)=(d:Int):=dW _ (by omega)
 simp only[vO,tC,w0,TX xs.length (by omega),VX,Nat.reduceEqDiff,Nat.reduceAdd]
 refine aT (fun(s:Nat×List Nat×Nat) ρ H=>s.1≤xs.length∧H=[.row 0 (s.2.1.map uV) 1 true]∧s.2.1.length=xs.length∧(∀d∈s.2.1,d<4294967296)∧s.2.2<d∧val 4294967296 (s.2.1.drop s.1)*d+s.2.2=val 4294967296 (xs.drop s.1) ∧
  ρ 0=Au xs∧ρ 1=uV d∧ρ 6 = .ref 0 0 0 xs.length xs.length∧ρ 7=VK .u64 s.2.2∧ρ 8=VI ((s.1:Int)-1)) (fun s=>s.1) (xs.length,List.replicate xs.length 0,0) ⟨Nat.le_refl _,rfl,by simp,Af (by decide) _,Ds,by simp[val,List.drop_replicate],rfl,rfl,rfl,rfl,rfl⟩ ?_
 rintro⟨j,outs,r⟩ ρ H ⟨hj,rfl,jM,lH,hr,hv,g0,g1,g6,g7,g8⟩
 simp only at hj jM lH hr hv g7 g8
 by_cases hz:(0:Int)≤(j:Int)-1
 ·obtain⟨i,rfl⟩:∃i,j=i+1:=⟨j-1,by omega⟩
  obtain⟨x,hx⟩:∃x,xs[i]? = some x:=⟨_,List.getElem?_eq_getElem (by omega)⟩
  have lx:=la x (List.mem_of_getElem? hx)
  have Ht:((i+1:Nat):Int)-1=(i:Int):=by omega
  rw[Ht] at g8 hz
  have e1:=aL (f:=uV) (t := .op) (H:=[.row 0 (outs.map uV) 1 true]) (size:=1) (k := .i64) hx rfl
  have e3:bK 1 (.ref 0 0 0 xs.length xs.length) (VI i) [.row 0 (outs.map uV) 1 true]=some (.ptr 0 0 i 0):=by rw[bD jE (by omega),Nat.zero_add]
  have e4:∀s:Nat,bQ 0 1 (.ptr 0 0 i 0) (uV s) [.row 0 (outs.map uV) 1 true]=some [.row 0 ((outs.set i s).map uV) 1 true]:=fun s=>Pz (by omega)
  have w2:IntKind.i64.wrap ((i:Int)-1)=(i:Int)-1:=wrap64 (by omega) (by omega)
  have w3:IntKind.u64.wrap (x:Int)=(x:Int):=dW _ (by omega)
  have w4:IntKind.u64.wrap (((r*4294967296:Nat):Int)+(x:Int))=((r*4294967296+x:Nat):Int):=by rw[←Int.natCast_add];exact dW _ (by omega)
  have w5:=DQ r .u64 (by omega)
  have q1:=UT (r*4294967296+x) d (by omega) Ds
  have q2:=P0 (r*4294967296+x) d Ds
  have hq:(r*4294967296+x) / d<4294967296:=by
   rw[Nat.div_lt_iff_lt_mul Ds]
   have:(r+1)*4294967296≤d*4294967296:=Nat.mul_le_mul_right _ hr
   rw[Nat.mul_comm 4294967296 d]
   omega
  simp only[mE,g0,g1,g6,g7,g8,hz,e1,e3,e4,w2,w3,w4,w5,wd,q1,q2,wrap32,Nat.mod_eq_of_lt hq,VX,Nat.reduceEqDiff,Nat.reduceAdd]
  refine⟨(i,outs.set i ((r*4294967296+x) / d),(r*4294967296+x) % d),by simp only;omega,by omega,rfl,by rw[List.length_set];exact jM,lR lH hq,Nat.mod_lt _ Ds,?_,by (repeat' apply And.intro)<;>first | rfl | trivial⟩
  have h1:=Nat.mod_add_div (r*4294967296+x) d
  rw[set_drop (by omega),sD,rN hx,←hv]
  exact RA h1
 ·have Um:j=0:=by omega
  subst Um
  rw[List.drop_zero,List.drop_zero,va] at hv
  have h1:a / d=val 4294967296 outs:=by
   rw[←hv,Nat.mul_comm,Nat.mul_add_div Ds,Nat.div_eq_of_lt hr,Nat.add_zero]
  have h2:a % d=r:=by
   rw[←hv,Nat.mul_comm,Nat.mul_add_mod,Nat.mod_eq_of_lt hr]
  simp only[mE,g0,g1,g6,g7,g8,hz,VX,Nat.reduceEqDiff,Nat.reduceAdd]
  refine rE (m:=a / d) jE (by omega) (Nat.le_refl _) (by omega) (fun d hd=>lH d (List.mem_of_mem_take hd)) (by rw[List.take_of_length_le (by omega)];exact h1.symm) fun k hk he => ?_
  simp only[wrap32,Nat.mod_eq_of_lt (show r<4294967296 by omega),g7,VX,Nat.reduceEqDiff,Nat.reduceAdd]
  rw[h2]
  exact bT (d:=6) (JZ (d:=5) jE (by omega) hk he) (aJ rfl)
theorem FR {n g e:Nat} {es:List VV} {w:Bool}:aH (List.replicate n cG.dead++[.row g es e w]) n g=some (es,e,w):=by rw[zI];exact aS
theorem awH {n:Nat} (xs:List Nat):oA n (xs.map uV)=true:=by
 rw[Dt]
 intro x hx
 obtain⟨y,_,rfl⟩:=List.mem_map.1 hx
 rfl
theorem yG (a s:Nat) (hs:s≤31) (ha:(aC 4294967296 a).length≤17592186044416):FC 199 [bN a,VI s] fun n r L=>∃outs:List Nat,r = .ref n 0 0 ((aC 4294967296 a).length+1) ((aC 4294967296 a).length+1)∧L=[.row 0 (outs.map uV) 1 true]∧outs.length=(aC 4294967296 a).length+1∧(∀d∈outs,d<4294967296)∧val 4294967296 outs=a*2^s∧(∀d,outs[(aC 4294967296 a).length]? = some d→d<2^s):=by
 refine FC.walk ⟨true,false⟩ CP (Nat.le_of_ble_eq_true rfl) fun n => ?_
 have va:=cJ (b:=4294967296) (by decide) a
 have la:=fE (b:=4294967296) (by decide) a
 unfold bN
 generalize aC 4294967296 a=xs at *
 have hS:0<2^s:=Nat.pow_pos (by decide)
 have hSW:2^s*2^(32-s)=4294967296:=by rw[←Nat.pow_add,show s+(32-s)=32 by omega]
 have w0:IntKind.i64.wrap ((xs.length:Int)+1)=((xs.length+1:Nat):Int):=wrapN _ (by omega) (by omega)
 simp only[xY,uN,w0,Vr (xs.length+1) n (by omega),List.length_replicate,VX,Nat.reduceEqDiff,Nat.reduceAdd]
 refine aT (fun(t:Nat×List Nat×Nat) ρ H=>t.1≤xs.length∧H=List.replicate n .dead++[.row 0 (t.2.1.map uV) 1 true]∧t.2.1.length=xs.length+1∧(∀d∈t.2.1,d<4294967296)∧t.2.1[t.1]? = some t.2.2∧t.2.2<2^s∧val 4294967296 (t.2.1.take t.1)+4294967296^t.1*t.2.2=val 4294967296 (xs.take t.1)*2^s ∧
  ρ 1=VI s∧ρ 5 = .ref n 0 0 (xs.length+1) (xs.length+1)∧ρ 13=Au xs∧ρ 14=VI xs.length∧ρ 15=VI t.1) (fun t=>xs.length-t.1) (0,List.replicate (xs.length+1) 0,0) ⟨Nat.zero_le _,rfl,by simp,Af (by decide) _,by simp,hS,by simp[val],rfl,rfl,rfl,rfl,rfl⟩ ?_
 rintro⟨i,outs,c⟩ ρ H ⟨hi,rfl,jM,lH,hoc,hc,hv,g1,g5,g13,g14,g15⟩
 simp only at hi jM lH hoc hc hv g15
 by_cases dA:(i:Int)<(xs.length:Int)
 ·obtain⟨x,hx⟩:∃x,xs[i]? = some x:=⟨_,List.getElem?_eq_getElem (by omega)⟩
  have lx:=la x (List.mem_of_getElem? hx)
  have e1:=aL (f:=uV) (t := .op) (H:=List.replicate n .dead++[.row 0 (outs.map uV) 1 true]) (size:=1) (k := .i64) hx rfl
  have wx:IntKind.u64.wrap (x:Int)=(x:Int):=dW _ (by omega)
  have wi:IntKind.i64.wrap ((i:Int)+1)=((i+1:Nat):Int):=wrapN (i+1) (by omega) (by omega)
  have w5:=akK x s lx hs
  obtain⟨m,hm⟩:∃m,(x*2^s) % 4294967296=m*2^s:=by
   refine⟨x % 2^(32-s),?_⟩
   rw[←hSW,Nat.mul_comm x,Nat.mul_mod_mul_left,Nat.mul_comm]
  have hhi:(x*2^s) / 4294967296<2^s:=by
   rw[Nat.div_lt_iff_lt_mul (by decide),Nat.mul_comm (2^s)]
   exact Nat.mul_lt_mul_of_pos_right lx hS
  have bH:(x*2^s) % 4294967296<4294967296:=Nat.mod_lt _ (by decide)
  have hmm:m<2^(32-s):=by
   have:m*2^s<2^(32-s)*2^s:=by rw[←hm,Nat.mul_comm (2^(32-s)) (2^s),hSW];exact bH
   exact Nat.lt_of_mul_lt_mul_right this
  have auN:m*2^s+c<4294967296:=by
   have:(m+1)*2^s≤2^(32-s)*2^s:=Nat.mul_le_mul_right _ hmm
   rw[Nat.mul_comm (2^(32-s)),hSW,Nat.add_mul] at this
   omega
  have or1:=alT c m s hc auN
  have e3:bK 1 (.ref n 0 0 (xs.length+1) (xs.length+1)) (VI i) (List.replicate n .dead++[.row 0 (outs.map uV) 1 true])=some (.ptr n 0 i 0):=by rw[bD FR (by omega),Nat.zero_add]
  have e4:cE false 1 (.ptr n 0 i 0) (List.replicate n .dead++[.row 0 (outs.map uV) 1 true])=some (uV c):=iO FR hoc
  have e5:∀(os:List Nat) (j t:Nat),j<os.length→bQ n 1 (.ptr n 0 j 0) (uV t) (List.replicate n .dead++[.row 0 (os.map uV) 1 true])=some (List.replicate n .dead++[.row 0 ((os.set j t).map uV) 1 true]):=fun os j t hj=>by
   rw[fJ (f:=uV) (e:=1) FR hj (Nat.le_refl _) rfl rfl,Bl]
   rfl
  have e6:bK 1 (.ref n 0 0 (xs.length+1) (xs.length+1)) (VI ((i+1:Nat):Int)) (List.replicate n .dead++[.row 0 ((outs.set i (c+m*2^s)).map uV) 1 true])=some (.ptr n 0 (i+1) 0):=by rw[bD FR (by omega),Nat.zero_add]
  have e7:=e5 outs i (c+m*2^s) (by omega)
  have e8:=e5 (outs.set i (c+m*2^s)) (i+1) ((x*2^s) / 4294967296) (by rw[List.length_set];omega)
  have hq:(x*2^s) / 4294967296 % 4294967296=(x*2^s) / 4294967296:=Nat.mod_eq_of_lt (by
   have:2^s≤2^31:=Nat.pow_le_pow_right (by decide) hs
   omega)
  simp only[nN,g1,g5,g13,g14,g15,dA,e1,e3,e4,e6,e7,e8,wx,wi,w5,wrap32,nZ,hm,or1,hq,VX,Nat.reduceEqDiff,Nat.reduceAdd]
  refine⟨(i+1,(outs.set i (c+m*2^s)).set (i+1) ((x*2^s) / 4294967296),(x*2^s) / 4294967296),by simp only;omega,by omega,rfl,by rw[List.length_set,List.length_set];exact jM,
   lR (lR lH (by omega)) (by
    have:2^s≤2^31:=Nat.pow_le_pow_right (by decide) hs
    omega),by rw[List.getElem?_set_self (by rw[List.length_set];omega)],hhi,?_,by (repeat' apply And.intro)<;>first | rfl | trivial⟩
  rw[List.take_set_of_le (Nat.le_refl _),eI (by omega),bC hx,Nat.pow_succ]
  have h1:=Nat.mod_add_div (x*2^s) 4294967296
  rw[hm] at h1
  exact Uh hv h1
 ·have oB:i=xs.length:=by omega
  subst oB
  rw[List.take_length,va] at hv
  have Cq:val 4294967296 outs=a*2^s:=by
   have h1:=bC (b:=4294967296) hoc
   rw[List.take_of_length_le (by omega)] at h1
   rw[h1]
   exact hv
  simp only[nN,g1,g5,g13,g14,g15,dA,VX,Nat.reduceEqDiff,Nat.reduceAdd]
  exact⟨_,rfl,by simp[fB],by simp[eK,awH outs],outs,rfl,jM,lH,Cq,fun d hd=>by rw[hoc] at hd;injection hd with hd;omega⟩
end Go.PM
namespace Go.PM
theorem O9 (n:Nat) (hn:n≤35184372088832):An [.int .i64 0] 8 (VI (n:Int)) (VI (n:Int)) []=some (.ref 0 0 0 n n,[.row 0 ((List.replicate n 0).map tV) 1 true]):=tZ (f:=tV) (x:=0) rfl (by omega) (by omega)
theorem P8 {outs:List Nat} {i d:Nat} (hi:i<outs.length):bQ 0 1 (.ptr 0 0 i 0) (VI (d:Int)) [.row 0 (outs.map tV) 1 true]=some [.row 0 ((outs.set i d).map tV) 1 true]:=by
 rw[show VI (d:Int)=tV d from rfl,fJ (f:=tV) (e:=1) JY hi (Nat.le_refl _) rfl rfl]
 rfl
theorem Lg {b g:Nat} {rows:List Nat} {w:Bool} {H:aA} {j d:Nat} (hr:aH H b g=some (rows.map tV,1,w)) (hj:rows[j]? = some d):cE false 1 (.ptr b g j 0) H=some (VI (d:Int)):=pD hr hj
theorem adT {n i:Nat} {outs:List Nat} (h:i<n):bK 1 (.ref 0 0 0 n n) (VI (i:Int)) [.row 0 (outs.map tV) 1 true]=some (.ptr 0 0 i 0):=by rw[bD JY h,Nat.zero_add]
theorem wr {x:Int} (n:Nat) (h:x=n) (hn:n≤9223372036854775807):IntKind.i64.wrap x=(n:Int):=wrapN n h hn
theorem yX (a b:Nat) (FA:b≤a) (ha:(aC 1000000000 a).length≤17592186044416):TC 156 [bY a,bY b] (bY (a-b)):=by
 refine TC.walk ⟨true,false⟩ Gq rfl (Nat.le_of_ble_eq_true rfl) (by simp[aM,cI]) (nE _) ?_
 have hle:=dX (b:=1000000000) (by decide) FA
 simp only[B0,zH,Ke,cN,VX,Nat.reduceEqDiff,Nat.reduceAdd]
 refine aT (fun(s:Nat×List Nat×Nat) ρ H=>s.1=s.2.1.length∧s.1≤(aC 1000000000 a).length∧H=[.row s.2.1.length (s.2.1.map tV) 1 true]∧(∀d∈s.2.1,d<1000000000)∧s.2.2≤1∧val 1000000000 ((aC 1000000000 a).take s.1)+1000000000^s.1*s.2.2=val 1000000000 s.2.1+val 1000000000 ((aC 1000000000 b).take s.1) ∧
  ρ 0=bY a∧ρ 1=bY b∧ρ 5 = .ref 0 s.2.1.length 0 s.2.1.length s.2.1.length∧ρ 6=VI s.2.2∧ρ 11=VI (aC 1000000000 a).length∧ρ 12=VI s.1) (fun s=>(aC 1000000000 a).length-s.1) (0,[],0) ⟨rfl,Nat.zero_le _,rfl,by simp,by simp,by simp[val],rfl,rfl,rfl,rfl,rfl,rfl⟩ ?_
 rintro⟨i,outs,l⟩ ρ H ⟨hi,J1,rfl,lH,hc,hv,g0,g1,g5,g6,g11,g12⟩
 simp only at hi J1 lH hc hv g5 g6 g12
 by_cases dA:(i:Int)<((aC 1000000000 a).length:Int)
 ·have hx:=KI (b:=1000000000) (by decide) (n:=a) (i:=i) (by omega)
  have e1:bK 1 (bY a) (VI i) [.row outs.length (outs.map tV) 1 true]=some (.cU (tV (a / 1000000000^i % 1000000000)) 0):=aL (f:=tV) (t := .op) (size:=1) (k := .i64) hx rfl
  have c2:=CZ b i
  have t1:=EL (b:=1000000000) (aC 1000000000 a) i
  have t2:=EL (b:=1000000000) (aC 1000000000 b) i
  rw[Hg (by decide)] at t1 t2
  have lx:=Nat.mod_lt (a / 1000000000^i) (show 0<1000000000 by decide)
  have ly:=Nat.mod_lt (b / 1000000000^i) (show 0<1000000000 by decide)
  generalize a / 1000000000^i % 1000000000=x at *
  generalize b / 1000000000^i % 1000000000=y at *
  have wi:IntKind.i64.wrap ((i:Int)+1)=((i+1:Nat):Int):=wrapN (i+1) (by omega) (by omega)
  have w1:IntKind.i64.wrap ((x:Int)-(y:Int))=(x:Int)-(y:Int):=wrap64 (by omega) (by omega)
  have w2:IntKind.i64.wrap ((x:Int)-(y:Int)-(l:Int))=(x:Int)-(y:Int)-(l:Int):=wrap64 (by omega) (by omega)
  have step:∀r l':Nat,r<1000000000→l'≤1→r+y+l=x+1000000000*l'→(∀d∈outs++[r],d<1000000000)∧val 1000000000 ((aC 1000000000 a).take (i+1))+1000000000^(i+1)*l'=val 1000000000 (outs++[r])+val 1000000000 ((aC 1000000000 b).take (i+1)):=by
   intro r l' hr _ hd
   refine⟨fun d h => ?_,?_⟩
   ·rcases List.mem_append.1 h with h | h
    ·exact lH d h
    ·rw[List.mem_singleton.1 h];exact hr
   ·rw[t1,t2,rY,←hi,Nat.pow_succ]
    exact IB hv hd
  by_cases oV:(x:Int)-(y:Int)-(l:Int)<0
  ·obtain⟨r,hr⟩:∃r:Nat,r+y+l=x+1000000000:=⟨x+1000000000-l-y,by omega⟩
   have w3:IntKind.i64.wrap ((x:Int)-(y:Int)-(l:Int)+1000000000)=(r:Int):=wrapN r (by omega) (by omega)
   obtain⟨s1,s2⟩:=step r 1 (by omega) (Nat.le_refl _) (by omega)
   have a1:=afX (ds:=outs) (d:=r) (by omega)
   simp only[mI,g0,g1,g5,g6,g11,g12,dA,e1,c2,w1,w2,w3,wi,oV,sG,uR,a1,VX,Nat.reduceEqDiff,Nat.reduceAdd]
   refine⟨(i+1,outs++[r],1),by simp only;omega,by simp;omega,by simp only;omega,by simp,s1,Nat.le_refl _,s2,?_⟩
   simp only[List.length_append,List.length_singleton]
   try (repeat' apply And.intro)<;>first | rfl | trivial
  ·obtain⟨r,hr⟩:∃r:Nat,r+y+l=x:=⟨x-l-y,by omega⟩
   obtain⟨s1,s2⟩:=step r 0 (by omega) (by omega) (by omega)
   have er:(x:Int)-(y:Int)-(l:Int)=(r:Int):=by omega
   have a1:=afX (ds:=outs) (d:=r) (by omega)
   have w3:IntKind.i64.wrap ((x:Int)-(y:Int)-(l:Int))=(r:Int):=wrapN r er (by omega)
   have uK:¬(r:Int)<0:=by omega
   simp only[mI,g0,g1,g5,g6,g11,g12,dA,e1,c2,w1,w3,wi,uK,sG,uR,a1,VX,Nat.reduceEqDiff,Nat.reduceAdd]
   refine⟨(i+1,outs++[r],0),by simp only;omega,by simp;omega,by simp only;omega,by simp,s1,Nat.zero_le _,s2,?_⟩
   simp only[List.length_append,List.length_singleton]
   try (repeat' apply And.intro)<;>first | rfl | trivial
 ·have oB:i=(aC 1000000000 a).length:=by omega
  rw[oB,List.take_length,List.take_of_length_le (l:=aC 1000000000 b) hle,cJ (by decide),cJ (by decide)] at hv
  have dL:=oF lH
  rw[←hi,oB] at dL
  have Cq:val 1000000000 outs=a-b:=by
   rcases Nat.lt_or_ge l 1 with h | h
   ·have:l=0:=by omega
    subst this
    rw[Nat.mul_zero] at hv
    omega
   ·have:l=1:=by omega
    subst this
    rw[Nat.mul_one] at hv
    omega
  simp only[mI,g0,g1,g5,g6,g11,g12,dA,VX,Nat.reduceEqDiff,Nat.reduceAdd]
  refine Ii lH rfl (by omega) Cq ?_
  simp only[VX,Nat.reduceEqDiff,Nat.reduceAdd]
  exact St _
theorem gU (a b:Nat) (ha:(aC 1000000000 a).length≤17592186044416) (hb:(aC 1000000000 b).length≤17592186044416):TC 152 [bY a,bY b] (bY (a*b)):=by
 refine TC.walk ⟨true,false⟩ Ia rfl (Nat.le_of_ble_eq_true rfl) (by simp[aM,cI]) (nE _) ?_
 have va:=cJ (b:=1000000000) (by decide) a
 have vb:=cJ (b:=1000000000) (by decide) b
 have la:=fE (b:=1000000000) (by decide) a
 have lb:=fE (b:=1000000000) (by decide) b
 unfold bY
 generalize aC 1000000000 a=xs at *
 generalize aC 1000000000 b=ys at *
 have w0:IntKind.i64.wrap ((xs.length:Int)+(ys.length:Int))=((xs.length+ys.length:Nat):Int):=wrapN _ (by omega) (by omega)
 simp only[C5,AG,dV,w0,O9 (xs.length+ys.length) (by omega),VX,Nat.reduceEqDiff,Nat.reduceAdd]
 generalize hN:xs.length+ys.length=N at *
 refine aT (fun(s:Nat×List Nat) ρ H=>s.1≤xs.length∧H=[.row 0 (s.2.map tV) 1 true]∧s.2.length=N∧(∀d∈s.2,d<1000000000)∧val 1000000000 (s.2.take (s.1+ys.length))=val 1000000000 (xs.take s.1)*b∧(∀j,s.1+ys.length≤j→j<N→s.2[j]? = some 0) ∧
  ρ 0=iA xs∧ρ 1=iA ys∧ρ 5 = .ref 0 0 0 N N∧ρ 17=VI xs.length∧ρ 18=VI s.1) (fun s=>xs.length-s.1) (0,List.replicate N 0) ⟨Nat.zero_le _,rfl,by simp,Af (by decide) _,by simp[val,List.take_replicate,qW],fun j _ h=>by simp[List.getElem?_replicate,h],rfl,rfl,rfl,rfl,rfl⟩ ?_
 rintro⟨i,outs⟩ ρ H ⟨hi,rfl,jM,lH,hv,hzr,g0,g1,g5,g17,g18⟩
 simp only at hi jM lH hv hzr g18
 by_cases dA:(i:Int)<(xs.length:Int)
 ·obtain⟨x,hx⟩:∃x,xs[i]? = some x:=⟨_,List.getElem?_eq_getElem (by omega)⟩
  have lx:=la x (List.mem_of_getElem? hx)
  have e1:∀os:List Nat,bK 1 (iA xs) (VI i) [.row 0 (os.map tV) 1 true]=some (.cU (tV x) 0):=fun os=>aL (f:=tV) (t := .op) (size:=1) (k := .i64) hx rfl
  simp only[sM,g0,g1,g5,g17,g18,dA,dV,VX,Nat.reduceEqDiff,Nat.reduceAdd]
  refine aT (fun(s:Nat×List Nat×Nat) ρ H=>s.1≤ys.length∧H=[.row 0 (s.2.1.map tV) 1 true]∧s.2.1.length=N∧(∀d∈s.2.1,d<1000000000)∧s.2.2<1000000000 ∧
   val 1000000000 (s.2.1.take (i+s.1))+1000000000^(i+s.1)*s.2.2=val 1000000000 (outs.take (i+s.1))+1000000000^i*(x*val 1000000000 (ys.take s.1))∧(∀j,i+s.1≤j→s.2.1[j]? = outs[j]?) ∧
   ρ 0=iA xs∧ρ 1=iA ys∧ρ 5 = .ref 0 0 0 N N∧ρ 6=VI i∧ρ 7=VI s.2.2∧ρ 17=VI xs.length∧ρ 18=VI i∧ρ 22=VI ys.length∧ρ 23=VI s.1) (fun s=>ys.length-s.1) (0,outs,0) ⟨Nat.zero_le _,rfl,jM,lH,by simp,by simp[val],fun _ _=>rfl,by (repeat' apply And.intro)<;>first | rfl | trivial⟩ ?_
  rintro⟨k,os,c⟩ NA H ⟨hk,rfl,PJ,PG,hc,Ng,FD,k0,k1,k5,k6,k7,Hk,YC,k22,k23⟩
  simp only at hk PJ PG hc Ng FD k7 k23
  have wi:IntKind.i64.wrap ((i:Int)+1)=((i+1:Nat):Int):=wrapN (i+1) (by omega) (by omega)
  by_cases Xy:(k:Int)<(ys.length:Int)
  ·obtain⟨y,hy⟩:∃y,ys[k]? = some y:=⟨_,List.getElem?_eq_getElem (by omega)⟩
   have ly:=lb y (List.mem_of_getElem? hy)
   obtain⟨o,ho⟩:∃o,os[i+k]? = some o:=⟨_,List.getElem?_eq_getElem (by omega)⟩
   have lo:=PG o (List.mem_of_getElem? ho)
   have ho':outs[i+k]? = some o:=by rw[←FD (i+k) (Nat.le_refl _)];exact ho
   have f1:bK 1 (iA ys) (VI k) [.row 0 (os.map tV) 1 true]=some (.cU (tV y) 0):=aL (f:=tV) (t := .op) (size:=1) (k := .i64) hy rfl
   have w1:IntKind.i64.wrap ((i:Int)+(k:Int))=((i+k:Nat):Int):=wrapN _ (by omega) (by omega)
   have f2:bK 1 (.ref 0 0 0 N N) (VI ((i+k:Nat):Int)) [.row 0 (os.map tV) 1 true]=some (.ptr 0 0 (i+k) 0):=adT (by omega)
   have f3:cE false 1 (.ptr 0 0 (i+k) 0) [.row 0 (os.map tV) 1 true]=some (VI (o:Int)):=Lg JY ho
   have f4:∀s:Nat,bQ 0 1 (.ptr 0 0 (i+k) 0) (VI (s:Int)) [.row 0 (os.map tV) 1 true]=some [.row 0 ((os.set (i+k) s).map tV) 1 true]:=fun s=>P8 (by omega)
   have Ah:x*y≤999999999*999999999:=Nat.mul_le_mul (by omega) (by omega)
   have w5:IntKind.i64.wrap ((x:Int)*(y:Int))=((x*y:Nat):Int):=wrapN _ (by simp) (by omega)
   have w6:IntKind.i64.wrap ((o:Int)+((x*y:Nat):Int))=((o+x*y:Nat):Int):=wrapN _ (by omega) (by omega)
   have w7:IntKind.i64.wrap (((o+x*y:Nat):Int)+(c:Int))=((o+x*y+c:Nat):Int):=wrapN _ (by omega) (by omega)
   have wk:IntKind.i64.wrap ((k:Int)+1)=((k+1:Nat):Int):=wrapN (k+1) (by omega) (by omega)
   have r1:=Ot (o+x*y+c)
   have q1:=NF (o+x*y+c) (by omega)
   simp only[rO,k0,k1,k5,k6,k7,Hk,YC,k22,k23,Xy,e1,f1,f2,f3,f4,w1,w5,w6,w7,wk,r1,q1,VX,Nat.reduceEqDiff,Nat.reduceAdd]
   have hq:(o+x*y+c) / 1000000000<1000000000:=Nat.div_lt_of_lt_mul (by omega)
   refine⟨(k+1,os.set (i+k) ((o+x*y+c) % 1000000000),(o+x*y+c) / 1000000000),by simp only;omega,by omega,rfl,by rw[List.length_set];exact PJ,lR PG (Nat.mod_lt _ (by decide)),hq,?_,fun j hj => ?_,by (repeat' apply And.intro)<;>first | rfl | trivial⟩
   ·have h1:=Nat.mod_add_div (o+x*y+c) 1000000000
    rw[show o+x*y+c=c+(x*y+o) by omega] at h1 ⊢
    rw[←Nat.add_assoc,eI (by omega),bC ho',bC hy,Nat.pow_succ]
    rw[Nat.pow_add] at Ng ⊢
    exact QS Ng h1
   ·rw[List.getElem?_set_ne (by omega)]
    exact FD j (by omega)
  ·have hke:k=ys.length:=by omega
   subst hke
   rw[List.take_length,vb,hv] at Ng
   have w1:IntKind.i64.wrap ((i:Int)+(ys.length:Int))=((i+ys.length:Nat):Int):=wrapN _ (by omega) (by omega)
   have D8:os[i+ys.length]? = some 0:=by rw[FD _ (Nat.le_refl _)];exact hzr _ (Nat.le_refl _) (by omega)
   have f2:bK 1 (.ref 0 0 0 N N) (VI ((i+ys.length:Nat):Int)) [.row 0 (os.map tV) 1 true]=some (.ptr 0 0 (i+ys.length) 0):=adT (by omega)
   have f3:cE false 1 (.ptr 0 0 (i+ys.length) 0) [.row 0 (os.map tV) 1 true]=some (VI ((0:Nat):Int)):=Lg JY D8
   have f4:∀s:Nat,bQ 0 1 (.ptr 0 0 (i+ys.length) 0) (VI (s:Int)) [.row 0 (os.map tV) 1 true]=some [.row 0 ((os.set (i+ys.length) s).map tV) 1 true]:=fun s=>P8 (by omega)
   have w2:IntKind.i64.wrap (((0:Nat):Int)+(c:Int))=(c:Int):=wrapN _ (by omega) (by omega)
   simp only[rO,k0,k1,k5,k6,k7,Hk,YC,k22,k23,Xy,dV,f2,f3,f4,w1,w2,wi,VX,Nat.reduceEqDiff,Nat.reduceAdd]
   refine⟨(i+1,os.set (i+ys.length) c),by simp only;omega,by omega,rfl,by rw[List.length_set];exact PJ,lR PG hc,?_,fun j hj YA => ?_,by (repeat' apply And.intro)<;>first | rfl | trivial⟩
   ·rw[show i+1+ys.length=i+ys.length+1 by omega,eI (by omega),Ng,bC hx,Nat.add_mul,Nat.mul_assoc]
   ·rw[List.getElem?_set_ne (by omega),FD j (by omega)]
    exact hzr j (by omega) YA
 ·have oB:i=xs.length:=by omega
  subst oB
  rw[hN,List.take_length,va,List.take_of_length_le (by omega)] at hv
  simp only[sM,g0,g1,g5,g17,g18,dA,VX,Nat.reduceEqDiff,Nat.reduceAdd]
  refine Ii (m:=a*b) lH jM.symm (by omega) hv ?_
  simp only[VX,Nat.reduceEqDiff,Nat.reduceAdd]
  exact St _
theorem Ce (a:Nat) (ha:(aC 1000000000 a).length≤17592186044416):TC 201 [bY a] (if (aC 1000000000 a).length≤2 then .eX [VI a,VB true] else .eX [VI 0,VB false]):=by
 refine TC.walk ⟨true,false⟩ Jw rfl (Nat.le_of_ble_eq_true rfl) (by simp[aM,cI]) (by split<;>rfl) ?_
 by_cases h2:(aC 1000000000 a).length≤2
 ·rw[if_pos h2]
  have h3:¬(2:Int)<((aC 1000000000 a).length:Int):=by omega
  have c0:TC 186 [bY a,VI 0] (VI ((a % 1000000000:Nat):Int)):=by have:=CZ a 0;rwa [Nat.pow_zero,Nat.div_one] at this
  have c1:TC 186 [bY a,VI 1] (VI ((a / 1000000000 % 1000000000:Nat):Int)):=by have:=CZ a 1;rwa [Nat.pow_one] at this
  have bH:=gL (b:=1000000000) (by decide) a
  have hp:1000000000^(aC 1000000000 a).length≤1000000000^2:=Nat.pow_le_pow_right (by decide) h2
  have hm:a / 1000000000<1000000000:=Nat.div_lt_of_lt_mul (by omega)
  rw[Nat.mod_eq_of_lt hm] at c1
  have hmd:=Nat.mod_add_div a 1000000000
  have w1:IntKind.i64.wrap (1000000000*((a / 1000000000:Nat):Int))=((1000000000*(a / 1000000000):Nat):Int):=wrapN _ (by omega) (by omega)
  have w2:IntKind.i64.wrap (((a % 1000000000:Nat):Int)+((1000000000*(a / 1000000000):Nat):Int))=(a:Int):=wrapN _ (by omega) (by omega)
  simp only[zY,uZ,cN,h3,c0,c1,w1,w2,VX,Nat.reduceEqDiff,Nat.reduceAdd]
  exact aI rfl
 ·rw[if_neg h2]
  have h3:(2:Int)<((aC 1000000000 a).length:Int):=by omega
  simp only[zY,uZ,cN,h3,VX,Nat.reduceEqDiff,Nat.reduceAdd]
  exact aI rfl
theorem aaB {outs:List Nat} {n cap x:Nat} (hn:n=outs.length) (hc:n<cap):eJ 0 1 8 (.ref 0 0 0 n cap) [VI (x:Int)] [.row 0 ((outs++List.replicate (cap-n) 0).map tV) 1 true]=some (.ref 0 0 0 (n+1) cap,[.row 0 (((outs++[x])++List.replicate (cap-(n+1)) 0).map tV) 1 true]):=by
 subst hn
 simp only[eJ,aS,List.length_map,List.length_append,List.length_replicate,List.length_cons,List.length_nil,Nat.zero_add]
 rw[if_pos ⟨by decide,by decide⟩,if_pos ⟨trivial,Nat.le_refl _,by omega⟩,if_pos (by omega),if_neg (by omega),if_pos (by omega)]
 congr 3
 have e:List.replicate (cap-outs.length) 0=(0:Nat)::List.replicate (cap-(outs.length+1)) 0:=by
  rw[show cap-outs.length=(cap-(outs.length+1))+1 by omega,List.replicate_succ]
 simp only[cY,List.set_cons_zero,e,List.map_append,List.map_cons,List.length_cons,List.length_nil,List.map_nil]
 congr 1
 rw[List.take_left' (by simp),←List.drop_drop,List.drop_left' (by simp)]
 simp
theorem wZ (a d:Nat) (Ds:0<d) (hd:d<1000000000) (ha:(aC 1000000000 a).length<17592186044416):TC 203 [bY a,VI (d:Int)] (bY (a*d)):=by
 refine TC.walk ⟨true,false⟩ EP rfl (Nat.le_of_ble_eq_true rfl) (by simp[aM,cI];rfl) (nE _) ?_
 have w0:IntKind.i64.wrap (((aC 1000000000 a).length:Int)+1)=(((aC 1000000000 a).length+1:Nat):Int):=wrapN _ (by omega) (by omega)
 have mk:An [.int .i64 0] 8 (VI 0) (VI (((aC 1000000000 a).length+1:Nat):Int)) []=some (.ref 0 0 0 0 ((aC 1000000000 a).length+1),[.row 0 ((([]:List Nat)++List.replicate ((aC 1000000000 a).length+1-0) 0).map tV) 1 true]):=by
  simp only[An]
  rw[if_pos ⟨by omega,by omega,by omega,by omega⟩]
  simp
  rfl
 simp only[AP,yA,cN,w0,mk,VX,Nat.reduceEqDiff,Nat.reduceAdd]
 refine aT (fun(s:Nat×List Nat×Nat) ρ H=>s.1=s.2.1.length∧s.1≤(aC 1000000000 a).length∧H=[.row 0 ((s.2.1++List.replicate ((aC 1000000000 a).length+1-s.1) 0).map tV) 1 true]∧s.2.2<d∧aC 1000000000 (a*d)=s.2.1++aC 1000000000 (a / 1000000000^s.1*d+s.2.2) ∧
  ρ 1=VI d∧ρ 5 = .ref 0 0 0 s.1 ((aC 1000000000 a).length+1)∧ρ 6=VI s.2.2∧ρ 14=bY a∧ρ 15=VI (aC 1000000000 a).length∧ρ 16=VI s.1) (fun s=>(aC 1000000000 a).length-s.1) (0,[],0) ⟨rfl,Nat.zero_le _,rfl,Ds,by simp,rfl,rfl,rfl,rfl,rfl,rfl⟩ ?_
 rintro⟨i,outs,c⟩ ρ H ⟨hi,J1,rfl,hc,hv,g1,g5,g6,g14,g15,g16⟩
 simp only at hi J1 hc hv g5 g6 g16
 by_cases dA:(i:Int)<((aC 1000000000 a).length:Int)
 ·have hx:=KI (b:=1000000000) (by decide) (n:=a) (i:=i) (by omega)
  have hA:=(DK (b:=1000000000) (by decide) (n:=a) (i:=i)).1 (by omega)
  have e1:∀H,bK 1 (bY a) (VI i) H=some (.cU (tV (a / 1000000000^i % 1000000000)) 0):=fun H=>aL (f:=tV) (t := .op) (size:=1) (k := .i64) hx rfl
  have lx:=Nat.mod_lt (a / 1000000000^i) (show 0<1000000000 by decide)
  have fC:a / 1000000000^i*d+c≠0:=by
   have:=Nat.mul_ne_zero hA (show d≠0 by omega)
   omega
  rw[XH (by decide) fC,←rM] at hv
  generalize a / 1000000000^i % 1000000000=x at *
  have hxd:x*d≤999999999*999999999:=Nat.mul_le_mul (by omega) (by omega)
  have w1:IntKind.i64.wrap ((x:Int)*(d:Int))=((x*d:Nat):Int):=wrapN _ (by simp) (by omega)
  have w2:IntKind.i64.wrap (((x*d:Nat):Int)+(c:Int))=((x*d+c:Nat):Int):=wrapN _ (by omega) (by omega)
  have wi:IntKind.i64.wrap ((i:Int)+1)=((i+1:Nat):Int):=wrapN (i+1) (by omega) (by omega)
  have r1:=Ot (x*d+c)
  have q1:=NF (x*d+c) (by omega)
  have a1:=aaB (outs:=outs) (n:=i) (cap:=(aC 1000000000 a).length+1) (x:=(x*d+c) % 1000000000) hi (by omega)
  have hq:(x*d+c) / 1000000000<d:=by
   rw[Nat.div_lt_iff_lt_mul (by decide)]
   have h1:x*d≤999999999*d:=Nat.mul_le_mul_right _ (by omega)
   omega
  simp only[lK,g1,g5,g6,g14,g15,g16,dA,e1,w1,w2,wi,r1,q1,sG,uR,a1,VX,Nat.reduceEqDiff,Nat.reduceAdd]
  refine⟨(i+1,outs++[(x*d+c) % 1000000000],(x*d+c) / 1000000000),by simp only;omega,by simp;omega,by simp only;omega,rfl,hq,by rw[hv,List.append_assoc];rfl,?_⟩
  try (repeat' apply And.intro)<;>first | rfl | trivial
 ·have oB:i=(aC 1000000000 a).length:=by omega
  have hz:a / 1000000000^i=0:=by
   have:=mt (DK (b:=1000000000) (by decide) (n:=a) (i:=i)).2
   omega
  rw[hz,Nat.zero_mul,Nat.zero_add] at hv
  by_cases hcp:(0:Int)<(c:Int)
  ·rw[CI (b:=1000000000) (by decide) (show c≠0 by omega) (show c<1000000000 by omega)] at hv
   have a1:=aaB (outs:=outs) (n:=i) (cap:=(aC 1000000000 a).length+1) (x:=c) hi (by omega)
   simp only[lK,g1,g5,g6,g14,g15,g16,dA,hcp,sG,uR,a1,VX,Nat.reduceEqDiff,Nat.reduceAdd]
   rw[bY,hv]
   rw[VE aS (by simp;omega) (by omega) (gN fun _=>rfl)]
   rw[List.map_append,List.take_left' (by simp;omega)]
  ·have hc0:c=0:=by omega
   rw[hc0,cB,List.append_nil] at hv
   simp only[lK,g1,g5,g6,g14,g15,g16,dA,hcp,VX,Nat.reduceEqDiff,Nat.reduceAdd]
   rw[bY,hv]
   rw[VE aS (by simp;omega) (by omega) (gN fun _=>rfl)]
   rw[List.map_append,List.take_left' (by simp;omega)]
theorem JQ (a b:Nat) (ha:a≤9223372036854775807) (hb:0<b):dH .quo (.int .i64 (a:Int)) (.int .i64 (b:Int))=some (.int .i64 ((a / b:Nat):Int)):=by
 have h1:¬((b:Int)=0):=by omega
 have h2:(a:Int).tdiv (b:Int)=((a / b:Nat):Int):=by rw[Int.tdiv_eq_ediv_of_nonneg (by omega)];simp
 have h3:a / b≤a:=Nat.div_le_self _ _
 simp only[dH,if_true,h1,if_false,h2]
 generalize a / b=q at *
 rw[wrap64 (by omega) (by omega)]
theorem K3 (a b:Nat) (hb:0<b):dH .rem (.int .i64 (a:Int)) (.int .i64 (b:Int))=some (.int .i64 ((a % b:Nat):Int)):=by
 have h1:¬((b:Int)=0):=by omega
 have h2:(a:Int).tmod (b:Int)=((a % b:Nat):Int):=by rw[Int.tmod_eq_emod_of_nonneg (by omega)];simp
 simp only[dH,if_true,h1,if_false,h2]
theorem YI {r d x:Nat} (hr:r<d) (hd:d<1000000000) (hx:x<1000000000):r*1000000000+x≤9223372036854775807:=by omega
theorem akP {r d x:Nat} (Ds:0<d) (hr:r<d) (hx:x<1000000000):(r*1000000000+x) / d<1000000000:=by
 rw[Nat.div_lt_iff_lt_mul Ds]
 omega
theorem yK (a d:Nat) (Ds:0<d) (hdT:d<1000000000) (ha:(aC 1000000000 a).length≤17592186044416):TC 202 [bY a,VI (d:Int)] (.eX [bY (a / d),VI ((a % d:Nat):Int)]):=by
 refine TC.walk ⟨true,false⟩ Fi rfl (Nat.le_of_ble_eq_true rfl) (by simp[aM,cI];rfl) (by simp[iD,pY,nE,kC]) ?_
 have va:=cJ (b:=1000000000) (by decide) a
 have la:=fE (b:=1000000000) (by decide) a
 unfold bY
 generalize aC 1000000000 a=xs at *
 have w0:IntKind.i64.wrap ((xs.length:Int)-1)=(xs.length:Int)-1:=wrap64 (by omega) (by omega)
 simp only[Ao,yC,dV,w0,O9 xs.length (by omega),VX,Nat.reduceEqDiff,Nat.reduceAdd]
 refine aT (fun(s:Nat×List Nat×Nat) ρ H=>s.1≤xs.length∧H=[.row 0 (s.2.1.map tV) 1 true]∧s.2.1.length=xs.length∧(∀d∈s.2.1,d<1000000000)∧s.2.2<d∧val 1000000000 (s.2.1.drop s.1)*d+s.2.2=val 1000000000 (xs.drop s.1) ∧
  ρ 0=iA xs∧ρ 1=VI d∧ρ 6 = .ref 0 0 0 xs.length xs.length∧ρ 7=VI s.2.2∧ρ 8=VI ((s.1:Int)-1)) (fun s=>s.1) (xs.length,List.replicate xs.length 0,0) ⟨Nat.le_refl _,rfl,by simp,Af (by decide) _,Ds,by simp[val,List.drop_replicate],rfl,rfl,rfl,rfl,rfl⟩ ?_
 rintro⟨j,outs,r⟩ ρ H ⟨hj,rfl,jM,lH,hr,hv,g0,g1,g6,g7,g8⟩
 simp only at hj jM lH hr hv g7 g8
 by_cases hz:(0:Int)≤(j:Int)-1
 ·obtain⟨i,rfl⟩:∃i,j=i+1:=⟨j-1,by omega⟩
  obtain⟨x,hx⟩:∃x,xs[i]? = some x:=⟨_,List.getElem?_eq_getElem (by omega)⟩
  have lx:=la x (List.mem_of_getElem? hx)
  have Ht:((i+1:Nat):Int)-1=(i:Int):=by omega
  rw[Ht] at g8 hz
  have e1:=aL (f:=tV) (t := .op) (H:=[.row 0 (outs.map tV) 1 true]) (size:=1) (k := .i64) hx rfl
  have e3:bK 1 (.ref 0 0 0 xs.length xs.length) (VI i) [.row 0 (outs.map tV) 1 true]=some (.ptr 0 0 i 0):=adT (by omega)
  have e4:∀s:Nat,bQ 0 1 (.ptr 0 0 i 0) (VI (s:Int)) [.row 0 (outs.map tV) 1 true]=some [.row 0 ((outs.set i s).map tV) 1 true]:=fun s=>P8 (by omega)
  have w2:IntKind.i64.wrap ((i:Int)-1)=(i:Int)-1:=wrap64 (by omega) (by omega)
  have w4:IntKind.i64.wrap ((r:Int)*1000000000)=((r*1000000000:Nat):Int):=wrapN _ (by omega) (by omega)
  have w5:IntKind.i64.wrap (((r*1000000000:Nat):Int)+(x:Int))=((r*1000000000+x:Nat):Int):=wrapN _ (by omega) (by omega)
  have D2:r*1000000000+x≤9223372036854775807:=YI hr hdT lx
  have q1:=JQ (r*1000000000+x) d D2 Ds
  have q2:=K3 (r*1000000000+x) d Ds
  have hq:(r*1000000000+x) / d<1000000000:=akP Ds hr lx
  simp only[pX,g0,g1,g6,g7,g8,hz,e1,e3,e4,w2,w4,w5,q1,q2,VX,Nat.reduceEqDiff,Nat.reduceAdd]
  refine⟨(i,outs.set i ((r*1000000000+x) / d),(r*1000000000+x) % d),by simp only;omega,by omega,rfl,by rw[List.length_set];exact jM,lR lH hq,Nat.mod_lt _ Ds,?_,by (repeat' apply And.intro)<;>first | rfl | trivial⟩
  have h1:=Nat.mod_add_div (r*1000000000+x) d
  rw[set_drop (by omega),sD,rN hx,←hv]
  exact RA h1
 ·have Um:j=0:=by omega
  subst Um
  rw[List.drop_zero,List.drop_zero,va] at hv
  have h1:a / d=val 1000000000 outs:=by
   rw[←hv,Nat.mul_comm,Nat.mul_add_div Ds,Nat.div_eq_of_lt hr,Nat.add_zero]
  have h2:a % d=r:=by
   rw[←hv,Nat.mul_comm,Nat.mul_add_mod,Nat.mod_eq_of_lt hr]
  simp only[pX,g0,g1,g6,g7,g8,hz,VX,Nat.reduceEqDiff,Nat.reduceAdd]
  refine Ii (m:=a / d) lH jM.symm (by omega) h1.symm ?_
  simp only[g7,VX,Nat.reduceEqDiff,Nat.reduceAdd]
  rw[h2]
  exact aI (by simp[aP,aM,xU,bY,kC])
end Go.PM
namespace Go.PM
theorem OX {H:aA} {b b' g:Nat} {x:cG} (h:b≠b'):aH (H.set b x) b' g=aH H b' g:=by
 unfold aH
 rw[List.getElem?_set_ne h]
theorem nK {H:aA} {b g e:Nat} {es mQ:List VV} {w w':Bool} (h:aH H b g=some (es,e,w)):aH (H.set b (.row g mQ e w')) b g=some (mQ,e,w'):=by
 have bH:b<H.length:=by
  unfold aH at h
  split at h
  ·rename_i hb
   exact(List.getElem?_eq_some_iff.1 hb).1
  ·cases h
 unfold aH
 rw[List.getElem?_set_self bH]
 simp
theorem mA {H:aA} {b:Nat} {x y:cG}:(H.set b x).set b y=H.set b y:=by rw[List.set_set]
theorem vX {H:aA} {b g e:Nat} {es:List VV} {w:Bool} (h:aH H b g=some (es,e,w)):H.set b (.row g es e w)=H:=by
 apply List.ext_getElem?
 intro i
 by_cases hi:b=i
 ·subst hi
  unfold aH at h
  split at h
  ·rename_i hb
   split at h
   ·rename_i hg
    cases h
    rw[List.getElem?_set_self (List.getElem?_eq_some_iff.1 hb).1,hb,hg]
   ·cases h
  ·cases h
 ·rw[List.getElem?_set_ne hi]
theorem abW {H:aA} {b g o i lo d:Nat} {pre hJ post:List Nat} (hr:aH H b g=some ((pre++hJ++post).map uV,1,true)) (ho:pre.length=o) (hi:i<hJ.length) (dL:lo≤b) :
  bQ lo 1 (.ptr b g (o+i) 0) (uV d) H=some (H.set b (.row g ((pre++hJ.set i d++post).map uV) 1 true)):=by
 rw[fJ (f:=uV) (e:=1) hr (by simp only[List.length_append];omega) dL rfl rfl,Wv ho hi]
theorem TV {H:aA} {lo b g o L c b2 g2 n2 c2 t:Nat} {pre hJ post vs N0:List Nat} {w2:Bool} (hr:aH H b g=some ((pre++hJ++post).map uV,1,true)) (hr2:aH H b2 g2=some (N0.map uV,1,w2)) (hb:b≠b2) (dL:lo≤b)
  (ho:pre.length=o) (hL:hJ.length=L) (azW:L≤70368744177664) (Qd:N0.take n2=vs) (hn2:n2≤N0.length) (hle:n2≤L) (WZ:∀d∈hJ,d<4294967296) (Gs:∀d∈vs,d<4294967296) (ht:t<4294967296) (sZ:t*val 4294967296 vs≤val 4294967296 hJ+val 4294967296 vs) :
  gQ 200 [.ref b g o L c,.ref b2 g2 0 n2 c2,VK .u64 t] lo H fun r H'=>∃rA:List Nat,H'=H.set b (.row g ((pre++rA++post).map uV) 1 true)∧rA.length=L∧(∀d∈rA,d<4294967296) ∧
   ((r=VB false∧val 4294967296 rA+t*val 4294967296 vs=val 4294967296 hJ)∨(r=VB true∧val 4294967296 hJ<t*val 4294967296 vs∧val 4294967296 rA+t*val 4294967296 vs=val 4294967296 hJ+val 4294967296 vs)):=by
 refine gQ.walk ⟨true,false⟩ Ju (Nat.le_of_ble_eq_true rfl) ?_
 have FE:vs.length=n2:=by rw[←Qd,List.length_take];omega
 have rK:∀i,i<n2→N0[i]? = vs[i]? := fun i hi=>by rw[←Qd,List.getElem?_take_of_lt hi]
 have PJ:=oF WZ
 have Ng:=oF Gs
 rw[hL] at PJ
 rw[FE] at Ng
 have hVL:val 4294967296 vs≤4294967296^L:=Nat.le_trans (Nat.le_of_lt Ng) (Nat.pow_le_pow_right (by decide) hle)
 have e0:∀ {K:aA} {es:List VV},aH K b g=some (es,1,true)→oK (.ref b g o L c) K=some (VI L):=fun h=>fL h
 have e00:∀ {K:aA},aH K b2 g2=some (N0.map uV,1,w2)→oK (.ref b2 g2 0 n2 c2) K=some (VI n2):=fun h=>fL h
 have rd:∀(s:List Nat),s.length=L→aH (H.set b (.row g ((pre++s++post).map uV) 1 true)) b g=some ((pre++s++post).map uV,1,true):=fun s _=>nK hr
 have rd2:∀(s:List Nat),aH (H.set b (.row g ((pre++s++post).map uV) 1 true)) b2 g2=some (N0.map uV,1,w2):=fun s=>by rw[OX hb];exact hr2
 have wi:∀i:Nat,i<L→IntKind.i64.wrap ((i:Int)+1)=((i+1:Nat):Int):=fun i hi=>wrapN (i+1) (by omega) (by omega)
 have back:∀(ρ:dS) (s:List Nat),s.length=L→(∀d∈s,d<4294967296)→(∀s2:List Nat,s2.length=L→(∀d∈s2,d<4294967296)→∀c,val 4294967296 s+val 4294967296 vs=val 4294967296 s2+4294967296^L*c→val 4294967296 s2+t*val 4294967296 vs=val 4294967296 hJ+val 4294967296 vs)→val 4294967296 hJ<t*val 4294967296 vs→ρ 0 = .ref b g o L c→ρ 1 = .ref b2 g2 0 n2 c2→ρ 7=VK .u64 0→ρ 58=VI L→ρ 59=VI 0 →
   VW ⟨true,false⟩ lo (.loop lU) (zR 2 (nB (VW ⟨true,false⟩ lo (.seq (.dG [⟨(some 6),(.mv (.const (.bool true))),none,false,[]⟩]) .ret) (AW [.tmp 6] fun r H'=>∃rA:List Nat,H'=H.set b (.row g ((pre++rA++post).map uV) 1 true)∧rA.length=L∧(∀d∈rA,d<4294967296)∧((r=VB false∧val 4294967296 rA+t*val 4294967296 vs=val 4294967296 hJ)∨(r=VB true∧val 4294967296 hJ<t*val 4294967296 vs∧val 4294967296 rA+t*val 4294967296 vs=val 4294967296 hJ+val 4294967296 vs)))) (AW [.tmp 6] fun r H'=>∃rA:List Nat,H'=H.set b (.row g ((pre++rA++post).map uV) 1 true)∧rA.length=L∧(∀d∈rA,d<4294967296)∧((r=VB false∧val 4294967296 rA+t*val 4294967296 vs=val 4294967296 hJ)∨(r=VB true∧val 4294967296 hJ<t*val 4294967296 vs∧val 4294967296 rA+t*val 4294967296 vs=val 4294967296 hJ+val 4294967296 vs))))) ρ (H.set b (.row g ((pre++s++post).map uV) 1 true)):=by
  intro ρ s hs PG K2 agQ g0 g1 g7 g58 g59
  refine aT (fun(u:Nat×List Nat×Nat) ρ K=>u.1≤L∧K=H.set b (.row g ((pre++u.2.1++post).map uV) 1 true)∧u.2.1.length=L∧(∀d∈u.2.1,d<4294967296)∧u.2.2≤1∧val 4294967296 (s.take u.1)+val 4294967296 (vs.take u.1)=val 4294967296 (u.2.1.take u.1)+4294967296^u.1*u.2.2∧(∀j,u.1≤j→u.2.1[j]? = s[j]?) ∧
   ρ 0 = .ref b g o L c∧ρ 1 = .ref b2 g2 0 n2 c2∧ρ 7=VK .u64 u.2.2∧ρ 58=VI L∧ρ 59=VI u.1) (fun u=>L-u.1) (0,s,0) ⟨Nat.zero_le _,rfl,hs,PG,by simp,by simp[val],fun _ _=>rfl,g0,g1,g7,g58,g59⟩ ?_
  rintro⟨i,outs,cy⟩ NA K ⟨hi,rfl,jM,lH,hc,hv,FD,k0,k1,k7,k58,k59⟩
  simp only at hi jM lH hc hv FD k7 k59
  by_cases dA:(i:Int)<(L:Int)
  ·obtain⟨x,hx⟩:∃x,outs[i]? = some x:=⟨_,List.getElem?_eq_getElem (by omega)⟩
   have lx:=lH x (List.mem_of_getElem? hx)
   have Uy:s[i]? = some x:=by rw[←FD i (Nat.le_refl _)];exact hx
   have e1:bK 1 (.ref b g o L c) (VI i) (H.set b (.row g ((pre++outs++post).map uV) 1 true))=some (.ptr b g (o+i) 0):=bD (rd outs jM) (by omega)
   have e2:cE false 1 (.ptr b g (o+i) 0) (H.set b (.row g ((pre++outs++post).map uV) 1 true))=some (uV x):=iO (rd outs jM) (by rw[P7 ho (by omega)];exact hx)
   have e3:∀d:Nat,bQ lo 1 (.ptr b g (o+i) 0) (uV d) (H.set b (.row g ((pre++outs++post).map uV) 1 true))=some (H.set b (.row g ((pre++outs.set i d++post).map uV) 1 true)):=fun d=>by
    rw[abW (rd outs jM) ho (by omega) dL,mA]
   have e4:=e00 (rd2 outs)
   have w1:IntKind.u64.wrap (x:Int)=(x:Int):=dW _ (by omega)
   have w2:IntKind.u64.wrap ((cy:Int)+(x:Int))=((cy+x:Nat):Int):=by rw[←Int.natCast_add];exact dW _ (by omega)
   have wii:=wi i (by omega)
   have step:∀y,y<4294967296→(∀d,vs[i]? = some d→d=y)→(vs.length≤i→y=0) →
     (i+1≤L∧(outs.set i ((cy+x+y) % 4294967296)).length=L∧(∀d∈outs.set i ((cy+x+y) % 4294967296),d<4294967296)∧(cy+x+y) / 4294967296≤1∧val 4294967296 (s.take (i+1))+val 4294967296 (vs.take (i+1))=val 4294967296 ((outs.set i ((cy+x+y) % 4294967296)).take (i+1))+4294967296^(i+1)*((cy+x+y) / 4294967296))∧∀j,i+1≤j→(outs.set i ((cy+x+y) % 4294967296))[j]? = s[j]? := by
    intro y hy h1 h2
    refine⟨⟨by omega,by rw[List.length_set];exact jM,lR lH (Nat.mod_lt _ (by decide)),by omega,?_⟩,fun j hj=>by rw[List.getElem?_set_ne (by omega)];exact FD j (by omega)⟩
    have hy':val 4294967296 (vs.take (i+1))=val 4294967296 (vs.take i)+4294967296^i*y:=by
     cases UG:vs[i]? with
     | some d=>rw[bC UG,h1 d UG]
     |
      none =>
      have hle:=List.getElem?_eq_none_iff.1 UG
      rw[h2 hle,jG hle,jG (by omega),Nat.mul_zero,Nat.add_zero]
    rw[bC Uy,hy',eI (by omega),Nat.pow_succ]
    exact EZ hv rfl (Nat.mod_add_div _ _)
   by_cases bH:(i:Int)<(n2:Int)
   ·obtain⟨y,hy⟩:∃y,vs[i]? = some y:=⟨_,List.getElem?_eq_getElem (by omega)⟩
    have ly:=Gs y (List.mem_of_getElem? hy)
    have f1:bK 1 (.ref b2 g2 0 n2 c2) (VI i) (H.set b (.row g ((pre++outs++post).map uV) 1 true))=some (.ptr b2 g2 i 0):=by rw[bD (rd2 outs) (by omega),Nat.zero_add]
    have f2:cE false 1 (.ptr b2 g2 i 0) (H.set b (.row g ((pre++outs++post).map uV) 1 true))=some (uV y):=iO (rd2 outs) (by rw[rK i (by omega)];exact hy)
    have w3:IntKind.u64.wrap (y:Int)=(y:Int):=dW _ (by omega)
    have w4:IntKind.u64.wrap (((cy+x:Nat):Int)+(y:Int))=((cy+x+y:Nat):Int):=by rw[←Int.natCast_add];exact dW _ (by omega)
    obtain⟨⟨s1,s2,s3,s4,s5⟩,s6⟩:=step y ly (fun d hd=>by rw[hy] at hd;injection hd with hd;exact hd.symm) (fun h=>by omega)
    simp only[lU,k0,k1,k7,k58,k59,dA,bH,e1,e2,e3,e4,f1,f2,w1,w2,w3,w4,wii,wrap32,nZ,VX,Nat.reduceEqDiff,Nat.reduceAdd]
    exact⟨(i+1,outs.set i ((cy+x+y) % 4294967296),(cy+x+y) / 4294967296),by simp only;omega,s1,rfl,s2,s3,s4,s5,s6,by (repeat' apply And.intro)<;>first | rfl | trivial⟩
   ·obtain⟨⟨s1,s2,s3,s4,s5⟩,s6⟩:=step 0 (by decide) (fun d hd=>by have:=(List.getElem?_eq_some_iff.1 hd).1;omega) (fun _=>rfl)
    simp only[Nat.add_zero] at s2 s3 s4 s5 s6
    simp only[lU,k0,k1,k7,k58,k59,dA,bH,e1,e2,e3,e4,w1,w2,wii,wrap32,nZ,VX,Nat.reduceEqDiff,Nat.reduceAdd]
    exact⟨(i+1,outs.set i ((cy+x) % 4294967296),(cy+x) / 4294967296),by simp only;omega,s1,rfl,s2,s3,s4,s5,s6,by (repeat' apply And.intro)<;>first | rfl | trivial⟩
  ·have oB:i=L:=by omega
   subst oB
   rw[List.take_of_length_le (by omega),List.take_of_length_le (by omega),List.take_of_length_le (by omega)] at hv
   simp only[lU,k0,k1,k7,k58,k59,dA,VX,Nat.reduceEqDiff,Nat.reduceAdd]
   exact⟨outs,rfl,jM,lH,.inr ⟨agQ,K2 outs jM lH cy hv⟩⟩
 simp only[ED,B2,e0 hr,VX,Nat.reduceEqDiff,Nat.reduceAdd]
 refine aT (fun(u:Nat×List Nat×Nat×Nat) ρ K=>u.1≤L∧K=H.set b (.row g ((pre++u.2.1++post).map uV) 1 true)∧u.2.1.length=L∧(∀d∈u.2.1,d<4294967296)∧u.2.2.1<4294967296∧u.2.2.2≤1∧val 4294967296 (hJ.take u.1)+4294967296^u.1*(u.2.2.1+u.2.2.2)=val 4294967296 (u.2.1.take u.1)+t*val 4294967296 (vs.take u.1)∧(∀j,u.1≤j→u.2.1[j]? = hJ[j]?) ∧
  ρ 0 = .ref b g o L c∧ρ 1 = .ref b2 g2 0 n2 c2∧ρ 2=VK .u64 t∧ρ 7=VK .u64 u.2.2.1∧ρ 8=VI u.2.2.2∧ρ 13=VI L∧ρ 14=VI u.1) (fun u=>L-u.1) (0,hJ,0,0) ⟨Nat.zero_le _,(vX hr).symm,hL,WZ,by simp,by simp,by simp[val],fun _ _=>rfl,by (repeat' apply And.intro)<;>first | rfl | trivial⟩ ?_
 rintro⟨i,outs,cy,l⟩ ρ K ⟨hi,rfl,jM,lH,hc,Bk,hv,FD,k0,k1,k2,k7,k8,A9,Cj⟩
 simp only at hi jM lH hc Bk hv FD k7 k8 Cj
 by_cases dA:(i:Int)<(L:Int)
 ·obtain⟨x,hx⟩:∃x,outs[i]? = some x:=⟨_,List.getElem?_eq_getElem (by omega)⟩
  have lx:=lH x (List.mem_of_getElem? hx)
  have Uy:hJ[i]? = some x:=by rw[←FD i (Nat.le_refl _)];exact hx
  have e1:bK 1 (.ref b g o L c) (VI i) (H.set b (.row g ((pre++outs++post).map uV) 1 true))=some (.ptr b g (o+i) 0):=bD (rd outs jM) (by omega)
  have e2:cE false 1 (.ptr b g (o+i) 0) (H.set b (.row g ((pre++outs++post).map uV) 1 true))=some (uV x):=iO (rd outs jM) (by rw[P7 ho (by omega)];exact hx)
  have e3:∀d:Nat,bQ lo 1 (.ptr b g (o+i) 0) (uV d) (H.set b (.row g ((pre++outs++post).map uV) 1 true))=some (H.set b (.row g ((pre++outs.set i d++post).map uV) 1 true)):=fun d=>by
   rw[abW (rd outs jM) ho (by omega) dL,mA]
  have e4:=e00 (rd2 outs)
  have wii:=wi i (by omega)
  have w1:IntKind.i64.wrap (x:Int)=(x:Int):=wrapN x rfl (by omega)
  have step:∀y c1,y<4294967296→c1=cy+t*y→(∀d,vs[i]? = some d→d=y)→(vs.length≤i→y=0) →
    c1 / 4294967296<4294967296∧IntKind.i64.wrap ((x:Int)-((c1 % 4294967296:Nat):Int)-(l:Int))=(x:Int)-((c1 % 4294967296:Nat):Int)-(l:Int)∧IntKind.i64.wrap ((x:Int)-((c1 % 4294967296:Nat):Int))=(x:Int)-((c1 % 4294967296:Nat):Int) ∧
    ∃r l',l'≤1∧((x:Int)-((c1 % 4294967296:Nat):Int)-(l:Int)<0↔l'=1)∧IntKind.u32.wrap ((x:Int)-((c1 % 4294967296:Nat):Int)-(l:Int))=((r:Nat):Int) ∧
    (i+1≤L∧(outs.set i r).length=L∧(∀d∈outs.set i r,d<4294967296)∧c1 / 4294967296<4294967296∧l'≤1∧val 4294967296 (hJ.take (i+1))+4294967296^(i+1)*(c1 / 4294967296+l')=val 4294967296 ((outs.set i r).take (i+1))+t*val 4294967296 (vs.take (i+1))∧∀j,i+1≤j→(outs.set i r)[j]? = hJ[j]?):=by
   intro y c1 hy hc1 h1 h2
   have hty:t*y≤4294967295*4294967295:=Nat.mul_le_mul (by omega) (by omega)
   have hm:=Nat.mod_lt c1 (show 0<4294967296 by decide)
   have hdv:=Nat.mod_add_div c1 4294967296
   have hq:c1 / 4294967296<4294967296:=Nat.div_lt_of_lt_mul (by omega)
   refine⟨hq,wrap64 (by omega) (by omega),wrap64 (by omega) (by omega),?_⟩
   obtain⟨r,l',BL,Ef,hd,hlw,oV⟩:∃r l':Nat,l'≤1∧r<4294967296∧r+c1 % 4294967296+l=x+4294967296*l'∧IntKind.u32.wrap ((x:Int)-((c1 % 4294967296:Nat):Int)-(l:Int))=((r:Nat):Int)∧((x:Int)-((c1 % 4294967296:Nat):Int)-(l:Int)<0↔l'=1):=by
    by_cases hn:(x:Int)-((c1 % 4294967296:Nat):Int)-(l:Int)<0
    ·exact⟨x+4294967296-c1 % 4294967296-l,1,by omega,by omega,by omega,Kw (by omega) hn (by omega),fun _=>rfl,fun _=>hn⟩
    ·exact⟨x-c1 % 4294967296-l,0,by omega,by omega,by omega,by rw[IntKind.wrap_u32];omega,fun h=>absurd h hn,fun h=>by omega⟩
   refine⟨r,l',BL,oV,hlw,by omega,by rw[List.length_set];exact jM,lR lH Ef,hq,BL,?_,fun j hj=>by rw[List.getElem?_set_ne (by omega)];exact FD j (by omega)⟩
   have hy':val 4294967296 (vs.take (i+1))=val 4294967296 (vs.take i)+4294967296^i*y:=by
    cases UG:vs[i]? with
    | some d=>rw[bC UG,h1 d UG]
    |
     none =>
     have hle:=List.getElem?_eq_none_iff.1 UG
     rw[h2 hle,jG hle,jG (by omega),Nat.mul_zero,Nat.add_zero]
   rw[bC Uy,hy',eI (by omega),Nat.pow_succ]
   have:=X7 hv hc1 hdv.symm hd
   rw[this,Nat.mul_add,Nat.mul_left_comm t]
  by_cases bH:(i:Int)<(n2:Int)
  ·obtain⟨y,hy⟩:∃y,vs[i]? = some y:=⟨_,List.getElem?_eq_getElem (by omega)⟩
   have ly:=Gs y (List.mem_of_getElem? hy)
   have f1:bK 1 (.ref b2 g2 0 n2 c2) (VI i) (H.set b (.row g ((pre++outs++post).map uV) 1 true))=some (.ptr b2 g2 i 0):=by rw[bD (rd2 outs) (by omega),Nat.zero_add]
   have f2:cE false 1 (.ptr b2 g2 i 0) (H.set b (.row g ((pre++outs++post).map uV) 1 true))=some (uV y):=iO (rd2 outs) (by rw[rK i (by omega)];exact hy)
   have w3:IntKind.u64.wrap (y:Int)=(y:Int):=dW _ (by omega)
   have hty:t*y≤4294967295*4294967295:=Nat.mul_le_mul (by omega) (by omega)
   have w4:IntKind.u64.wrap ((t:Int)*(y:Int))=((t*y:Nat):Int):=by rw[←Int.natCast_mul];exact dW _ (by omega)
   have w5:IntKind.u64.wrap ((cy:Int)+((t*y:Nat):Int))=((cy+t*y:Nat):Int):=by rw[←Int.natCast_add];exact dW _ (by omega)
   have w6:IntKind.i64.wrap (((cy+t*y) % 4294967296:Nat):Int)=(((cy+t*y) % 4294967296:Nat):Int):=wrapN _ rfl (by omega)
   obtain⟨_,a1,a2,r,l',BL,oV,hw,s1,s2,s3,s4,s5,s6,s7⟩:=step y (cy+t*y) ly rfl (fun d hd=>by rw[hy] at hd;injection hd with hd;exact hd.symm) (fun h=>by omega)
   by_cases hn:(x:Int)-(((cy+t*y) % 4294967296:Nat):Int)-(l:Int)<0
   ·have:=oV.1 hn
    subst this
    simp only[fM,k0,k1,k2,k7,k8,A9,Cj,dA,bH,e1,e2,e3,e4,f1,f2,w1,w3,w4,w5,w6,a1,a2,hn,hw,wii,wrap32,nZ,VX,Nat.reduceEqDiff,Nat.reduceAdd]
    exact⟨(i+1,outs.set i r,(cy+t*y) / 4294967296,1),by simp only;omega,s1,rfl,s2,s3,s4,s5,s6,s7,by (repeat' apply And.intro)<;>first | rfl | trivial⟩
   ·have:l'=0:=by
     have:l'≠1:=fun h=>hn (oV.2 h)
     omega
    subst this
    simp only[fM,k0,k1,k2,k7,k8,A9,Cj,dA,bH,e1,e2,e3,e4,f1,f2,w1,w3,w4,w5,w6,a1,a2,hn,hw,wii,wrap32,nZ,VX,Nat.reduceEqDiff,Nat.reduceAdd]
    exact⟨(i+1,outs.set i r,(cy+t*y) / 4294967296,0),by simp only;omega,s1,rfl,s2,s3,s4,s5,s6,s7,by (repeat' apply And.intro)<;>first | rfl | trivial⟩
  ·have w6:IntKind.i64.wrap ((cy % 4294967296:Nat):Int)=((cy % 4294967296:Nat):Int):=wrapN _ rfl (by omega)
   obtain⟨_,a1,a2,r,l',BL,oV,hw,s1,s2,s3,s4,s5,s6,s7⟩:=step 0 cy (by decide) (by simp) (fun d hd=>by have:=(List.getElem?_eq_some_iff.1 hd).1;omega) (fun _=>rfl)
   by_cases hn:(x:Int)-((cy % 4294967296:Nat):Int)-(l:Int)<0
   ·have:=oV.1 hn
    subst this
    simp only[fM,k0,k1,k2,k7,k8,A9,Cj,dA,bH,e1,e2,e3,e4,w1,w6,a1,a2,hn,hw,wii,wrap32,nZ,VX,Nat.reduceEqDiff,Nat.reduceAdd]
    exact⟨(i+1,outs.set i r,cy / 4294967296,1),by simp only;omega,s1,rfl,s2,s3,s4,s5,s6,s7,by (repeat' apply And.intro)<;>first | rfl | trivial⟩
   ·have:l'=0:=by
     have:l'≠1:=fun h=>hn (oV.2 h)
     omega
    subst this
    simp only[fM,k0,k1,k2,k7,k8,A9,Cj,dA,bH,e1,e2,e3,e4,w1,w6,a1,a2,hn,hw,wii,wrap32,nZ,VX,Nat.reduceEqDiff,Nat.reduceAdd]
    exact⟨(i+1,outs.set i r,cy / 4294967296,0),by simp only;omega,s1,rfl,s2,s3,s4,s5,s6,s7,by (repeat' apply And.intro)<;>first | rfl | trivial⟩
 ·have oB:i=L:=by omega
  subst oB
  rw[List.take_of_length_le (by omega),List.take_of_length_le (by omega),List.take_of_length_le (by omega)] at hv
  have amT:=oF lH
  rw[jM] at amT
  by_cases hz:l=0∧cy=0
  ·obtain⟨rfl,rfl⟩:=hz
   simp only[fM,k0,k1,k2,k7,k8,A9,Cj,dA,Int.natCast_zero,VX,Nat.reduceEqDiff,Nat.reduceAdd]
   exact⟨outs,rfl,jM,lH,.inl (by simpa using hv.symm)⟩
  ·have avX:cy+l=1:=by
    rcases abC hv amT hVL sZ with h | h<;>omega
   rw[avX,Nat.mul_one] at hv
   have agQ:val 4294967296 hJ<t*val 4294967296 vs:=by omega
   have fin:∀s2:List Nat,s2.length=i→(∀d∈s2,d<4294967296)→∀c,val 4294967296 outs+val 4294967296 vs=val 4294967296 s2+4294967296^i*c→val 4294967296 s2+t*val 4294967296 vs=val 4294967296 hJ+val 4294967296 vs:=by
    intro s2 h2 h3 c h4
    have h5:=oF h3
    rw[h2] at h5
    exact ZK hv h4 h5 hVL sZ PJ (by omega)
   have hlen:=e0 (rd outs jM)
   by_cases Ba:(l:Int)=0
   ·have hcy:¬(cy:Int)=0:=by omega
    simp only[fM,k0,k1,k2,k7,k8,A9,Cj,dA,Ba,hcy,hlen,VX,Nat.reduceEqDiff,Nat.reduceAdd]
    exact back _ outs jM lH fin agQ k0 k1 (by rfl) (by rfl) (by rfl)
   ·simp only[fM,k0,k1,k2,k7,k8,A9,Cj,dA,Ba,hlen,VX,Nat.reduceEqDiff,Nat.reduceAdd]
    exact back _ outs jM lH fin agQ k0 k1 (by rfl) (by rfl) (by rfl)
end Go.PM
namespace Go.PM
section
variable {H:aA} {b g o i lo d:Nat} {L R:List VV} {low:List Nat}
theorem acZ (hr:aH H b g=some (L++low.map tV++R,1,true)) (ho:L.length=o) (hi:low[i]? = some d):cE false 1 (.ptr b g (o+i) 0) H=some (VI (d:Int)):=by
 have bH:=(List.getElem?_eq_some_iff.1 hi).1
 rw[OT hr (x:=tV d) (by rw[P7 ho (by simpa using bH)];simp[hi])]
 rfl
theorem aaK (hr:aH H b g=some (L++low.map tV++R,1,true)) (ho:L.length=o) (hi:i<low.length) (dL:lo≤b):bQ lo 1 (.ptr b g (o+i) 0) (VI (d:Int)) H=some (H.set b (.row g (L++(low.set i d).map tV++R) 1 true)):=by
 rw[bU hr (by simp only[List.length_append,List.length_map];omega) dL rfl rfl,Wv ho (by simpa using hi),List.map_set]
theorem UJ {n:Nat} {z:Int} (hr:aH H b g=some (L++low.map tV++VI z::R,1,true)) (ho:L.length=o) (hn:low.length=n):cE false 1 (.ptr b g (o+n) 0) H=some (VI z):=by
 rw[OT hr (x:=VI z) (by rw[List.getElem?_append_right (by simp;omega)];simp[ho,hn])]
 rfl
theorem YD {n:Nat} {z z':Int} (hr:aH H b g=some (L++low.map tV++VI z::R,1,true)) (ho:L.length=o) (hn:low.length=n) (dL:lo≤b):bQ lo 1 (.ptr b g (o+n) 0) (VI z') H=some (H.set b (.row g (L++low.map tV++VI z'::R) 1 true)):=by
 rw[bU hr (by simp only[List.length_append,List.length_map,List.length_cons];omega) dL rfl rfl,List.set_append_right _ _ (by simp;omega)]
 congr 5
 simp[ho,hn]
end
theorem Pc {P A N B c u x t r k m q T:Nat} (h:A+P*c=N+t*B) (h1:r+m+c=u+T*k) (h2:m+T*q=x*t):(A+P*u)+P*T*(q+k)=(N+P*r)+t*(B+P*x):=by
 have e1:P*(r+m+c)=P*(u+T*k):=by rw[h1]
 have e2:P*(m+T*q)=P*(x*t):=by rw[h2]
 grind
theorem aaM {x t:Nat} (hx:x<1000000000) (ht:t<1000000000):x*t≤999999998000000001∧x*t / 1000000000≤999999998:=by
 have h:x*t≤999999999*999999999:=Nat.mul_le_mul (by omega) (by omega)
 omega
theorem WU {H:aA} {lo b g o n N t top:Nat} {L R:List VV} {low vs:List Nat} (hr:aH H b g=some (L++low.map tV++VI (top:Int)::R,1,true)) (dL:lo≤b) (ho:L.length=o) (hl:low.length=n) (FE:vs.length=n) (hN:o+n<N) (CD:N≤70368744177664)
  (Zk:∀d∈low,d<1000000000) (Gs:∀d∈vs,d<1000000000) (ht:t<1000000000) (Z4:top<1000000000) :
  gQ 204 [.ref b g 0 N N,iA vs,VI (o:Int),VI (t:Int)] lo H fun r H'=>∃(As:List Nat) (c:Nat),H'=H.set b (.row g (L++As.map tV++VI ((top:Int)-(c:Int))::R) 1 true)∧As.length=n∧(∀d∈As,d<1000000000)∧c≤1000000000 ∧
   r=VB (decide ((top:Int)-(c:Int)<0))∧val 1000000000 low+1000000000^n*c=val 1000000000 As+t*val 1000000000 vs:=by
 refine gQ.walk ⟨true,false⟩ F0 (Nat.le_of_ble_eq_true rfl) ?_
 have rd:∀(s:List Nat) (z:Int),aH (H.set b (.row g (L++s.map tV++VI z::R) 1 true)) b g=some (L++s.map tV++VI z::R,1,true):=fun s z=>nK hr
 have ad:∀(K:aA) (es:List VV) (i:Nat),aH K b g=some (es,1,true)→i≤n→bK 1 (.ref b g 0 N N) (VI ((o+i:Nat):Int)) K=some (.ptr b g (o+i) 0):=fun K es i h hi=>by rw[bD h (by omega),Nat.zero_add]
 simp only[B9,zA,dV,VX,Nat.reduceEqDiff,Nat.reduceAdd]
 refine aT (fun(u:Nat×List Nat×Nat) ρ K=>u.1≤n∧K=H.set b (.row g (L++u.2.1.map tV++VI (top:Int)::R) 1 true)∧u.2.1.length=n∧(∀d∈u.2.1,d<1000000000)∧u.2.2≤1000000000∧val 1000000000 (low.take u.1)+1000000000^u.1*u.2.2=val 1000000000 (u.2.1.take u.1)+t*val 1000000000 (vs.take u.1)∧(∀j,u.1≤j→u.2.1[j]? = low[j]?) ∧
  ρ 0 = .ref b g 0 N N∧ρ 1=iA vs∧ρ 2=VI o∧ρ 3=VI t∧ρ 9=VI u.2.2∧ρ 13=iA vs∧ρ 14=VI vs.length∧ρ 15=VI u.1) (fun u=>n-u.1) (0,low,0) ⟨Nat.zero_le _,(vX hr).symm,hl,Zk,by simp,by simp[val],fun _ _=>rfl,by (repeat' apply And.intro)<;>first | rfl | trivial⟩ ?_
 rintro⟨i,outs,c⟩ ρ K ⟨hi,rfl,jM,lH,hc,hv,FD,k0,k1,k2,k3,k9,A9,Cj,JV⟩
 simp only at hi jM lH hc hv FD k9 JV
 by_cases dA:(i:Int)<(vs.length:Int)
 ·obtain⟨u,hu⟩:∃u,outs[i]? = some u:=⟨_,List.getElem?_eq_getElem (by omega)⟩
  have lu:=lH u (List.mem_of_getElem? hu)
  have hu':low[i]? = some u:=by rw[←FD i (Nat.le_refl _)];exact hu
  obtain⟨x,hx⟩:∃x,vs[i]? = some x:=⟨_,List.getElem?_eq_getElem (by omega)⟩
  have lx:=Gs x (List.mem_of_getElem? hx)
  obtain⟨xt1,xt2⟩:=aaM lx ht
  have e1:bK 1 (iA vs) (VI i) (H.set b (.row g (L++outs.map tV++VI (top:Int)::R) 1 true))=some (.cU (tV x) 0):=aL (f:=tV) (t := .op) (size:=1) (k := .i64) hx rfl
  have w1:IntKind.i64.wrap ((o:Int)+(i:Int))=((o+i:Nat):Int):=wrapN _ (by omega) (by omega)
  have e2:=ad _ _ i (rd outs top) (by omega)
  have e3:=acZ (rd outs top) ho hu
  have e4:∀d:Nat,bQ lo 1 (.ptr b g (o+i) 0) (VI (d:Int)) (H.set b (.row g (L++outs.map tV++VI (top:Int)::R) 1 true))=some (H.set b (.row g (L++(outs.set i d).map tV++VI (top:Int)::R) 1 true)):=fun d=>by rw[aaK (rd outs top) ho (by omega) dL,mA]
  have w2:IntKind.i64.wrap ((x:Int)*(t:Int))=((x*t:Nat):Int):=wrapN _ (by simp) (by omega)
  have r1:=Ot (x*t)
  have q1:=NF (x*t) (by omega)
  have hm:=Nat.mod_lt (x*t) (show 0<1000000000 by decide)
  have hdv:=Nat.mod_add_div (x*t) 1000000000
  have wi:IntKind.i64.wrap ((i:Int)+1)=((i+1:Nat):Int):=wrapN (i+1) (by omega) (by omega)
  generalize hmq:x*t % 1000000000=m at *
  generalize hqq:x*t / 1000000000=q at *
  have w3:IntKind.i64.wrap ((u:Int)-(m:Int))=(u:Int)-(m:Int):=wrap64 (by omega) (by omega)
  have w4:IntKind.i64.wrap ((u:Int)-(m:Int)-(c:Int))=(u:Int)-(m:Int)-(c:Int):=wrap64 (by omega) (by omega)
  have step:∀r k:Nat,r<1000000000→r+m+c=u+1000000000*k→val 1000000000 (low.take (i+1))+1000000000^(i+1)*(q+k)=val 1000000000 ((outs.set i r).take (i+1))+t*val 1000000000 (vs.take (i+1))∧(∀d∈outs.set i r,d<1000000000)∧(∀j,i+1≤j→(outs.set i r)[j]? = low[j]?)∧(outs.set i r).length=n:=by
   intro r k hr hk
   refine⟨?_,lR lH hr,fun j hj=>by rw[List.getElem?_set_ne (by omega)];exact FD j (by omega),by rw[List.length_set];exact jM⟩
   rw[bC hu',bC hx,eI (by omega),Nat.pow_succ]
   exact Pc hv hk hdv
  by_cases h1:(u:Int)-(m:Int)-(c:Int)<0
  ·have w5:IntKind.i64.wrap ((u:Int)-(m:Int)-(c:Int)+1000000000)=(u:Int)-(m:Int)-(c:Int)+1000000000:=wrap64 (by omega) (by omega)
   have w6:IntKind.i64.wrap ((q:Int)+1)=((q+1:Nat):Int):=wrapN _ (by omega) (by omega)
   by_cases h2:(u:Int)-(m:Int)-(c:Int)+1000000000<0
   ·obtain⟨r,hr⟩:∃r:Nat,r+m+c=u+1000000000*2:=⟨u+1000000000*2-m-c,by omega⟩
    have w7:IntKind.i64.wrap ((u:Int)-(m:Int)-(c:Int)+1000000000+1000000000)=(r:Int):=wrapN r (by omega) (by omega)
    have w8:IntKind.i64.wrap (((q+1:Nat):Int)+1)=((q+2:Nat):Int):=wrapN _ (by omega) (by omega)
    obtain⟨s1,s2,s3,s4⟩:=step r 2 (by omega) hr
    simp only[jY,k0,k1,k2,k3,k9,A9,Cj,JV,dA,e1,e2,e3,e4,w1,w2,w3,w4,w5,w6,w7,w8,wi,r1,q1,h1,h2,VX,Nat.reduceEqDiff,Nat.reduceAdd]
    refine⟨(i+1,outs.set i r,q+2),by simp only;omega,by omega,rfl,s4,s2,by simp only;omega,s1,s3,?_⟩
    try (repeat' apply And.intro)<;>first | rfl | trivial
   ·obtain⟨r,hr⟩:∃r:Nat,r+m+c=u+1000000000*1:=⟨u+1000000000*1-m-c,by omega⟩
    have w7:IntKind.i64.wrap ((u:Int)-(m:Int)-(c:Int)+1000000000)=(r:Int):=wrapN r (by omega) (by omega)
    have h3:¬(r:Int)<0:=by omega
    obtain⟨s1,s2,s3,s4⟩:=step r 1 (by omega) hr
    simp only[jY,k0,k1,k2,k3,k9,A9,Cj,JV,dA,e1,e2,e3,e4,w1,w2,w3,w4,w6,w7,wi,r1,q1,h1,h3,VX,Nat.reduceEqDiff,Nat.reduceAdd]
    refine⟨(i+1,outs.set i r,q+1),by simp only;omega,by omega,rfl,s4,s2,by simp only;omega,s1,s3,?_⟩
    try (repeat' apply And.intro)<;>first | rfl | trivial
  ·obtain⟨r,hr⟩:∃r:Nat,r+m+c=u+1000000000*0:=⟨u-m-c,by omega⟩
   have w7:IntKind.i64.wrap ((u:Int)-(m:Int)-(c:Int))=(r:Int):=wrapN r (by omega) (by omega)
   have h3:¬(r:Int)<0:=by omega
   obtain⟨s1,s2,s3,s4⟩:=step r 0 (by omega) hr
   simp only[jY,k0,k1,k2,k3,k9,A9,Cj,JV,dA,e1,e2,e3,e4,w1,w2,w3,w7,wi,r1,q1,h3,VX,Nat.reduceEqDiff,Nat.reduceAdd]
   refine⟨(i+1,outs.set i r,q),by simp only;omega,by omega,rfl,s4,s2,by simp only;omega,s1,s3,?_⟩
   try (repeat' apply And.intro)<;>first | rfl | trivial
 ·have oB:i=n:=by omega
  subst oB
  rw[List.take_of_length_le (by omega),List.take_of_length_le (by omega),List.take_of_length_le (by omega)] at hv
  have w1:IntKind.i64.wrap ((o:Int)+(vs.length:Int))=((o+i:Nat):Int):=wrapN _ (by omega) (by omega)
  have e2:=ad _ _ i (rd outs top) (by omega)
  have e2':=ad _ _ i (rd outs ((top:Int)-(c:Int))) (by omega)
  have e3:=UJ (rd outs top) ho jM
  have e3':=UJ (rd outs ((top:Int)-(c:Int))) ho jM
  have e4:bQ lo 1 (.ptr b g (o+i) 0) (VI ((top:Int)-(c:Int))) (H.set b (.row g (L++outs.map tV++VI (top:Int)::R) 1 true))=some (H.set b (.row g (L++outs.map tV++VI ((top:Int)-(c:Int))::R) 1 true)):=by rw[YD (rd outs top) ho jM dL,mA]
  have w2:IntKind.i64.wrap ((top:Int)-(c:Int))=(top:Int)-(c:Int):=wrap64 (by omega) (by omega)
  simp only[jY,k0,k1,k2,k3,k9,A9,Cj,JV,dA,dV,w1,w2,e2,e2',e3,e3',e4,VX,Nat.reduceEqDiff,Nat.reduceAdd]
  refine⟨outs,c,rfl,jM,lH,hc,?_,hv⟩
  try rfl
theorem Yn {H:aA} {lo b g o n N:Nat} {z:Int} {L R:List VV} {low vs:List Nat} (hr:aH H b g=some (L++low.map tV++VI z::R,1,true)) (dL:lo≤b) (ho:L.length=o) (hl:low.length=n) (FE:vs.length=n) (hN:o+n<N) (CD:N≤70368744177664)
  (Zk:∀d∈low,d<1000000000) (Gs:∀d∈vs,d<1000000000) (hz : -1000000000≤z) (SX:z≤1000000000) :
  gQ 205 [.ref b g 0 N N,iA vs,VI (o:Int)] lo H fun r H'=>∃(As:List Nat) (c:Nat),H'=H.set b (.row g (L++As.map tV++VI (z+(c:Int))::R) 1 true)∧As.length=n∧(∀d∈As,d<1000000000)∧c≤1 ∧
   val 1000000000 low+val 1000000000 vs=val 1000000000 As+1000000000^n*c:=by
 refine gQ.walk ⟨true,false⟩ Gt (Nat.le_of_ble_eq_true rfl) ?_
 have rd:∀(s:List Nat) (z:Int),aH (H.set b (.row g (L++s.map tV++VI z::R) 1 true)) b g=some (L++s.map tV++VI z::R,1,true):=fun s z=>nK hr
 have ad:∀(K:aA) (es:List VV) (i:Nat),aH K b g=some (es,1,true)→i≤n→bK 1 (.ref b g 0 N N) (VI ((o+i:Nat):Int)) K=some (.ptr b g (o+i) 0):=fun K es i h hi=>by rw[bD h (by omega),Nat.zero_add]
 simp only[BY,yP,dV,VX,Nat.reduceEqDiff,Nat.reduceAdd]
 refine aT (fun(u:Nat×List Nat×Nat) ρ K=>u.1≤n∧K=H.set b (.row g (L++u.2.1.map tV++VI z::R) 1 true)∧u.2.1.length=n∧(∀d∈u.2.1,d<1000000000)∧u.2.2≤1∧val 1000000000 (low.take u.1)+val 1000000000 (vs.take u.1)=val 1000000000 (u.2.1.take u.1)+1000000000^u.1*u.2.2∧(∀j,u.1≤j→u.2.1[j]? = low[j]?) ∧
  ρ 0 = .ref b g 0 N N∧ρ 1=iA vs∧ρ 2=VI o∧ρ 6=VI u.2.2∧ρ 10=iA vs∧ρ 11=VI vs.length∧ρ 12=VI u.1) (fun u=>n-u.1) (0,low,0) ⟨Nat.zero_le _,(vX hr).symm,hl,Zk,by simp,by simp[val],fun _ _=>rfl,by (repeat' apply And.intro)<;>first | rfl | trivial⟩ ?_
 rintro⟨i,outs,c⟩ ρ K ⟨hi,rfl,jM,lH,hc,hv,FD,k0,k1,k2,k6,Yx,Wk,Hh⟩
 simp only at hi jM lH hc hv FD k6 Hh
 by_cases dA:(i:Int)<(vs.length:Int)
 ·obtain⟨u,hu⟩:∃u,outs[i]? = some u:=⟨_,List.getElem?_eq_getElem (by omega)⟩
  have lu:=lH u (List.mem_of_getElem? hu)
  have hu':low[i]? = some u:=by rw[←FD i (Nat.le_refl _)];exact hu
  obtain⟨x,hx⟩:∃x,vs[i]? = some x:=⟨_,List.getElem?_eq_getElem (by omega)⟩
  have lx:=Gs x (List.mem_of_getElem? hx)
  have e1:bK 1 (iA vs) (VI i) (H.set b (.row g (L++outs.map tV++VI z::R) 1 true))=some (.cU (tV x) 0):=aL (f:=tV) (t := .op) (size:=1) (k := .i64) hx rfl
  have w1:IntKind.i64.wrap ((o:Int)+(i:Int))=((o+i:Nat):Int):=wrapN _ (by omega) (by omega)
  have e2:=ad _ _ i (rd outs z) (by omega)
  have e3:=acZ (rd outs z) ho hu
  have e4:∀d:Nat,bQ lo 1 (.ptr b g (o+i) 0) (VI (d:Int)) (H.set b (.row g (L++outs.map tV++VI z::R) 1 true))=some (H.set b (.row g (L++(outs.set i d).map tV++VI z::R) 1 true)):=fun d=>by rw[aaK (rd outs z) ho (by omega) dL,mA]
  have w2:IntKind.i64.wrap ((u:Int)+(x:Int))=((u+x:Nat):Int):=wrapN _ (by omega) (by omega)
  have w3:IntKind.i64.wrap (((u+x:Nat):Int)+(c:Int))=((u+x+c:Nat):Int):=wrapN _ (by omega) (by omega)
  have r1:=Ot (u+x+c)
  have q1:=NF (u+x+c) (by omega)
  have wi:IntKind.i64.wrap ((i:Int)+1)=((i+1:Nat):Int):=wrapN (i+1) (by omega) (by omega)
  simp only[qX,k0,k1,k2,k6,Yx,Wk,Hh,dA,e1,e2,e3,e4,w1,w2,w3,wi,r1,q1,VX,Nat.reduceEqDiff,Nat.reduceAdd]
  refine⟨(i+1,outs.set i ((u+x+c) % 1000000000),(u+x+c) / 1000000000),by simp only;omega,by omega,rfl,by rw[List.length_set];exact jM,lR lH (Nat.mod_lt _ (by decide)),by simp only;omega,?_,fun j hj=>by rw[List.getElem?_set_ne (by omega)];exact FD j (by omega),?_⟩
  ·simp only
   rw[bC hu',bC hx,eI (by omega),Nat.pow_succ]
   exact EZ hv (show c+u+x=u+x+c by omega) (Nat.mod_add_div _ _)
  ·try (repeat' apply And.intro)<;>first | rfl | trivial
 ·have oB:i=n:=by omega
  subst oB
  rw[List.take_of_length_le (by omega),List.take_of_length_le (by omega),List.take_of_length_le (by omega)] at hv
  have w1:IntKind.i64.wrap ((o:Int)+(vs.length:Int))=((o+i:Nat):Int):=wrapN _ (by omega) (by omega)
  have e2:=ad _ _ i (rd outs z) (by omega)
  have e3:=UJ (rd outs z) ho jM
  have e4:bQ lo 1 (.ptr b g (o+i) 0) (VI (z+(c:Int))) (H.set b (.row g (L++outs.map tV++VI z::R) 1 true))=some (H.set b (.row g (L++outs.map tV++VI (z+(c:Int))::R) 1 true)):=by rw[YD (rd outs z) ho jM dL,mA]
  have w2:IntKind.i64.wrap (z+(c:Int))=z+(c:Int):=wrap64 (by omega) (by omega)
  simp only[qX,k0,k1,k2,k6,Yx,Wk,Hh,dA,dV,w1,w2,e2,e3,e4,VX,Nat.reduceEqDiff,Nat.reduceAdd]
  exact⟨outs,c,rfl,jM,lH,hc,hv⟩
end Go.PM
namespace Go.PM
theorem wD {d:Nat} {H:aA}:fz (d+1) H (.tree [] .nil)=some (bN 0):=by
 rw[DG]
 unfold fz
 have:aP (.tree [] .nil)=false:=by simp[aP]
 simp only[this,Bool.false_eq_true,if_false]
 rfl
theorem Zg {d:Nat} {H:aA} {m:Nat} {t:TK} (ht:t = .cl 1∨t = .op):fz (d+2) H (.tree ((aC 4294967296 m).map uV) t)=some (bN m):=by
 rcases ht with rfl | rfl
 ·unfold fz
  have:aP (.tree ((aC 4294967296 m).map uV) (.cl 1))=false:=by simp[aP]
  simp only[this,Bool.false_eq_true,if_false]
  rw[mapM_pure (gN fun _=>rfl)]
  rfl
 ·exact aJ (bR m)
abbrev H3 (us ws os:List Nat):aA:=[.row 0 (us.map uV) 1 true,.row 0 (ws.map uV) 1 true,.row 0 (os.map uV) 1 true]
theorem Cn {us ws os:List Nat}:aH (H3 us ws os) 0 0=some (us.map uV,1,true):=rfl
theorem aqW {us ws os:List Nat}:aH (H3 us ws os) 1 0=some (ws.map uV,1,true):=rfl
theorem agE {us ws os:List Nat}:aH (H3 us ws os) 2 0=some (os.map uV,1,true):=rfl
theorem X9 {us:List Nat} {i n N V:Nat} (hN:us.length=N) (dA:i+n<N) (hd:∀d∈us,d<4294967296) (hV:V<4294967296^n) (B1:val 4294967296 (us.drop (i+1))<V) :
  us=us.take i++(us.drop i).take (n+1)++us.drop (i+(n+1))∧(us.take i).length=i∧((us.drop i).take (n+1)).length=n+1∧val 4294967296 ((us.drop i).take (n+1))<4294967296*V∧val 4294967296 (us.drop i)=val 4294967296 ((us.drop i).take (n+1))∧val 4294967296 (us.drop (i+(n+1)))=0∧∀j,j<n+1→((us.drop i).take (n+1))[j]? = us[i+j]? := by
 obtain⟨x,hx⟩:∃x,us[i]? = some x:=⟨_,List.getElem?_eq_getElem (by omega)⟩
 have lx:=hd x (List.mem_of_getElem? hx)
 have h1:=rN (b:=4294967296) hx
 have h2:val 4294967296 (us.drop i)<4294967296*V:=by
  have:4294967296*(val 4294967296 (us.drop (i+1))+1)≤4294967296*V:=Nat.mul_le_mul_left _ B1
  omega
 have h3:=pA (b:=4294967296) (us.drop i) (n+1)
 have h4:((us.drop i).take (n+1)).length=n+1:=by rw[List.length_take,List.length_drop];omega
 rw[h4,List.drop_drop] at h3
 have h5:val 4294967296 (us.drop (i+(n+1)))=0:=by
  rcases Nat.eq_zero_or_pos (val 4294967296 (us.drop (i+(n+1)))) with h | h
  ·exact h
  ·have h6:4294967296^(n+1)*1≤4294967296^(n+1)*val 4294967296 (us.drop (i+(n+1))):=Nat.mul_le_mul_left _ h
   have h7:4294967296*V≤4294967296^(n+1):=by rw[Nat.pow_succ,Nat.mul_comm];exact Nat.mul_le_mul_right _ (by omega)
   omega
 rw[h5,Nat.mul_zero,Nat.add_zero] at h3
 refine⟨?_,by rw[List.length_take];omega,h4,by omega,h3,h5,fun j hj => ?_⟩
 ·rw[List.append_assoc,←List.drop_drop,List.take_append_drop,List.take_append_drop]
 ·rw[List.getElem?_take_of_lt hj,List.getElem?_drop]
theorem SG {x D p w:Nat} (hp:0<p) (hw:p*w=4294967296):(x+4294967296*D) / p=((D % 4294967296*4294967296+x) / p) % 4294967296+4294967296*(D / p)∨¬x<4294967296:=by
 rcases Nat.lt_or_ge x 4294967296 with hx | hx
 ·left
  have h1:(x+4294967296*D) / p / 4294967296=D / p:=by
   rw[Nat.div_div_eq_div_mul,Nat.mul_comm p,←Nat.div_div_eq_div_mul,Nat.add_mul_div_left _ _ (by decide),Nat.div_eq_of_lt hx,Nat.zero_add]
  have h2:(x+4294967296*D) / p % 4294967296=(D % 4294967296*4294967296+x) / p % 4294967296:=by
   have e:x+4294967296*D=(D % 4294967296*4294967296+x)+p*(4294967296*(w*(D / 4294967296))):=by
    have h3:=Nat.mod_add_div D 4294967296
    have h4:p*(4294967296*(w*(D / 4294967296)))=(p*w)*(4294967296*(D / 4294967296)):=by grind
    rw[h4,hw]
    omega
   rw[e,Nat.add_mul_div_left _ _ hp,Nat.add_mul_mod_self_left]
  have:=Nat.mod_add_div ((x+4294967296*D) / p) 4294967296
  rw[h1,h2] at this
  exact this.symm
 ·right
  omega
theorem S9 {x:Nat} (h0:x≠0) (hx:x<4294967296):∃s,s≤31∧TC 198 [uV x] (VI (s:Nat))∧x*2^s<4294967296:=by
 obtain⟨h1,h2,h3⟩:=Lib.bitLenAux_bounds 64 x (by omega) h0
 have h4:Lib.bitLenAux 64 x-1<32:=by
  have:2^(Lib.bitLenAux 64 x-1)<2^32:=by omega
  exact(Nat.pow_lt_pow_iff_right (by decide)).1 this
 refine⟨32-Lib.bitLenAux 64 x,by omega,?_,?_⟩
 ·have:=Xn x hx
  have e:(((32-Lib.bitLenAux 64 x:Nat)):Int)=32-(Lib.bitLen x:Int):=by unfold Lib.bitLen;omega
  rw[e]
  exact this
 ·have:2^Lib.bitLenAux 64 x*2^(32-Lib.bitLenAux 64 x)=4294967296:=by rw[←Nat.pow_add,show Lib.bitLenAux 64 x+(32-Lib.bitLenAux 64 x)=32 by omega]
  rw[←this]
  exact Nat.mul_lt_mul_of_pos_right h3 (Nat.pow_pos (by decide))
theorem WQ {us ws os:List Nat} {k N s w0:Nat} {ρ:dS} {Q:VQ} (hs:s≤31) (hw:2^s*w0=4294967296) (hN:us.length=N) (hk:k≤N) (CD:N≤70368744177664) (hd:∀d∈us,d<4294967296) (g8:ρ 8=VI s) (g9:ρ 9 = .ref 0 0 0 k N) (awS:ρ 147=VI k) (axP:ρ 148=VI 0)
  (hQ:∀(bJ:dS) (Fj:List Nat),bJ 9 = .ref 0 0 0 k N→bJ 13=ρ 13→Fj.length=N→(∀d∈Fj,d<4294967296)→val 4294967296 (Fj.take k)=val 4294967296 (us.take k) / 2^s→Q (.exit 4) bJ (H3 Fj ws os)) :
  VW ⟨true,false⟩ 0 (.loop kP) Q ρ (H3 us ws os):=by
 have hp:0<2^s:=Nat.pow_pos (by decide)
 refine aT (fun(t:Nat×List Nat) bJ H=>t.1≤k∧H=H3 t.2 ws os∧t.2.length=N∧(∀d∈t.2,d<4294967296)∧(∀j,t.1≤j→t.2[j]? = us[j]?)∧val 4294967296 (t.2.take t.1)+4294967296^t.1*(val 4294967296 ((us.take k).drop t.1) / 2^s)=val 4294967296 (us.take k) / 2^s ∧
  bJ 8=VI s∧bJ 9 = .ref 0 0 0 k N∧bJ 13=ρ 13∧bJ 147=VI k∧bJ 148=VI t.1) (fun t=>k-t.1) (0,us) ⟨Nat.zero_le _,rfl,hN,hd,fun _ _=>rfl,by simp[val],g8,g9,rfl,awS,axP⟩ ?_
 rintro⟨i,vs⟩ NA H ⟨hi,rfl,FE,Gs,FD,hv,k8,k9,A9,ajW,agJ⟩
 simp only at hi FE Gs FD hv agJ
 by_cases dA:(i:Int)<(k:Int)
 ·obtain⟨x,hx⟩:∃x,us[i]? = some x:=⟨_,List.getElem?_eq_getElem (by omega)⟩
  have hx2:vs[i]? = some x:=by rw[FD i (Nat.le_refl _)];exact hx
  have lx:=hd x (List.mem_of_getElem? hx)
  have hx3:(us.take k)[i]? = some x:=by rw[List.getElem?_take_of_lt (by omega)];exact hx
  have h1:=rN (b:=4294967296) hx3
  generalize hD:val 4294967296 ((us.take k).drop (i+1))=D at *
  have hlen:oK (.ref 0 0 0 k N) (H3 vs ws os)=some (VI k):=fL Cn
  have e1:bK 1 (.ref 0 0 0 k N) (VI i) (H3 vs ws os)=some (.ptr 0 0 i 0):=by rw[bD Cn (by omega),Nat.zero_add]
  have e2:cE false 1 (.ptr 0 0 i 0) (H3 vs ws os)=some (uV x):=iO Cn hx2
  have e3:∀d:Nat,bQ 0 1 (.ptr 0 0 i 0) (uV d) (H3 vs ws os)=some (H3 (vs.set i d) ws os):=fun d=>by
   rw[fJ (f:=uV) (e:=1) Cn (by omega) (Nat.le_refl _) rfl rfl]
   rfl
  have wi:IntKind.i64.wrap ((i:Int)+1)=((i+1:Nat):Int):=wrapN (i+1) (by omega) (by omega)
  have wx:IntKind.u64.wrap (x:Int)=(x:Int):=dW _ (by omega)
  have hm:=Nat.mod_lt D (show 0<4294967296 by decide)
  have w5:=DQ (D % 4294967296) .u64 hm
  have w6:IntKind.u64.wrap (((D % 4294967296*4294967296:Nat):Int)+(x:Int))=((D % 4294967296*4294967296+x:Nat):Int):=by rw[←Int.natCast_add];exact dW _ (by omega)
  have w7:=aaP (D % 4294967296*4294967296+x) s hs
  have sd:(x+4294967296*D) / 2^s=((D % 4294967296*4294967296+x) / 2^s) % 4294967296+4294967296*(D / 2^s):=by
   rcases SG (x:=x) (D:=D) hp hw with h | h
   ·exact h
   ·exact absurd lx h
  have next:∃s':Nat×List Nat,k-s'.1<k-i∧s'.1≤k∧H3 (vs.set i (((D % 4294967296*4294967296+x) / 2^s) % 4294967296)) ws os=H3 s'.2 ws os∧s'.2.length=N∧(∀d∈s'.2,d<4294967296)∧(∀j,s'.1≤j→s'.2[j]? = us[j]?)∧val 4294967296 (s'.2.take s'.1)+4294967296^s'.1*(val 4294967296 ((us.take k).drop s'.1) / 2^s)=val 4294967296 (us.take k) / 2^s∧s'.1=i+1:=by
   refine⟨(i+1,vs.set i (((D % 4294967296*4294967296+x) / 2^s) % 4294967296)),by simp only;omega,by simp only;omega,rfl,by simp only[List.length_set];exact FE,lR Gs (Nat.mod_lt _ (by decide)),fun j hj => ?_,?_,rfl⟩
   ·simp only at hj ⊢
    rw[List.getElem?_set_ne (by omega)]
    exact FD j (by omega)
   ·simp only
    rw[eI (by omega),hD,←hv,h1,sd,Nat.pow_succ]
    generalize (D % 4294967296*4294967296+x) / 2^s % 4294967296=q
    generalize D / 2^s=E
    rw[Nat.mul_add,Nat.mul_assoc,Nat.add_assoc]
  obtain⟨s',n1,n2,n3,n4,n5,n6,n7,n8⟩:=next
  by_cases apL:((i+1:Nat):Int)<(k:Int)
  ·obtain⟨h,hh⟩:∃h,us[i+1]? = some h:=⟨_,List.getElem?_eq_getElem (by omega)⟩
   have hh2:vs[i+1]? = some h:=by rw[FD (i+1) (by omega)];exact hh
   have hhD:D % 4294967296=h:=by
    have hh3:(us.take k)[i+1]? = some h:=by rw[List.getElem?_take_of_lt (by omega)];exact hh
    have:=rN (b:=4294967296) hh3
    rw[hD] at this
    have lh:=hd h (List.mem_of_getElem? hh)
    omega
   have f1:bK 1 (.ref 0 0 0 k N) (VI ((i+1:Nat):Int)) (H3 vs ws os)=some (.ptr 0 0 (i+1) 0):=by rw[bD Cn (by omega),Nat.zero_add]
   have f2:cE false 1 (.ptr 0 0 (i+1) 0) (H3 vs ws os)=some (uV h):=iO Cn hh2
   have wh:IntKind.u64.wrap (h:Int)=(h:Int):=dW _ (by omega)
   rw[hhD] at w5 w6 w7 n3
   simp only[kP,k8,k9,ajW,agJ,dA,apL,hlen,e1,e2,e3,f1,f2,wi,wx,wh,w5,w6,w7,wrap32,VX,Nat.reduceEqDiff,Nat.reduceAdd]
   exact⟨s',n1,n2,n3,n4,n5,n6,n7,A9,by rw[n8]⟩
  ·have hD0:D=0:=by
    rw[←hD,List.drop_of_length_le (by rw[List.length_take];omega)]
    rfl
   subst hD0
   have w5':dH .shl (.int .u64 0) (.int .u64 32)=some (.int .u64 0):=DQ 0 .u64 (by decide)
   have w6':IntKind.u64.wrap ((0:Int)+(x:Int))=(x:Int):=by rw[Int.zero_add];exact wx
   have w7':=aaP x s hs
   simp only[Nat.zero_mod,Nat.zero_mul,Nat.zero_add] at n3
   simp only[kP,k8,k9,ajW,agJ,dA,apL,hlen,e1,e2,e3,wi,wx,w5',w6',w7',wrap32,VX,Nat.reduceEqDiff,Nat.reduceAdd]
   exact⟨s',n1,n2,n3,n4,n5,n6,n7,A9,by rw[n8]⟩
 ·have oB:i=k:=by omega
  subst oB
  rw[List.drop_of_length_le (by rw[List.length_take];omega)] at hv
  simp only[val,Nat.zero_div,Nat.mul_zero,Nat.add_zero] at hv
  simp only[kP,k8,k9,ajW,agJ,dA,VX,Nat.reduceEqDiff,Nat.reduceAdd]
  exact hQ _ vs k9 A9 FE Gs hv
end Go.PM