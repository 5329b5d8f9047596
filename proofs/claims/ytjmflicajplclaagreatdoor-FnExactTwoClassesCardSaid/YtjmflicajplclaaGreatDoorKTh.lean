/- Texts of a claim, in one: part 8. -/
import Derived.Test.YtjmflicajplclaaGreatDoorKTg
set_option linter.unusedSimpArgs false
set_option linter.unusedVariables false
namespace Go.PM
theorem Ll {x:Int} {r:Nat} (h:x+4294967296=r) (hx:x<0) (hr:0≤x+4294967296):IntKind.u32.wrap x=(r:Int):=by rw[IntKind.wrap_u32];omega
theorem TF (n:Nat) (hn:n≤70368744177664):Ay [.int .u32 0] 4 (VI (n:Int)) (VI (n:Int)) []=some (.ref 0 0 0 n n,[.row 0 ((List.replicate n 0).map uV) 1 true]):=tH (f:=uV) (x:=0) rfl (by omega) (by omega)
theorem Qd {outs:List Nat} {i d:Nat} (hi:i<outs.length):bR 0 1 (.ptr 0 0 i 0) (uV d) [.row 0 (outs.map uV) 1 true]=some [.row 0 ((outs.set i d).map uV) 1 true]:=by
 rw[fK (f:=uV) (e:=1) iZ hi (Nat.le_refl _) rfl rfl]
 rfl
theorem Dh (a b:Nat) (Ef:b≤a) (ha:(aC 4294967296 a).length≤17592186044416):TC 146 [bN a,bN b] (bN (a-b)):=by
 refine TC.walk ⟨true,false⟩ HR rfl (Nat.le_of_ble_eq_true rfl) (by simp[aM,bS]) (pW _) ?_
 have va:=cI (b:=4294967296) (by decide) a
 have vb:=cI (b:=4294967296) (by decide) b
 have la:=fF (b:=4294967296) (by decide) a
 have lb:=fF (b:=4294967296) (by decide) b
 have hle:=dY (b:=4294967296) (by decide) Ef
 unfold bN
 generalize aC 4294967296 a=xs at *
 generalize aC 4294967296 b=ys at *
 simp only[Du,AS,TF xs.length (by omega),VX,Nat.reduceEqDiff,Nat.reduceAdd]
 refine aS (fun(s:Nat×List Nat×Nat) ρ H=>s.1≤xs.length∧H=[.row 0 (s.2.1.map uV) 1 true]∧s.2.1.length=xs.length∧(∀d∈s.2.1,d<4294967296)∧s.2.2≤1∧val 4294967296 (xs.take s.1)+4294967296^s.1*s.2.2=val 4294967296 (s.2.1.take s.1)+val 4294967296 (ys.take s.1) ∧
  ρ 0=A4 xs∧ρ 1=A4 ys∧ρ 5 = .ref 0 0 0 xs.length xs.length∧ρ 6=VI s.2.2∧ρ 13=VI xs.length∧ρ 14=VI s.1) (fun s=>xs.length-s.1) (0,List.replicate xs.length 0,0) ⟨Nat.zero_le _,rfl,by simp,Ag (by decide) _,by simp,by simp[val],rfl,rfl,rfl,rfl,rfl,rfl⟩ ?_
 rintro⟨i,outs,l⟩ ρ H ⟨hi,rfl,jL,lG,hc,hv,g0,g1,g5,g6,g13,g14⟩
 simp only at hi jL lG hc hv g6 g14
 by_cases dB:(i:Int)<(xs.length:Int)
 ·obtain⟨x,hx⟩:∃x,xs[i]? = some x:=⟨_,List.getElem?_eq_getElem (by omega)⟩
  have lx:=la x (List.mem_of_getElem? hx)
  have e1:=aK (f:=uV) (t := .op) (H:=[.row 0 (outs.map uV) 1 true]) (size:=1) (k := .i64) hx rfl
  have w1:IntKind.i64.wrap (x:Int)=(x:Int):=wrapN x rfl (by omega)
  have w2:IntKind.i64.wrap ((x:Int)-(l:Int))=(x:Int)-(l:Int):=wrap64 (by omega) (by omega)
  have wi:IntKind.i64.wrap ((i:Int)+1)=((i+1:Nat):Int):=wrapN (i+1) (by omega) (by omega)
  have e3:bK 1 (.ref 0 0 0 xs.length xs.length) (VI i) [.row 0 (outs.map uV) 1 true]=some (.ptr 0 0 i 0):=by rw[bE iZ (by omega),Nat.zero_add]
  have e4:∀s:Nat,bR 0 1 (.ptr 0 0 i 0) (uV s) [.row 0 (outs.map uV) 1 true]=some [.row 0 ((outs.set i s).map uV) 1 true]:=fun s=>Qd (by omega)
  have step:∀y r l':Nat,y<4294967296→r<4294967296→l'≤1→(∀d,ys[i]? = some d→d=y)→(ys.length≤i→y=0)→r+y+l=x+4294967296*l' →
    i+1≤xs.length∧(outs.set i r).length=xs.length∧(∀d∈outs.set i r,d<4294967296)∧l'≤1∧val 4294967296 (xs.take (i+1))+4294967296^(i+1)*l'=val 4294967296 ((outs.set i r).take (i+1))+val 4294967296 (ys.take (i+1)):=by
   intro y r l' _ hr BV h1 h2 hd
   refine⟨by omega,by rw[List.length_set];exact jL,lU lG hr,BV,?_⟩
   have hy:val 4294967296 (ys.take (i+1))=val 4294967296 (ys.take i)+4294967296^i*y:=by
    cases U4:ys[i]? with
    | some d=>rw[bD U4,h1 d U4]
    |
     none =>
     have hle:=List.getElem?_eq_none_iff.1 U4
     rw[h2 hle,jH hle,jH (by omega),Nat.mul_zero,Nat.add_zero]
   rw[bD hx,hy,eQ (by omega),Nat.pow_succ]
   exact JD hv hd
  by_cases bF:(i:Int)<(ys.length:Int)
  ·obtain⟨y,hy⟩:∃y,ys[i]? = some y:=⟨_,List.getElem?_eq_getElem (by omega)⟩
   have ly:=lb y (List.mem_of_getElem? hy)
   have e2:=aK (f:=uV) (t := .op) (H:=[.row 0 (outs.map uV) 1 true]) (size:=1) (k := .i64) hy rfl
   have w3:IntKind.i64.wrap (y:Int)=(y:Int):=wrapN y rfl (by omega)
   have w4:IntKind.i64.wrap ((x:Int)-(l:Int)-(y:Int))=(x:Int)-(l:Int)-(y:Int):=wrap64 (by omega) (by omega)
   by_cases oU:(x:Int)-(l:Int)-(y:Int)<0
   ·obtain⟨r,hr⟩:∃r:Nat,r+y+l=x+4294967296:=⟨x+4294967296-l-y,by omega⟩
    have w5:IntKind.u32.wrap ((x:Int)-(l:Int)-(y:Int))=(r:Int):=Ll (by omega) oU (by omega)
    obtain⟨s1,s2,s3,s4,s5⟩:=step y r 1 ly (by omega) (Nat.le_refl _) (fun d hd=>by rw[hy] at hd;injection hd with hd;exact hd.symm) (fun h=>by omega) (by omega)
    simp only[iK,g0,g1,g5,g6,g13,g14,dB,bF,oU,e1,e2,e3,e4,w1,w2,w3,w4,w5,wi,VX,Nat.reduceEqDiff,Nat.reduceAdd]
    exact⟨(i+1,outs.set i r,1),by simp only;omega,s1,rfl,s2,s3,s4,s5,by (repeat' apply And.intro)<;>first | rfl | trivial⟩
   ·obtain⟨r,hr⟩:∃r:Nat,r+y+l=x:=⟨x-l-y,by omega⟩
    have w5:IntKind.u32.wrap ((x:Int)-(l:Int)-(y:Int))=(r:Int):=by rw[IntKind.wrap_u32];omega
    obtain⟨s1,s2,s3,s4,s5⟩:=step y r 0 ly (by omega) (by omega) (fun d hd=>by rw[hy] at hd;injection hd with hd;exact hd.symm) (fun h=>by omega) (by omega)
    simp only[iK,g0,g1,g5,g6,g13,g14,dB,bF,oU,e1,e2,e3,e4,w1,w2,w3,w4,w5,wi,VX,Nat.reduceEqDiff,Nat.reduceAdd]
    exact⟨(i+1,outs.set i r,0),by simp only;omega,s1,rfl,s2,s3,s4,s5,by (repeat' apply And.intro)<;>first | rfl | trivial⟩
  ·by_cases oU:(x:Int)-(l:Int)<0
   ·obtain⟨r,hr⟩:∃r:Nat,r+l=x+4294967296:=⟨x+4294967296-l,by omega⟩
    have w5:IntKind.u32.wrap ((x:Int)-(l:Int))=(r:Int):=Ll (by omega) oU (by omega)
    obtain⟨s1,s2,s3,s4,s5⟩:=step 0 r 1 (by decide) (by omega) (Nat.le_refl _) (fun d hd=>by have:=(List.getElem?_eq_some_iff.1 hd).1;omega) (fun _=>rfl) (by omega)
    simp only[iK,g0,g1,g5,g6,g13,g14,dB,bF,oU,e1,e3,e4,w1,w2,w5,wi,VX,Nat.reduceEqDiff,Nat.reduceAdd]
    exact⟨(i+1,outs.set i r,1),by simp only;omega,s1,rfl,s2,s3,s4,s5,by (repeat' apply And.intro)<;>first | rfl | trivial⟩
   ·obtain⟨r,hr⟩:∃r:Nat,r+l=x:=⟨x-l,by omega⟩
    have w5:IntKind.u32.wrap ((x:Int)-(l:Int))=(r:Int):=by rw[IntKind.wrap_u32];omega
    obtain⟨s1,s2,s3,s4,s5⟩:=step 0 r 0 (by decide) (by omega) (by omega) (fun d hd=>by have:=(List.getElem?_eq_some_iff.1 hd).1;omega) (fun _=>rfl) (by omega)
    simp only[iK,g0,g1,g5,g6,g13,g14,dB,bF,oU,e1,e3,e4,w1,w2,w5,wi,VX,Nat.reduceEqDiff,Nat.reduceAdd]
    exact⟨(i+1,outs.set i r,0),by simp only;omega,s1,rfl,s2,s3,s4,s5,by (repeat' apply And.intro)<;>first | rfl | trivial⟩
 ·have nY:i=xs.length:=by omega
  subst nY
  rw[List.take_length,List.take_of_length_le (l:=ys) hle,List.take_of_length_le (l:=outs) (by omega),va,vb] at hv
  have dK:=oF lG
  rw[jL] at dK
  have Dx:val 4294967296 outs=a-b:=by
   rcases Nat.lt_or_ge l 1 with h | h
   ·have:l=0:=by omega
    subst this
    rw[Nat.mul_zero] at hv
    omega
   ·have:l=1:=by omega
    subst this
    rw[Nat.mul_one] at hv
    omega
  simp only[iK,g0,g1,g5,g6,g13,g14,dB,VX,Nat.reduceEqDiff,Nat.reduceAdd]
  refine rA (m:=a-b) iZ (by omega) (Nat.le_refl _) (by omega) (fun d hd=>lG d (List.mem_of_mem_take hd)) (by rw[List.take_of_length_le (by omega)];exact Dx) fun k hk he => ?_
  simp only[VX,Nat.reduceEqDiff,Nat.reduceAdd]
  exact PG iZ (by omega) hk he
theorem Rc {P Q A B Y x c r q o y W:Nat} (Ns:A+P*Q*c=B+P*(x*Y)) (h1:r+W*q=c+(x*y+o)):A+P*Q*r+P*Q*W*q=B+P*Q*o+P*(x*(Y+Q*y)):=by
 have h2:P*Q*(r+W*q)=P*Q*(c+(x*y+o)):=by rw[h1]
 grind
theorem iF (a b:Nat) (ha:(aC 4294967296 a).length≤17592186044416) (hb:(aC 4294967296 b).length≤17592186044416):TC 143 [bN a,bN b] (bN (a*b)):=by
 refine TC.walk ⟨true,false⟩ IC rfl (Nat.le_of_ble_eq_true rfl) (by simp[aM,bS]) (pW _) ?_
 have va:=cI (b:=4294967296) (by decide) a
 have vb:=cI (b:=4294967296) (by decide) b
 have la:=fF (b:=4294967296) (by decide) a
 have lb:=fF (b:=4294967296) (by decide) b
 unfold bN
 generalize aC 4294967296 a=xs at *
 generalize aC 4294967296 b=ys at *
 have w0:IntKind.i64.wrap ((xs.length:Int)+(ys.length:Int))=((xs.length+ys.length:Nat):Int):=wrapN _ (by omega) (by omega)
 simp only[CN,AW,w0,TF (xs.length+ys.length) (by omega),VX,Nat.reduceEqDiff,Nat.reduceAdd]
 generalize hN:xs.length+ys.length=N at *
 refine aS (fun(s:Nat×List Nat) ρ H=>s.1≤xs.length∧H=[.row 0 (s.2.map uV) 1 true]∧s.2.length=N∧(∀d∈s.2,d<4294967296)∧val 4294967296 (s.2.take (s.1+ys.length))=val 4294967296 (xs.take s.1)*b ∧
  ρ 0=A4 xs∧ρ 1=A4 ys∧ρ 5 = .ref 0 0 0 N N∧ρ 17=A4 xs∧ρ 18=VI xs.length∧ρ 19=VI s.1) (fun s=>xs.length-s.1) (0,List.replicate N 0) ⟨Nat.zero_le _,rfl,by simp,Ag (by decide) _,by simp[val,List.take_replicate,qQ],rfl,rfl,rfl,rfl,rfl,rfl⟩ ?_
 rintro⟨i,outs⟩ ρ H ⟨hi,rfl,jL,lG,hv,g0,g1,g5,g17,g18,g19⟩
 simp only at hi jL lG hv g19
 by_cases dB:(i:Int)<(xs.length:Int)
 ·obtain⟨x,hx⟩:∃x,xs[i]? = some x:=⟨_,List.getElem?_eq_getElem (by omega)⟩
  have lx:=la x (List.mem_of_getElem? hx)
  have e1:=aK (f:=uV) (t := .op) (H:=[.row 0 (outs.map uV) 1 true]) (size:=1) (k := .i64) hx rfl
  simp only[sO,g0,g1,g5,g17,g18,g19,dB,e1,VX,Nat.reduceEqDiff,Nat.reduceAdd]
  refine aS (fun(s:Nat×List Nat×Nat) ρ H=>s.1≤ys.length∧H=[.row 0 (s.2.1.map uV) 1 true]∧s.2.1.length=N∧(∀d∈s.2.1,d<4294967296)∧s.2.2<4294967296 ∧
   val 4294967296 (s.2.1.take (i+s.1))+4294967296^(i+s.1)*s.2.2=val 4294967296 (outs.take (i+s.1))+4294967296^i*(x*val 4294967296 (ys.take s.1))∧(∀j,i+s.1≤j→s.2.1[j]? = outs[j]?) ∧
   ρ 0=A4 xs∧ρ 1=A4 ys∧ρ 5 = .ref 0 0 0 N N∧ρ 6=VI i∧ρ 7=uV x∧ρ 8=VK .u64 s.2.2∧ρ 17=A4 xs∧ρ 18=VI xs.length∧ρ 19=VI i∧ρ 24=A4 ys∧ρ 25=VI ys.length∧ρ 26=VI s.1) (fun s=>ys.length-s.1) (0,outs,0) ⟨Nat.zero_le _,rfl,jL,lG,by simp,by simp[val],fun _ _=>rfl,by (repeat' apply And.intro)<;>first | rfl | trivial⟩ ?_
  rintro⟨k,os,c⟩ OB H ⟨hk,rfl,Qt,PB,hc,Ns,FR,k0,k1,k5,k6,k7,k8,Hu,YS,k19,k24,k25,k26⟩
  simp only at hk Qt PB hc Ns FR k8 k26
  have wi:IntKind.i64.wrap ((i:Int)+1)=((i+1:Nat):Int):=wrapN (i+1) (by omega) (by omega)
  by_cases Yi:(k:Int)<(ys.length:Int)
  ·obtain⟨y,hy⟩:∃y,ys[k]? = some y:=⟨_,List.getElem?_eq_getElem (by omega)⟩
   have ly:=lb y (List.mem_of_getElem? hy)
   obtain⟨o,ho⟩:∃o,os[i+k]? = some o:=⟨_,List.getElem?_eq_getElem (by omega)⟩
   have lo:=PB o (List.mem_of_getElem? ho)
   have ho':outs[i+k]? = some o:=by rw[←FR (i+k) (Nat.le_refl _)];exact ho
   have f1:=aK (f:=uV) (t := .op) (H:=[.row 0 (os.map uV) 1 true]) (size:=1) (k := .i64) hy rfl
   have w1:IntKind.i64.wrap ((i:Int)+(k:Int))=((i+k:Nat):Int):=wrapN _ (by omega) (by omega)
   have f2:bK 1 (.ref 0 0 0 N N) (VI ((i+k:Nat):Int)) [.row 0 (os.map uV) 1 true]=some (.ptr 0 0 (i+k) 0):=by rw[bE iZ (by omega),Nat.zero_add]
   have f3:bT false 1 (.ptr 0 0 (i+k) 0) [.row 0 (os.map uV) 1 true]=some (uV o):=iH iZ ho
   have f4:∀s:Nat,bR 0 1 (.ptr 0 0 (i+k) 0) (uV s) [.row 0 (os.map uV) 1 true]=some [.row 0 ((os.set (i+k) s).map uV) 1 true]:=fun s=>Qd (by omega)
   have An:x*y≤4294967295*4294967295:=Nat.mul_le_mul (by omega) (by omega)
   have w2:IntKind.u64.wrap (x:Int)=(x:Int):=dV _ (by omega)
   have w3:IntKind.u64.wrap (y:Int)=(y:Int):=dV _ (by omega)
   have w4:IntKind.u64.wrap (o:Int)=(o:Int):=dV _ (by omega)
   have w5:IntKind.u64.wrap ((x:Int)*(y:Int))=((x*y:Nat):Int):=by rw[←Int.natCast_mul];exact dV _ (by omega)
   have w6:IntKind.u64.wrap (((x*y:Nat):Int)+(o:Int))=((x*y+o:Nat):Int):=by rw[←Int.natCast_add];exact dV _ (by omega)
   have w7:IntKind.u64.wrap ((c:Int)+((x*y+o:Nat):Int))=((c+(x*y+o):Nat):Int):=by rw[←Int.natCast_add];exact dV _ (by omega)
   have wk:IntKind.i64.wrap ((k:Int)+1)=((k+1:Nat):Int):=wrapN (k+1) (by omega) (by omega)
   simp only[sU,k0,k1,k5,k6,k7,k8,Hu,YS,k19,k24,k25,k26,Yi,f1,f2,f3,f4,w1,w2,w3,w4,w5,w6,w7,wk,wrap32,nU,VX,Nat.reduceEqDiff,Nat.reduceAdd]
   have hq:(c+(x*y+o)) / 4294967296<4294967296:=Nat.div_lt_of_lt_mul (by omega)
   refine⟨(k+1,os.set (i+k) ((c+(x*y+o)) % 4294967296),(c+(x*y+o)) / 4294967296),by simp only;omega,by omega,rfl,by rw[List.length_set];exact Qt,lU PB (Nat.mod_lt _ (by decide)),hq,?_,fun j hj => ?_,by (repeat' apply And.intro)<;>first | rfl | trivial⟩
   ·have h1:=Nat.mod_add_div (c+(x*y+o)) 4294967296
    rw[←Nat.add_assoc,eQ (by omega),bD ho',bD hy,Nat.pow_succ]
    rw[Nat.pow_add] at Ns ⊢
    exact Rc Ns h1
   ·rw[List.getElem?_set_ne (by omega)]
    exact FR j (by omega)
  ·have hke:k=ys.length:=by omega
   subst hke
   rw[List.take_length,vb,hv] at Ns
   have w1:IntKind.i64.wrap ((i:Int)+(ys.length:Int))=((i+ys.length:Nat):Int):=wrapN _ (by omega) (by omega)
   have f2:bK 1 (.ref 0 0 0 N N) (VI ((i+ys.length:Nat):Int)) [.row 0 (os.map uV) 1 true]=some (.ptr 0 0 (i+ys.length) 0):=by rw[bE iZ (by omega),Nat.zero_add]
   have f4:∀s:Nat,bR 0 1 (.ptr 0 0 (i+ys.length) 0) (uV s) [.row 0 (os.map uV) 1 true]=some [.row 0 ((os.set (i+ys.length) s).map uV) 1 true]:=fun s=>Qd (by omega)
   simp only[sU,k0,k1,k5,k6,k7,k8,Hu,YS,k19,k24,k25,k26,Yi,f2,f4,w1,wi,wrap32,VX,Nat.reduceEqDiff,Nat.reduceAdd]
   refine⟨(i+1,os.set (i+ys.length) (c % 4294967296)),by simp only;omega,by omega,rfl,by rw[List.length_set];exact Qt,lU PB (Nat.mod_lt _ (by decide)),?_,by (repeat' apply And.intro)<;>first | rfl | trivial⟩
   rw[show i+1+ys.length=i+ys.length+1 by omega,eQ (by omega),Nat.mod_eq_of_lt hc,Ns,bD hx,Nat.add_mul,Nat.mul_assoc]
 ·have nY:i=xs.length:=by omega
  subst nY
  rw[hN,List.take_length,va,List.take_of_length_le (by omega)] at hv
  simp only[sO,g0,g1,g5,g17,g18,g19,dB,VX,Nat.reduceEqDiff,Nat.reduceAdd]
  refine rA (m:=a*b) iZ (by omega) (Nat.le_refl _) (by omega) (fun d hd=>lG d (List.mem_of_mem_take hd)) (by rw[List.take_of_length_le (by omega)];exact hv) fun k hk he => ?_
  simp only[VX,Nat.reduceEqDiff,Nat.reduceAdd]
  exact PG iZ (by omega) hk he
end Go.PM
namespace Go.PM
theorem set_drop {xs:List Nat} {i d:Nat} (h:i<xs.length):(xs.set i d).drop i=d::xs.drop (i+1):=by
 rw[List.drop_eq_getElem_cons (by rw[List.length_set];exact h),List.getElem_set_self,MZ h]
theorem VZ (n k:Nat) (hn:n≤70368744177664) {H:aA}:Ay [.int .u32 0] 4 (VI (n:Int)) (VI (n:Int)) H=some (.ref H.length 0 0 n n,H++[.row 0 ((List.replicate n 0).map uV) 1 true]):=tH (f:=uV) (x:=0) rfl (by omega) (by omega)
theorem QR {A q t r x d W:Nat} (h1:t+d*q=r*W+x):(q+W*A)*d+t=x+W*(A*d+r):=by grind
theorem UW {A B P S W c m x q:Nat} (hv:A+P*c=B*S) (h1:m*S+W*q=x*S):A+P*(c+m*S)+P*W*q=(B+P*x)*S:=by
 have h2:P*(m*S+W*q)=P*(x*S):=by rw[h1]
 grind
theorem vQ (a d:Nat) (Dp:0<d) (hdW:d<4294967296) (ha:(aC 4294967296 a).length≤17592186044416):TC 197 [bN a,uV d] (.dT [bN (a / d),uV (a % d)]):=by
 refine TC.walk ⟨true,false⟩ Cp rfl (Nat.le_of_ble_eq_true rfl) (by simp[aM,bS,aN,kB]) (by simp[gJ,qB,pW,kB]) ?_
 have va:=cI (b:=4294967296) (by decide) a
 have la:=fF (b:=4294967296) (by decide) a
 unfold bN
 generalize aC 4294967296 a=xs at *
 have w0:IntKind.i64.wrap ((xs.length:Int)-1)=(xs.length:Int)-1:=wrap64 (by omega) (by omega)
 have wd:IntKind.u64.wrap (d:Int)=(d:Int):=dV _ (by omega)
 simp only[vS,tB,w0,TF xs.length (by omega),VX,Nat.reduceEqDiff,Nat.reduceAdd]
 refine aS (fun(s:Nat×List Nat×Nat) ρ H=>s.1≤xs.length∧H=[.row 0 (s.2.1.map uV) 1 true]∧s.2.1.length=xs.length∧(∀d∈s.2.1,d<4294967296)∧s.2.2<d∧val 4294967296 (s.2.1.drop s.1)*d+s.2.2=val 4294967296 (xs.drop s.1) ∧
  ρ 0=A4 xs∧ρ 1=uV d∧ρ 6 = .ref 0 0 0 xs.length xs.length∧ρ 7=VK .u64 s.2.2∧ρ 8=VI ((s.1:Int)-1)) (fun s=>s.1) (xs.length,List.replicate xs.length 0,0) ⟨Nat.le_refl _,rfl,by simp,Ag (by decide) _,Dp,by simp[val,List.drop_replicate],rfl,rfl,rfl,rfl,rfl⟩ ?_
 rintro⟨j,outs,r⟩ ρ H ⟨hj,rfl,jL,lG,hr,hv,g0,g1,g6,g7,g8⟩
 simp only at hj jL lG hr hv g7 g8
 by_cases hz:(0:Int)≤(j:Int)-1
 ·obtain⟨i,rfl⟩:∃i,j=i+1:=⟨j-1,by omega⟩
  obtain⟨x,hx⟩:∃x,xs[i]? = some x:=⟨_,List.getElem?_eq_getElem (by omega)⟩
  have lx:=la x (List.mem_of_getElem? hx)
  have HD:((i+1:Nat):Int)-1=(i:Int):=by omega
  rw[HD] at g8 hz
  have e1:=aK (f:=uV) (t := .op) (H:=[.row 0 (outs.map uV) 1 true]) (size:=1) (k := .i64) hx rfl
  have e3:bK 1 (.ref 0 0 0 xs.length xs.length) (VI i) [.row 0 (outs.map uV) 1 true]=some (.ptr 0 0 i 0):=by rw[bE iZ (by omega),Nat.zero_add]
  have e4:∀s:Nat,bR 0 1 (.ptr 0 0 i 0) (uV s) [.row 0 (outs.map uV) 1 true]=some [.row 0 ((outs.set i s).map uV) 1 true]:=fun s=>Qd (by omega)
  have w2:IntKind.i64.wrap ((i:Int)-1)=(i:Int)-1:=wrap64 (by omega) (by omega)
  have w3:IntKind.u64.wrap (x:Int)=(x:Int):=dV _ (by omega)
  have w4:IntKind.u64.wrap (((r*4294967296:Nat):Int)+(x:Int))=((r*4294967296+x:Nat):Int):=by rw[←Int.natCast_add];exact dV _ (by omega)
  have w5:=D1 r .u64 (by omega)
  have q1:=Vv (r*4294967296+x) d (by omega) Dp
  have q2:=Ph (r*4294967296+x) d Dp
  have hq:(r*4294967296+x) / d<4294967296:=by
   rw[Nat.div_lt_iff_lt_mul Dp]
   have:(r+1)*4294967296≤d*4294967296:=Nat.mul_le_mul_right _ hr
   rw[Nat.mul_comm 4294967296 d]
   omega
  simp only[mV,g0,g1,g6,g7,g8,hz,e1,e3,e4,w2,w3,w4,w5,wd,q1,q2,wrap32,Nat.mod_eq_of_lt hq,VX,Nat.reduceEqDiff,Nat.reduceAdd]
  refine⟨(i,outs.set i ((r*4294967296+x) / d),(r*4294967296+x) % d),by simp only;omega,by omega,rfl,by rw[List.length_set];exact jL,lU lG hq,Nat.mod_lt _ Dp,?_,by (repeat' apply And.intro)<;>first | rfl | trivial⟩
  have h1:=Nat.mod_add_div (r*4294967296+x) d
  rw[set_drop (by omega),rX,rM hx,←hv]
  exact QR h1
 ·have QA:j=0:=by omega
  subst QA
  rw[List.drop_zero,List.drop_zero,va] at hv
  have h1:a / d=val 4294967296 outs:=by
   rw[←hv,Nat.mul_comm,Nat.mul_add_div Dp,Nat.div_eq_of_lt hr,Nat.add_zero]
  have h2:a % d=r:=by
   rw[←hv,Nat.mul_comm,Nat.mul_add_mod,Nat.mod_eq_of_lt hr]
  simp only[mV,g0,g1,g6,g7,g8,hz,VX,Nat.reduceEqDiff,Nat.reduceAdd]
  refine rA (m:=a / d) iZ (by omega) (Nat.le_refl _) (by omega) (fun d hd=>lG d (List.mem_of_mem_take hd)) (by rw[List.take_of_length_le (by omega)];exact h1.symm) fun k hk he => ?_
  simp only[wrap32,Nat.mod_eq_of_lt (show r<4294967296 by omega),g7,VX,Nat.reduceEqDiff,Nat.reduceAdd]
  rw[h2]
  exact bO (d:=6) (Ks (d:=5) iZ (by omega) hk he) (aJ rfl)
theorem G9 {n g e:Nat} {es:List VV} {w:Bool}:aI (List.replicate n cO.dead++[.row g es e w]) n g=some (es,e,w):=by rw[Bz];exact bA
theorem awD {n:Nat} (xs:List Nat):nX n (xs.map uV)=true:=by
 rw[Dd]
 intro x hx
 obtain⟨y,_,rfl⟩:=List.mem_map.1 hx
 rfl
theorem xD (a s:Nat) (hs:s≤31) (ha:(aC 4294967296 a).length≤17592186044416):FC 199 [bN a,VI s] fun n r L=>∃outs:List Nat,r = .ref n 0 0 ((aC 4294967296 a).length+1) ((aC 4294967296 a).length+1)∧L=[.row 0 (outs.map uV) 1 true]∧outs.length=(aC 4294967296 a).length+1∧(∀d∈outs,d<4294967296)∧val 4294967296 outs=a*2^s∧(∀d,outs[(aC 4294967296 a).length]? = some d→d<2^s):=by
 refine FC.walk ⟨true,false⟩ Dc (Nat.le_of_ble_eq_true rfl) fun n => ?_
 have va:=cI (b:=4294967296) (by decide) a
 have la:=fF (b:=4294967296) (by decide) a
 unfold bN
 generalize aC 4294967296 a=xs at *
 have hS:0<2^s:=Nat.pow_pos (by decide)
 have hSW:2^s*2^(32-s)=4294967296:=by rw[←Nat.pow_add,show s+(32-s)=32 by omega]
 have w0:IntKind.i64.wrap ((xs.length:Int)+1)=((xs.length+1:Nat):Int):=wrapN _ (by omega) (by omega)
 simp only[xT,uR,w0,VZ (xs.length+1) n (by omega),List.length_replicate,VX,Nat.reduceEqDiff,Nat.reduceAdd]
 refine aS (fun(t:Nat×List Nat×Nat) ρ H=>t.1≤xs.length∧H=List.replicate n .dead++[.row 0 (t.2.1.map uV) 1 true]∧t.2.1.length=xs.length+1∧(∀d∈t.2.1,d<4294967296)∧t.2.1[t.1]? = some t.2.2∧t.2.2<2^s∧val 4294967296 (t.2.1.take t.1)+4294967296^t.1*t.2.2=val 4294967296 (xs.take t.1)*2^s ∧
  ρ 1=VI s∧ρ 5 = .ref n 0 0 (xs.length+1) (xs.length+1)∧ρ 13=A4 xs∧ρ 14=VI xs.length∧ρ 15=VI t.1) (fun t=>xs.length-t.1) (0,List.replicate (xs.length+1) 0,0) ⟨Nat.zero_le _,rfl,by simp,Ag (by decide) _,by simp,hS,by simp[val],rfl,rfl,rfl,rfl,rfl⟩ ?_
 rintro⟨i,outs,c⟩ ρ H ⟨hi,rfl,jL,lG,hoc,hc,hv,g1,g5,g13,g14,g15⟩
 simp only at hi jL lG hoc hc hv g15
 by_cases dB:(i:Int)<(xs.length:Int)
 ·obtain⟨x,hx⟩:∃x,xs[i]? = some x:=⟨_,List.getElem?_eq_getElem (by omega)⟩
  have lx:=la x (List.mem_of_getElem? hx)
  have e1:=aK (f:=uV) (t := .op) (H:=List.replicate n .dead++[.row 0 (outs.map uV) 1 true]) (size:=1) (k := .i64) hx rfl
  have wx:IntKind.u64.wrap (x:Int)=(x:Int):=dV _ (by omega)
  have wi:IntKind.i64.wrap ((i:Int)+1)=((i+1:Nat):Int):=wrapN (i+1) (by omega) (by omega)
  have w5:=amO x s lx hs
  obtain⟨m,hm⟩:∃m,(x*2^s) % 4294967296=m*2^s:=by
   refine⟨x % 2^(32-s),?_⟩
   rw[←hSW,Nat.mul_comm x,Nat.mul_mod_mul_left,Nat.mul_comm]
  have hhi:(x*2^s) / 4294967296<2^s:=by
   rw[Nat.div_lt_iff_lt_mul (by decide),Nat.mul_comm (2^s)]
   exact Nat.mul_lt_mul_of_pos_right lx hS
  have bF:(x*2^s) % 4294967296<4294967296:=Nat.mod_lt _ (by decide)
  have hmm:m<2^(32-s):=by
   have:m*2^s<2^(32-s)*2^s:=by rw[←hm,Nat.mul_comm (2^(32-s)) (2^s),hSW];exact bF
   exact Nat.lt_of_mul_lt_mul_right this
  have ayF:m*2^s+c<4294967296:=by
   have:(m+1)*2^s≤2^(32-s)*2^s:=Nat.mul_le_mul_right _ hmm
   rw[Nat.mul_comm (2^(32-s)),hSW,Nat.add_mul] at this
   omega
  have or1:=alB c m s hc ayF
  have e3:bK 1 (.ref n 0 0 (xs.length+1) (xs.length+1)) (VI i) (List.replicate n .dead++[.row 0 (outs.map uV) 1 true])=some (.ptr n 0 i 0):=by rw[bE G9 (by omega),Nat.zero_add]
  have e4:bT false 1 (.ptr n 0 i 0) (List.replicate n .dead++[.row 0 (outs.map uV) 1 true])=some (uV c):=iH G9 hoc
  have e5:∀(os:List Nat) (j t:Nat),j<os.length→bR n 1 (.ptr n 0 j 0) (uV t) (List.replicate n .dead++[.row 0 (os.map uV) 1 true])=some (List.replicate n .dead++[.row 0 ((os.set j t).map uV) 1 true]):=fun os j t hj=>by
   rw[fK (f:=uV) (e:=1) G9 hj (Nat.le_refl _) rfl rfl,BI]
   rfl
  have e6:bK 1 (.ref n 0 0 (xs.length+1) (xs.length+1)) (VI ((i+1:Nat):Int)) (List.replicate n .dead++[.row 0 ((outs.set i (c+m*2^s)).map uV) 1 true])=some (.ptr n 0 (i+1) 0):=by rw[bE G9 (by omega),Nat.zero_add]
  have e7:=e5 outs i (c+m*2^s) (by omega)
  have e8:=e5 (outs.set i (c+m*2^s)) (i+1) ((x*2^s) / 4294967296) (by rw[List.length_set];omega)
  have hq:(x*2^s) / 4294967296 % 4294967296=(x*2^s) / 4294967296:=Nat.mod_eq_of_lt (by
   have:2^s≤2^31:=Nat.pow_le_pow_right (by decide) hs
   omega)
  simp only[nJ,g1,g5,g13,g14,g15,dB,e1,e3,e4,e6,e7,e8,wx,wi,w5,wrap32,nU,hm,or1,hq,VX,Nat.reduceEqDiff,Nat.reduceAdd]
  refine⟨(i+1,(outs.set i (c+m*2^s)).set (i+1) ((x*2^s) / 4294967296),(x*2^s) / 4294967296),by simp only;omega,by omega,rfl,by rw[List.length_set,List.length_set];exact jL,
   lU (lU lG (by omega)) (by
    have:2^s≤2^31:=Nat.pow_le_pow_right (by decide) hs
    omega),by rw[List.getElem?_set_self (by rw[List.length_set];omega)],hhi,?_,by (repeat' apply And.intro)<;>first | rfl | trivial⟩
  rw[List.take_set_of_le (Nat.le_refl _),eQ (by omega),bD hx,Nat.pow_succ]
  have h1:=Nat.mod_add_div (x*2^s) 4294967296
  rw[hm] at h1
  exact UW hv h1
 ·have nY:i=xs.length:=by omega
  subst nY
  rw[List.take_length,va] at hv
  have Dx:val 4294967296 outs=a*2^s:=by
   have h1:=bD (b:=4294967296) hoc
   rw[List.take_of_length_le (by omega)] at h1
   rw[h1]
   exact hv
  simp only[nJ,g1,g5,g13,g14,g15,dB,VX,Nat.reduceEqDiff,Nat.reduceAdd]
  exact⟨_,rfl,by simp[fB],by simp[eV,awD outs],outs,rfl,jL,lG,Dx,fun d hd=>by rw[hoc] at hd;injection hd with hd;omega⟩
end Go.PM
namespace Go.PM
theorem PD (n:Nat) (hn:n≤35184372088832):Ay [.int .i64 0] 8 (VI (n:Int)) (VI (n:Int)) []=some (.ref 0 0 0 n n,[.row 0 ((List.replicate n 0).map tV) 1 true]):=tH (f:=tV) (x:=0) rfl (by omega) (by omega)
theorem Pm {outs:List Nat} {i d:Nat} (hi:i<outs.length):bR 0 1 (.ptr 0 0 i 0) (VI (d:Int)) [.row 0 (outs.map tV) 1 true]=some [.row 0 ((outs.set i d).map tV) 1 true]:=by
 rw[show VI (d:Int)=tV d from rfl,fK (f:=tV) (e:=1) Ku hi (Nat.le_refl _) rfl rfl]
 rfl
theorem Le {b g:Nat} {rows:List Nat} {w:Bool} {H:aA} {j d:Nat} (hr:aI H b g=some (rows.map tV,1,w)) (hj:rows[j]? = some d):bT false 1 (.ptr b g j 0) H=some (VI (d:Int)):=oV hr hj
theorem adT {n i:Nat} {outs:List Nat} (h:i<n):bK 1 (.ref 0 0 0 n n) (VI (i:Int)) [.row 0 (outs.map tV) 1 true]=some (.ptr 0 0 i 0):=by rw[bE Ku h,Nat.zero_add]
theorem wr {x:Int} (n:Nat) (h:x=n) (hn:n≤9223372036854775807):IntKind.i64.wrap x=(n:Int):=wrapN n h hn
theorem zA (a b:Nat) (Ef:b≤a) (ha:(aC 1000000000 a).length≤17592186044416):TC 156 [bY a,bY b] (bY (a-b)):=by
 refine TC.walk ⟨true,false⟩ Gy rfl (Nat.le_of_ble_eq_true rfl) (by simp[aM,cH]) (mY _) ?_
 have hle:=dY (b:=1000000000) (by decide) Ef
 simp only[Ca,zB,KC,cM,VX,Nat.reduceEqDiff,Nat.reduceAdd]
 refine aS (fun(s:Nat×List Nat×Nat) ρ H=>s.1=s.2.1.length∧s.1≤(aC 1000000000 a).length∧H=[.row s.2.1.length (s.2.1.map tV) 1 true]∧(∀d∈s.2.1,d<1000000000)∧s.2.2≤1∧val 1000000000 ((aC 1000000000 a).take s.1)+1000000000^s.1*s.2.2=val 1000000000 s.2.1+val 1000000000 ((aC 1000000000 b).take s.1) ∧
  ρ 0=bY a∧ρ 1=bY b∧ρ 5 = .ref 0 s.2.1.length 0 s.2.1.length s.2.1.length∧ρ 6=VI s.2.2∧ρ 11=VI (aC 1000000000 a).length∧ρ 12=VI s.1) (fun s=>(aC 1000000000 a).length-s.1) (0,[],0) ⟨rfl,Nat.zero_le _,rfl,by simp,by simp,by simp[val],rfl,rfl,rfl,rfl,rfl,rfl⟩ ?_
 rintro⟨i,outs,l⟩ ρ H ⟨hi,Ke,rfl,lG,hc,hv,g0,g1,g5,g6,g11,g12⟩
 simp only at hi Ke lG hc hv g5 g6 g12
 by_cases dB:(i:Int)<((aC 1000000000 a).length:Int)
 ·have hx:=Lh (b:=1000000000) (by decide) (n:=a) (i:=i) (by omega)
  have e1:bK 1 (bY a) (VI i) [.row outs.length (outs.map tV) 1 true]=some (.cN (tV (a / 1000000000^i % 1000000000)) 0):=aK (f:=tV) (t := .op) (size:=1) (k := .i64) hx rfl
  have c2:=CP b i
  have t1:=EG (b:=1000000000) (aC 1000000000 a) i
  have t2:=EG (b:=1000000000) (aC 1000000000 b) i
  rw[IT (by decide)] at t1 t2
  have lx:=Nat.mod_lt (a / 1000000000^i) (show 0<1000000000 by decide)
  have ly:=Nat.mod_lt (b / 1000000000^i) (show 0<1000000000 by decide)
  generalize a / 1000000000^i % 1000000000=x at *
  generalize b / 1000000000^i % 1000000000=y at *
  have wi:IntKind.i64.wrap ((i:Int)+1)=((i+1:Nat):Int):=wrapN (i+1) (by omega) (by omega)
  have w1:IntKind.i64.wrap ((x:Int)-(y:Int))=(x:Int)-(y:Int):=wrap64 (by omega) (by omega)
  have w2:IntKind.i64.wrap ((x:Int)-(y:Int)-(l:Int))=(x:Int)-(y:Int)-(l:Int):=wrap64 (by omega) (by omega)
  have step:∀r l':Nat,r<1000000000→l'≤1→r+y+l=x+1000000000*l'→(∀d∈outs++[r],d<1000000000)∧val 1000000000 ((aC 1000000000 a).take (i+1))+1000000000^(i+1)*l'=val 1000000000 (outs++[r])+val 1000000000 ((aC 1000000000 b).take (i+1)):=by
   intro r l' hr _ hd
   refine⟨fun d h => ?_,?_⟩
   ·rcases List.mem_append.1 h with h | h
    ·exact lG d h
    ·rw[List.mem_singleton.1 h];exact hr
   ·rw[t1,t2,sI,←hi,Nat.pow_succ]
    exact JD hv hd
  by_cases oU:(x:Int)-(y:Int)-(l:Int)<0
  ·obtain⟨r,hr⟩:∃r:Nat,r+y+l=x+1000000000:=⟨x+1000000000-l-y,by omega⟩
   have w3:IntKind.i64.wrap ((x:Int)-(y:Int)-(l:Int)+1000000000)=(r:Int):=wrapN r (by omega) (by omega)
   obtain⟨s1,s2⟩:=step r 1 (by omega) (Nat.le_refl _) (by omega)
   have a1:=afX (ds:=outs) (d:=r) (by omega)
   simp only[mQ,g0,g1,g5,g6,g11,g12,dB,e1,c2,w1,w2,w3,wi,oU,sB,uK,a1,VX,Nat.reduceEqDiff,Nat.reduceAdd]
   refine⟨(i+1,outs++[r],1),by simp only;omega,by simp;omega,by simp only;omega,by simp,s1,Nat.le_refl _,s2,?_⟩
   simp only[List.length_append,List.length_singleton]
   try (repeat' apply And.intro)<;>first | rfl | trivial
  ·obtain⟨r,hr⟩:∃r:Nat,r+y+l=x:=⟨x-l-y,by omega⟩
   obtain⟨s1,s2⟩:=step r 0 (by omega) (by omega) (by omega)
   have er:(x:Int)-(y:Int)-(l:Int)=(r:Int):=by omega
   have a1:=afX (ds:=outs) (d:=r) (by omega)
   have w3:IntKind.i64.wrap ((x:Int)-(y:Int)-(l:Int))=(r:Int):=wrapN r er (by omega)
   have Cv:¬(r:Int)<0:=by omega
   simp only[mQ,g0,g1,g5,g6,g11,g12,dB,e1,c2,w1,w3,wi,Cv,sB,uK,a1,VX,Nat.reduceEqDiff,Nat.reduceAdd]
   refine⟨(i+1,outs++[r],0),by simp only;omega,by simp;omega,by simp only;omega,by simp,s1,Nat.zero_le _,s2,?_⟩
   simp only[List.length_append,List.length_singleton]
   try (repeat' apply And.intro)<;>first | rfl | trivial
 ·have nY:i=(aC 1000000000 a).length:=by omega
  rw[nY,List.take_length,List.take_of_length_le (l:=aC 1000000000 b) hle,cI (by decide),cI (by decide)] at hv
  have dK:=oF lG
  rw[←hi,nY] at dK
  have Dx:val 1000000000 outs=a-b:=by
   rcases Nat.lt_or_ge l 1 with h | h
   ·have:l=0:=by omega
    subst this
    rw[Nat.mul_zero] at hv
    omega
   ·have:l=1:=by omega
    subst this
    rw[Nat.mul_one] at hv
    omega
  simp only[mQ,g0,g1,g5,g6,g11,g12,dB,VX,Nat.reduceEqDiff,Nat.reduceAdd]
  refine HS lG rfl (by omega) Dx ?_
  simp only[VX,Nat.reduceEqDiff,Nat.reduceAdd]
  exact QI _
theorem gY (a b:Nat) (ha:(aC 1000000000 a).length≤17592186044416) (hb:(aC 1000000000 b).length≤17592186044416):TC 152 [bY a,bY b] (bY (a*b)):=by
 refine TC.walk ⟨true,false⟩ HX rfl (Nat.le_of_ble_eq_true rfl) (by simp[aM,cH]) (mY _) ?_
 have va:=cI (b:=1000000000) (by decide) a
 have vb:=cI (b:=1000000000) (by decide) b
 have la:=fF (b:=1000000000) (by decide) a
 have lb:=fF (b:=1000000000) (by decide) b
 unfold bY
 generalize aC 1000000000 a=xs at *
 generalize aC 1000000000 b=ys at *
 have w0:IntKind.i64.wrap ((xs.length:Int)+(ys.length:Int))=((xs.length+ys.length:Nat):Int):=wrapN _ (by omega) (by omega)
 simp only[CQ,Ax,dW,w0,PD (xs.length+ys.length) (by omega),VX,Nat.reduceEqDiff,Nat.reduceAdd]
 generalize hN:xs.length+ys.length=N at *
 refine aS (fun(s:Nat×List Nat) ρ H=>s.1≤xs.length∧H=[.row 0 (s.2.map tV) 1 true]∧s.2.length=N∧(∀d∈s.2,d<1000000000)∧val 1000000000 (s.2.take (s.1+ys.length))=val 1000000000 (xs.take s.1)*b∧(∀j,s.1+ys.length≤j→j<N→s.2[j]? = some 0) ∧
  ρ 0=gZ xs∧ρ 1=gZ ys∧ρ 5 = .ref 0 0 0 N N∧ρ 17=VI xs.length∧ρ 18=VI s.1) (fun s=>xs.length-s.1) (0,List.replicate N 0) ⟨Nat.zero_le _,rfl,by simp,Ag (by decide) _,by simp[val,List.take_replicate,qQ],fun j _ h=>by simp[List.getElem?_replicate,h],rfl,rfl,rfl,rfl,rfl⟩ ?_
 rintro⟨i,outs⟩ ρ H ⟨hi,rfl,jL,lG,hv,hzr,g0,g1,g5,g17,g18⟩
 simp only at hi jL lG hv hzr g18
 by_cases dB:(i:Int)<(xs.length:Int)
 ·obtain⟨x,hx⟩:∃x,xs[i]? = some x:=⟨_,List.getElem?_eq_getElem (by omega)⟩
  have lx:=la x (List.mem_of_getElem? hx)
  have e1:∀os:List Nat,bK 1 (gZ xs) (VI i) [.row 0 (os.map tV) 1 true]=some (.cN (tV x) 0):=fun os=>aK (f:=tV) (t := .op) (size:=1) (k := .i64) hx rfl
  simp only[rR,g0,g1,g5,g17,g18,dB,dW,VX,Nat.reduceEqDiff,Nat.reduceAdd]
  refine aS (fun(s:Nat×List Nat×Nat) ρ H=>s.1≤ys.length∧H=[.row 0 (s.2.1.map tV) 1 true]∧s.2.1.length=N∧(∀d∈s.2.1,d<1000000000)∧s.2.2<1000000000 ∧
   val 1000000000 (s.2.1.take (i+s.1))+1000000000^(i+s.1)*s.2.2=val 1000000000 (outs.take (i+s.1))+1000000000^i*(x*val 1000000000 (ys.take s.1))∧(∀j,i+s.1≤j→s.2.1[j]? = outs[j]?) ∧
   ρ 0=gZ xs∧ρ 1=gZ ys∧ρ 5 = .ref 0 0 0 N N∧ρ 6=VI i∧ρ 7=VI s.2.2∧ρ 17=VI xs.length∧ρ 18=VI i∧ρ 22=VI ys.length∧ρ 23=VI s.1) (fun s=>ys.length-s.1) (0,outs,0) ⟨Nat.zero_le _,rfl,jL,lG,by simp,by simp[val],fun _ _=>rfl,by (repeat' apply And.intro)<;>first | rfl | trivial⟩ ?_
  rintro⟨k,os,c⟩ OB H ⟨hk,rfl,Qt,PB,hc,Ns,FR,k0,k1,k5,k6,k7,Hu,YS,k22,k23⟩
  simp only at hk Qt PB hc Ns FR k7 k23
  have wi:IntKind.i64.wrap ((i:Int)+1)=((i+1:Nat):Int):=wrapN (i+1) (by omega) (by omega)
  by_cases Yi:(k:Int)<(ys.length:Int)
  ·obtain⟨y,hy⟩:∃y,ys[k]? = some y:=⟨_,List.getElem?_eq_getElem (by omega)⟩
   have ly:=lb y (List.mem_of_getElem? hy)
   obtain⟨o,ho⟩:∃o,os[i+k]? = some o:=⟨_,List.getElem?_eq_getElem (by omega)⟩
   have lo:=PB o (List.mem_of_getElem? ho)
   have ho':outs[i+k]? = some o:=by rw[←FR (i+k) (Nat.le_refl _)];exact ho
   have f1:bK 1 (gZ ys) (VI k) [.row 0 (os.map tV) 1 true]=some (.cN (tV y) 0):=aK (f:=tV) (t := .op) (size:=1) (k := .i64) hy rfl
   have w1:IntKind.i64.wrap ((i:Int)+(k:Int))=((i+k:Nat):Int):=wrapN _ (by omega) (by omega)
   have f2:bK 1 (.ref 0 0 0 N N) (VI ((i+k:Nat):Int)) [.row 0 (os.map tV) 1 true]=some (.ptr 0 0 (i+k) 0):=adT (by omega)
   have f3:bT false 1 (.ptr 0 0 (i+k) 0) [.row 0 (os.map tV) 1 true]=some (VI (o:Int)):=Le Ku ho
   have f4:∀s:Nat,bR 0 1 (.ptr 0 0 (i+k) 0) (VI (s:Int)) [.row 0 (os.map tV) 1 true]=some [.row 0 ((os.set (i+k) s).map tV) 1 true]:=fun s=>Pm (by omega)
   have An:x*y≤999999999*999999999:=Nat.mul_le_mul (by omega) (by omega)
   have w5:IntKind.i64.wrap ((x:Int)*(y:Int))=((x*y:Nat):Int):=wrapN _ (by simp) (by omega)
   have w6:IntKind.i64.wrap ((o:Int)+((x*y:Nat):Int))=((o+x*y:Nat):Int):=wrapN _ (by omega) (by omega)
   have w7:IntKind.i64.wrap (((o+x*y:Nat):Int)+(c:Int))=((o+x*y+c:Nat):Int):=wrapN _ (by omega) (by omega)
   have wk:IntKind.i64.wrap ((k:Int)+1)=((k+1:Nat):Int):=wrapN (k+1) (by omega) (by omega)
   have r1:=Om (o+x*y+c)
   have q1:=N4 (o+x*y+c) (by omega)
   simp only[sR,k0,k1,k5,k6,k7,Hu,YS,k22,k23,Yi,e1,f1,f2,f3,f4,w1,w5,w6,w7,wk,r1,q1,VX,Nat.reduceEqDiff,Nat.reduceAdd]
   have hq:(o+x*y+c) / 1000000000<1000000000:=Nat.div_lt_of_lt_mul (by omega)
   refine⟨(k+1,os.set (i+k) ((o+x*y+c) % 1000000000),(o+x*y+c) / 1000000000),by simp only;omega,by omega,rfl,by rw[List.length_set];exact Qt,lU PB (Nat.mod_lt _ (by decide)),hq,?_,fun j hj => ?_,by (repeat' apply And.intro)<;>first | rfl | trivial⟩
   ·have h1:=Nat.mod_add_div (o+x*y+c) 1000000000
    rw[show o+x*y+c=c+(x*y+o) by omega] at h1 ⊢
    rw[←Nat.add_assoc,eQ (by omega),bD ho',bD hy,Nat.pow_succ]
    rw[Nat.pow_add] at Ns ⊢
    exact Rc Ns h1
   ·rw[List.getElem?_set_ne (by omega)]
    exact FR j (by omega)
  ·have hke:k=ys.length:=by omega
   subst hke
   rw[List.take_length,vb,hv] at Ns
   have w1:IntKind.i64.wrap ((i:Int)+(ys.length:Int))=((i+ys.length:Nat):Int):=wrapN _ (by omega) (by omega)
   have D9:os[i+ys.length]? = some 0:=by rw[FR _ (Nat.le_refl _)];exact hzr _ (Nat.le_refl _) (by omega)
   have f2:bK 1 (.ref 0 0 0 N N) (VI ((i+ys.length:Nat):Int)) [.row 0 (os.map tV) 1 true]=some (.ptr 0 0 (i+ys.length) 0):=adT (by omega)
   have f3:bT false 1 (.ptr 0 0 (i+ys.length) 0) [.row 0 (os.map tV) 1 true]=some (VI ((0:Nat):Int)):=Le Ku D9
   have f4:∀s:Nat,bR 0 1 (.ptr 0 0 (i+ys.length) 0) (VI (s:Int)) [.row 0 (os.map tV) 1 true]=some [.row 0 ((os.set (i+ys.length) s).map tV) 1 true]:=fun s=>Pm (by omega)
   have w2:IntKind.i64.wrap (((0:Nat):Int)+(c:Int))=(c:Int):=wrapN _ (by omega) (by omega)
   simp only[sR,k0,k1,k5,k6,k7,Hu,YS,k22,k23,Yi,dW,f2,f3,f4,w1,w2,wi,VX,Nat.reduceEqDiff,Nat.reduceAdd]
   refine⟨(i+1,os.set (i+ys.length) c),by simp only;omega,by omega,rfl,by rw[List.length_set];exact Qt,lU PB hc,?_,fun j hj Y4 => ?_,by (repeat' apply And.intro)<;>first | rfl | trivial⟩
   ·rw[show i+1+ys.length=i+ys.length+1 by omega,eQ (by omega),Ns,bD hx,Nat.add_mul,Nat.mul_assoc]
   ·rw[List.getElem?_set_ne (by omega),FR j (by omega)]
    exact hzr j (by omega) Y4
 ·have nY:i=xs.length:=by omega
  subst nY
  rw[hN,List.take_length,va,List.take_of_length_le (by omega)] at hv
  simp only[rR,g0,g1,g5,g17,g18,dB,VX,Nat.reduceEqDiff,Nat.reduceAdd]
  refine HS (m:=a*b) lG jL.symm (by omega) hv ?_
  simp only[VX,Nat.reduceEqDiff,Nat.reduceAdd]
  exact QI _
theorem Cb (a:Nat) (ha:(aC 1000000000 a).length≤17592186044416):TC 201 [bY a] (if (aC 1000000000 a).length≤2 then .dT [VI a,VB true] else .dT [VI 0,VB false]):=by
 refine TC.walk ⟨true,false⟩ J3 rfl (Nat.le_of_ble_eq_true rfl) (by simp[aM,cH]) (by split<;>rfl) ?_
 by_cases h2:(aC 1000000000 a).length≤2
 ·rw[if_pos h2]
  have h3:¬(2:Int)<((aC 1000000000 a).length:Int):=by omega
  have c0:TC 186 [bY a,VI 0] (VI ((a % 1000000000:Nat):Int)):=by have:=CP a 0;rwa [Nat.pow_zero,Nat.div_one] at this
  have c1:TC 186 [bY a,VI 1] (VI ((a / 1000000000 % 1000000000:Nat):Int)):=by have:=CP a 1;rwa [Nat.pow_one] at this
  have bF:=gL (b:=1000000000) (by decide) a
  have hp:1000000000^(aC 1000000000 a).length≤1000000000^2:=Nat.pow_le_pow_right (by decide) h2
  have hm:a / 1000000000<1000000000:=Nat.div_lt_of_lt_mul (by omega)
  rw[Nat.mod_eq_of_lt hm] at c1
  have hmd:=Nat.mod_add_div a 1000000000
  have w1:IntKind.i64.wrap (1000000000*((a / 1000000000:Nat):Int))=((1000000000*(a / 1000000000):Nat):Int):=wrapN _ (by omega) (by omega)
  have w2:IntKind.i64.wrap (((a % 1000000000:Nat):Int)+((1000000000*(a / 1000000000):Nat):Int))=(a:Int):=wrapN _ (by omega) (by omega)
  simp only[zW,vK,cM,h3,c0,c1,w1,w2,VX,Nat.reduceEqDiff,Nat.reduceAdd]
  exact aF rfl
 ·rw[if_neg h2]
  have h3:(2:Int)<((aC 1000000000 a).length:Int):=by omega
  simp only[zW,vK,cM,h3,VX,Nat.reduceEqDiff,Nat.reduceAdd]
  exact aF rfl
theorem adE {outs:List Nat} {n cap x:Nat} (hn:n=outs.length) (hc:n<cap):eW 0 1 8 (.ref 0 0 0 n cap) [VI (x:Int)] [.row 0 ((outs++List.replicate (cap-n) 0).map tV) 1 true]=some (.ref 0 0 0 (n+1) cap,[.row 0 (((outs++[x])++List.replicate (cap-(n+1)) 0).map tV) 1 true]):=by
 subst hn
 simp only[eW,bA,List.length_map,List.length_append,List.length_replicate,List.length_cons,List.length_nil,Nat.zero_add]
 rw[if_pos ⟨by decide,by decide⟩,if_pos ⟨trivial,Nat.le_refl _,by omega⟩,if_pos (by omega),if_neg (by omega),if_pos (by omega)]
 congr 3
 have e:List.replicate (cap-outs.length) 0=(0:Nat)::List.replicate (cap-(outs.length+1)) 0:=by
  rw[show cap-outs.length=(cap-(outs.length+1))+1 by omega,List.replicate_succ]
 simp only[cY,List.set_cons_zero,e,List.map_append,List.map_cons,List.length_cons,List.length_nil,List.map_nil]
 congr 1
 rw[List.take_left' (by simp),←List.drop_drop,List.drop_left' (by simp)]
 simp
theorem yA (a d:Nat) (Dp:0<d) (hd:d<1000000000) (ha:(aC 1000000000 a).length<17592186044416):TC 203 [bY a,VI (d:Int)] (bY (a*d)):=by
 refine TC.walk ⟨true,false⟩ Ft rfl (Nat.le_of_ble_eq_true rfl) (by simp[aM,cH];rfl) (mY _) ?_
 have w0:IntKind.i64.wrap (((aC 1000000000 a).length:Int)+1)=(((aC 1000000000 a).length+1:Nat):Int):=wrapN _ (by omega) (by omega)
 have mk:Ay [.int .i64 0] 8 (VI 0) (VI (((aC 1000000000 a).length+1:Nat):Int)) []=some (.ref 0 0 0 0 ((aC 1000000000 a).length+1),[.row 0 ((([]:List Nat)++List.replicate ((aC 1000000000 a).length+1-0) 0).map tV) 1 true]):=by
  simp only[Ay]
  rw[if_pos ⟨by omega,by omega,by omega,by omega⟩]
  simp
  rfl
 simp only[A0,xR,cM,w0,mk,VX,Nat.reduceEqDiff,Nat.reduceAdd]
 refine aS (fun(s:Nat×List Nat×Nat) ρ H=>s.1=s.2.1.length∧s.1≤(aC 1000000000 a).length∧H=[.row 0 ((s.2.1++List.replicate ((aC 1000000000 a).length+1-s.1) 0).map tV) 1 true]∧s.2.2<d∧aC 1000000000 (a*d)=s.2.1++aC 1000000000 (a / 1000000000^s.1*d+s.2.2) ∧
  ρ 1=VI d∧ρ 5 = .ref 0 0 0 s.1 ((aC 1000000000 a).length+1)∧ρ 6=VI s.2.2∧ρ 14=bY a∧ρ 15=VI (aC 1000000000 a).length∧ρ 16=VI s.1) (fun s=>(aC 1000000000 a).length-s.1) (0,[],0) ⟨rfl,Nat.zero_le _,rfl,Dp,by simp,rfl,rfl,rfl,rfl,rfl,rfl⟩ ?_
 rintro⟨i,outs,c⟩ ρ H ⟨hi,Ke,rfl,hc,hv,g1,g5,g6,g14,g15,g16⟩
 simp only at hi Ke hc hv g5 g6 g16
 by_cases dB:(i:Int)<((aC 1000000000 a).length:Int)
 ·have hx:=Lh (b:=1000000000) (by decide) (n:=a) (i:=i) (by omega)
  have hA:=(DN (b:=1000000000) (by decide) (n:=a) (i:=i)).1 (by omega)
  have e1:∀H,bK 1 (bY a) (VI i) H=some (.cN (tV (a / 1000000000^i % 1000000000)) 0):=fun H=>aK (f:=tV) (t := .op) (size:=1) (k := .i64) hx rfl
  have lx:=Nat.mod_lt (a / 1000000000^i) (show 0<1000000000 by decide)
  have fC:a / 1000000000^i*d+c≠0:=by
   have:=Nat.mul_ne_zero hA (show d≠0 by omega)
   omega
  rw[Yf (by decide) fC,←rJ] at hv
  generalize a / 1000000000^i % 1000000000=x at *
  have hxd:x*d≤999999999*999999999:=Nat.mul_le_mul (by omega) (by omega)
  have w1:IntKind.i64.wrap ((x:Int)*(d:Int))=((x*d:Nat):Int):=wrapN _ (by simp) (by omega)
  have w2:IntKind.i64.wrap (((x*d:Nat):Int)+(c:Int))=((x*d+c:Nat):Int):=wrapN _ (by omega) (by omega)
  have wi:IntKind.i64.wrap ((i:Int)+1)=((i+1:Nat):Int):=wrapN (i+1) (by omega) (by omega)
  have r1:=Om (x*d+c)
  have q1:=N4 (x*d+c) (by omega)
  have a1:=adE (outs:=outs) (n:=i) (cap:=(aC 1000000000 a).length+1) (x:=(x*d+c) % 1000000000) hi (by omega)
  have hq:(x*d+c) / 1000000000<d:=by
   rw[Nat.div_lt_iff_lt_mul (by decide)]
   have h1:x*d≤999999999*d:=Nat.mul_le_mul_right _ (by omega)
   omega
  simp only[lH,g1,g5,g6,g14,g15,g16,dB,e1,w1,w2,wi,r1,q1,sB,uK,a1,VX,Nat.reduceEqDiff,Nat.reduceAdd]
  refine⟨(i+1,outs++[(x*d+c) % 1000000000],(x*d+c) / 1000000000),by simp only;omega,by simp;omega,by simp only;omega,rfl,hq,by rw[hv,List.append_assoc];rfl,?_⟩
  try (repeat' apply And.intro)<;>first | rfl | trivial
 ·have nY:i=(aC 1000000000 a).length:=by omega
  have hz:a / 1000000000^i=0:=by
   have:=mt (DN (b:=1000000000) (by decide) (n:=a) (i:=i)).2
   omega
  rw[hz,Nat.zero_mul,Nat.zero_add] at hv
  by_cases hcp:(0:Int)<(c:Int)
  ·rw[DD (b:=1000000000) (by decide) (show c≠0 by omega) (show c<1000000000 by omega)] at hv
   have a1:=adE (outs:=outs) (n:=i) (cap:=(aC 1000000000 a).length+1) (x:=c) hi (by omega)
   simp only[lH,g1,g5,g6,g14,g15,g16,dB,hcp,sB,uK,a1,VX,Nat.reduceEqDiff,Nat.reduceAdd]
   rw[bY,hv]
   rw[VG bA (by simp;omega) (by omega) (gP fun _=>rfl)]
   rw[List.map_append,List.take_left' (by simp;omega)]
  ·have hc0:c=0:=by omega
   rw[hc0,cB,List.append_nil] at hv
   simp only[lH,g1,g5,g6,g14,g15,g16,dB,hcp,VX,Nat.reduceEqDiff,Nat.reduceAdd]
   rw[bY,hv]
   rw[VG bA (by simp;omega) (by omega) (gP fun _=>rfl)]
   rw[List.map_append,List.take_left' (by simp;omega)]
theorem Kr (a b:Nat) (ha:a≤9223372036854775807) (hb:0<b):dI .quo (.int .i64 (a:Int)) (.int .i64 (b:Int))=some (.int .i64 ((a / b:Nat):Int)):=by
 have h1:¬((b:Int)=0):=by omega
 have h2:(a:Int).tdiv (b:Int)=((a / b:Nat):Int):=by rw[Int.tdiv_eq_ediv_of_nonneg (by omega)];simp
 have h3:a / b≤a:=Nat.div_le_self _ _
 simp only[dI,if_true,h1,if_false,h2]
 generalize a / b=q at *
 rw[wrap64 (by omega) (by omega)]
theorem KD (a b:Nat) (hb:0<b):dI .rem (.int .i64 (a:Int)) (.int .i64 (b:Int))=some (.int .i64 ((a % b:Nat):Int)):=by
 have h1:¬((b:Int)=0):=by omega
 have h2:(a:Int).tmod (b:Int)=((a % b:Nat):Int):=by rw[Int.tmod_eq_emod_of_nonneg (by omega)];simp
 simp only[dI,if_true,h1,if_false,h2]
theorem adK {r d x:Nat} (hr:r<d) (hd:d<1000000000) (hx:x<1000000000):r*1000000000+x≤9223372036854775807:=by omega
theorem amB {r d x:Nat} (Dp:0<d) (hr:r<d) (hx:x<1000000000):(r*1000000000+x) / d<1000000000:=by
 rw[Nat.div_lt_iff_lt_mul Dp]
 omega
theorem yJ (a d:Nat) (Dp:0<d) (hdT:d<1000000000) (ha:(aC 1000000000 a).length≤17592186044416):TC 202 [bY a,VI (d:Int)] (.dT [bY (a / d),VI ((a % d:Nat):Int)]):=by
 refine TC.walk ⟨true,false⟩ Fy rfl (Nat.le_of_ble_eq_true rfl) (by simp[aM,cH];rfl) (by simp[gJ,qB,mY,kB]) ?_
 have va:=cI (b:=1000000000) (by decide) a
 have la:=fF (b:=1000000000) (by decide) a
 unfold bY
 generalize aC 1000000000 a=xs at *
 have w0:IntKind.i64.wrap ((xs.length:Int)-1)=(xs.length:Int)-1:=wrap64 (by omega) (by omega)
 simp only[AN,xS,dW,w0,PD xs.length (by omega),VX,Nat.reduceEqDiff,Nat.reduceAdd]
 refine aS (fun(s:Nat×List Nat×Nat) ρ H=>s.1≤xs.length∧H=[.row 0 (s.2.1.map tV) 1 true]∧s.2.1.length=xs.length∧(∀d∈s.2.1,d<1000000000)∧s.2.2<d∧val 1000000000 (s.2.1.drop s.1)*d+s.2.2=val 1000000000 (xs.drop s.1) ∧
  ρ 0=gZ xs∧ρ 1=VI d∧ρ 6 = .ref 0 0 0 xs.length xs.length∧ρ 7=VI s.2.2∧ρ 8=VI ((s.1:Int)-1)) (fun s=>s.1) (xs.length,List.replicate xs.length 0,0) ⟨Nat.le_refl _,rfl,by simp,Ag (by decide) _,Dp,by simp[val,List.drop_replicate],rfl,rfl,rfl,rfl,rfl⟩ ?_
 rintro⟨j,outs,r⟩ ρ H ⟨hj,rfl,jL,lG,hr,hv,g0,g1,g6,g7,g8⟩
 simp only at hj jL lG hr hv g7 g8
 by_cases hz:(0:Int)≤(j:Int)-1
 ·obtain⟨i,rfl⟩:∃i,j=i+1:=⟨j-1,by omega⟩
  obtain⟨x,hx⟩:∃x,xs[i]? = some x:=⟨_,List.getElem?_eq_getElem (by omega)⟩
  have lx:=la x (List.mem_of_getElem? hx)
  have HD:((i+1:Nat):Int)-1=(i:Int):=by omega
  rw[HD] at g8 hz
  have e1:=aK (f:=tV) (t := .op) (H:=[.row 0 (outs.map tV) 1 true]) (size:=1) (k := .i64) hx rfl
  have e3:bK 1 (.ref 0 0 0 xs.length xs.length) (VI i) [.row 0 (outs.map tV) 1 true]=some (.ptr 0 0 i 0):=adT (by omega)
  have e4:∀s:Nat,bR 0 1 (.ptr 0 0 i 0) (VI (s:Int)) [.row 0 (outs.map tV) 1 true]=some [.row 0 ((outs.set i s).map tV) 1 true]:=fun s=>Pm (by omega)
  have w2:IntKind.i64.wrap ((i:Int)-1)=(i:Int)-1:=wrap64 (by omega) (by omega)
  have w4:IntKind.i64.wrap ((r:Int)*1000000000)=((r*1000000000:Nat):Int):=wrapN _ (by omega) (by omega)
  have w5:IntKind.i64.wrap (((r*1000000000:Nat):Int)+(x:Int))=((r*1000000000+x:Nat):Int):=wrapN _ (by omega) (by omega)
  have CB:r*1000000000+x≤9223372036854775807:=adK hr hdT lx
  have q1:=Kr (r*1000000000+x) d CB Dp
  have q2:=KD (r*1000000000+x) d Dp
  have hq:(r*1000000000+x) / d<1000000000:=amB Dp hr lx
  simp only[pN,g0,g1,g6,g7,g8,hz,e1,e3,e4,w2,w4,w5,q1,q2,VX,Nat.reduceEqDiff,Nat.reduceAdd]
  refine⟨(i,outs.set i ((r*1000000000+x) / d),(r*1000000000+x) % d),by simp only;omega,by omega,rfl,by rw[List.length_set];exact jL,lU lG hq,Nat.mod_lt _ Dp,?_,by (repeat' apply And.intro)<;>first | rfl | trivial⟩
  have h1:=Nat.mod_add_div (r*1000000000+x) d
  rw[set_drop (by omega),rX,rM hx,←hv]
  exact QR h1
 ·have QA:j=0:=by omega
  subst QA
  rw[List.drop_zero,List.drop_zero,va] at hv
  have h1:a / d=val 1000000000 outs:=by
   rw[←hv,Nat.mul_comm,Nat.mul_add_div Dp,Nat.div_eq_of_lt hr,Nat.add_zero]
  have h2:a % d=r:=by
   rw[←hv,Nat.mul_comm,Nat.mul_add_mod,Nat.mod_eq_of_lt hr]
  simp only[pN,g0,g1,g6,g7,g8,hz,VX,Nat.reduceEqDiff,Nat.reduceAdd]
  refine HS (m:=a / d) lG jL.symm (by omega) h1.symm ?_
  simp only[g7,VX,Nat.reduceEqDiff,Nat.reduceAdd]
  rw[h2]
  exact aF (by simp[aN,aM,xB,bY,kB])
end Go.PM
namespace Go.PM
theorem Qp {H:aA} {b b' g:Nat} {x:cO} (h:b≠b'):aI (H.set b x) b' g=aI H b' g:=by
 unfold aI
 rw[List.getElem?_set_ne h]
theorem nE {H:aA} {b g e:Nat} {es mT:List VV} {w w':Bool} (h:aI H b g=some (es,e,w)):aI (H.set b (.row g mT e w')) b g=some (mT,e,w'):=by
 have bF:b<H.length:=by
  unfold aI at h
  split at h
  ·rename_i hb
   exact(List.getElem?_eq_some_iff.1 hb).1
  ·cases h
 unfold aI
 rw[List.getElem?_set_self bF]
 simp
theorem lZ {H:aA} {b:Nat} {x y:cO}:(H.set b x).set b y=H.set b y:=by rw[List.set_set]
theorem wA {H:aA} {b g e:Nat} {es:List VV} {w:Bool} (h:aI H b g=some (es,e,w)):H.set b (.row g es e w)=H:=by
 apply List.ext_getElem?
 intro i
 by_cases hi:b=i
 ·subst hi
  unfold aI at h
  split at h
  ·rename_i hb
   split at h
   ·rename_i hg
    cases h
    rw[List.getElem?_set_self (List.getElem?_eq_some_iff.1 hb).1,hb,hg]
   ·cases h
  ·cases h
 ·rw[List.getElem?_set_ne hi]
theorem Zo {H:aA} {b g o i lo d:Nat} {pre iB post:List Nat} (hr:aI H b g=some ((pre++iB++post).map uV,1,true)) (ho:pre.length=o) (hi:i<iB.length) (dK:lo≤b) :
  bR lo 1 (.ptr b g (o+i) 0) (uV d) H=some (H.set b (.row g ((pre++iB.set i d++post).map uV) 1 true)):=by
 rw[fK (f:=uV) (e:=1) hr (by simp only[List.length_append];omega) dK rfl rfl,WW ho hi]
theorem Uj {H:aA} {lo b g o L c b2 g2 n2 c2 t:Nat} {pre iB post vs NQ:List Nat} {w2:Bool} (hr:aI H b g=some ((pre++iB++post).map uV,1,true)) (hr2:aI H b2 g2=some (NQ.map uV,1,w2)) (hb:b≠b2) (dK:lo≤b)
  (ho:pre.length=o) (hL:iB.length=L) (aAV:L≤70368744177664) (Qw:NQ.take n2=vs) (hn2:n2≤NQ.length) (hle:n2≤L) (Xj:∀d∈iB,d<4294967296) (Gz:∀d∈vs,d<4294967296) (ht:t<4294967296) (sZ:t*val 4294967296 vs≤val 4294967296 iB+val 4294967296 vs) :
  gV 200 [.ref b g o L c,.ref b2 g2 0 n2 c2,VK .u64 t] lo H fun r H'=>∃qM:List Nat,H'=H.set b (.row g ((pre++qM++post).map uV) 1 true)∧qM.length=L∧(∀d∈qM,d<4294967296) ∧
   ((r=VB false∧val 4294967296 qM+t*val 4294967296 vs=val 4294967296 iB)∨(r=VB true∧val 4294967296 iB<t*val 4294967296 vs∧val 4294967296 qM+t*val 4294967296 vs=val 4294967296 iB+val 4294967296 vs)):=by
 refine gV.walk ⟨true,false⟩ JO (Nat.le_of_ble_eq_true rfl) ?_
 have FT:vs.length=n2:=by rw[←Qw,List.length_take];omega
 have rG:∀i,i<n2→NQ[i]? = vs[i]? := fun i hi=>by rw[←Qw,List.getElem?_take_of_lt hi]
 have Qt:=oF Xj
 have Ns:=oF Gz
 rw[hL] at Qt
 rw[FT] at Ns
 have hVL:val 4294967296 vs≤4294967296^L:=Nat.le_trans (Nat.le_of_lt Ns) (Nat.pow_le_pow_right (by decide) hle)
 have e0:∀ {K:aA} {es:List VV},aI K b g=some (es,1,true)→oI (.ref b g o L c) K=some (VI L):=fun h=>fQ h
 have e00:∀ {K:aA},aI K b2 g2=some (NQ.map uV,1,w2)→oI (.ref b2 g2 0 n2 c2) K=some (VI n2):=fun h=>fQ h
 have rd:∀(s:List Nat),s.length=L→aI (H.set b (.row g ((pre++s++post).map uV) 1 true)) b g=some ((pre++s++post).map uV,1,true):=fun s _=>nE hr
 have rd2:∀(s:List Nat),aI (H.set b (.row g ((pre++s++post).map uV) 1 true)) b2 g2=some (NQ.map uV,1,w2):=fun s=>by rw[Qp hb];exact hr2
 have wi:∀i:Nat,i<L→IntKind.i64.wrap ((i:Int)+1)=((i+1:Nat):Int):=fun i hi=>wrapN (i+1) (by omega) (by omega)
 have back:∀(ρ:dM) (s:List Nat),s.length=L→(∀d∈s,d<4294967296)→(∀s2:List Nat,s2.length=L→(∀d∈s2,d<4294967296)→∀c,val 4294967296 s+val 4294967296 vs=val 4294967296 s2+4294967296^L*c→val 4294967296 s2+t*val 4294967296 vs=val 4294967296 iB+val 4294967296 vs)→val 4294967296 iB<t*val 4294967296 vs→ρ 0 = .ref b g o L c→ρ 1 = .ref b2 g2 0 n2 c2→ρ 7=VK .u64 0→ρ 58=VI L→ρ 59=VI 0 →
   VW ⟨true,false⟩ lo (.loop lS) (Ai 2 (mZ (VW ⟨true,false⟩ lo (.seq (.dC [⟨(some 6),(.mv (.const (.bool true))),none,false,[]⟩]) .ret) (AY [.tmp 6] fun r H'=>∃qM:List Nat,H'=H.set b (.row g ((pre++qM++post).map uV) 1 true)∧qM.length=L∧(∀d∈qM,d<4294967296)∧((r=VB false∧val 4294967296 qM+t*val 4294967296 vs=val 4294967296 iB)∨(r=VB true∧val 4294967296 iB<t*val 4294967296 vs∧val 4294967296 qM+t*val 4294967296 vs=val 4294967296 iB+val 4294967296 vs)))) (AY [.tmp 6] fun r H'=>∃qM:List Nat,H'=H.set b (.row g ((pre++qM++post).map uV) 1 true)∧qM.length=L∧(∀d∈qM,d<4294967296)∧((r=VB false∧val 4294967296 qM+t*val 4294967296 vs=val 4294967296 iB)∨(r=VB true∧val 4294967296 iB<t*val 4294967296 vs∧val 4294967296 qM+t*val 4294967296 vs=val 4294967296 iB+val 4294967296 vs))))) ρ (H.set b (.row g ((pre++s++post).map uV) 1 true)):=by
  intro ρ s hs PB K0 afI g0 g1 g7 g58 g59
  refine aS (fun(u:Nat×List Nat×Nat) ρ K=>u.1≤L∧K=H.set b (.row g ((pre++u.2.1++post).map uV) 1 true)∧u.2.1.length=L∧(∀d∈u.2.1,d<4294967296)∧u.2.2≤1∧val 4294967296 (s.take u.1)+val 4294967296 (vs.take u.1)=val 4294967296 (u.2.1.take u.1)+4294967296^u.1*u.2.2∧(∀j,u.1≤j→u.2.1[j]? = s[j]?) ∧
   ρ 0 = .ref b g o L c∧ρ 1 = .ref b2 g2 0 n2 c2∧ρ 7=VK .u64 u.2.2∧ρ 58=VI L∧ρ 59=VI u.1) (fun u=>L-u.1) (0,s,0) ⟨Nat.zero_le _,rfl,hs,PB,by simp,by simp[val],fun _ _=>rfl,g0,g1,g7,g58,g59⟩ ?_
  rintro⟨i,outs,cy⟩ OB K ⟨hi,rfl,jL,lG,hc,hv,FR,k0,k1,k7,k58,k59⟩
  simp only at hi jL lG hc hv FR k7 k59
  by_cases dB:(i:Int)<(L:Int)
  ·obtain⟨x,hx⟩:∃x,outs[i]? = some x:=⟨_,List.getElem?_eq_getElem (by omega)⟩
   have lx:=lG x (List.mem_of_getElem? hx)
   have U8:s[i]? = some x:=by rw[←FR i (Nat.le_refl _)];exact hx
   have e1:bK 1 (.ref b g o L c) (VI i) (H.set b (.row g ((pre++outs++post).map uV) 1 true))=some (.ptr b g (o+i) 0):=bE (rd outs jL) (by omega)
   have e2:bT false 1 (.ptr b g (o+i) 0) (H.set b (.row g ((pre++outs++post).map uV) 1 true))=some (uV x):=iH (rd outs jL) (by rw[Pa ho (by omega)];exact hx)
   have e3:∀d:Nat,bR lo 1 (.ptr b g (o+i) 0) (uV d) (H.set b (.row g ((pre++outs++post).map uV) 1 true))=some (H.set b (.row g ((pre++outs.set i d++post).map uV) 1 true)):=fun d=>by
    rw[Zo (rd outs jL) ho (by omega) dK,lZ]
   have e4:=e00 (rd2 outs)
   have w1:IntKind.u64.wrap (x:Int)=(x:Int):=dV _ (by omega)
   have w2:IntKind.u64.wrap ((cy:Int)+(x:Int))=((cy+x:Nat):Int):=by rw[←Int.natCast_add];exact dV _ (by omega)
   have wii:=wi i (by omega)
   have step:∀y,y<4294967296→(∀d,vs[i]? = some d→d=y)→(vs.length≤i→y=0) →
     (i+1≤L∧(outs.set i ((cy+x+y) % 4294967296)).length=L∧(∀d∈outs.set i ((cy+x+y) % 4294967296),d<4294967296)∧(cy+x+y) / 4294967296≤1∧val 4294967296 (s.take (i+1))+val 4294967296 (vs.take (i+1))=val 4294967296 ((outs.set i ((cy+x+y) % 4294967296)).take (i+1))+4294967296^(i+1)*((cy+x+y) / 4294967296))∧∀j,i+1≤j→(outs.set i ((cy+x+y) % 4294967296))[j]? = s[j]? := by
    intro y hy h1 h2
    refine⟨⟨by omega,by rw[List.length_set];exact jL,lU lG (Nat.mod_lt _ (by decide)),by omega,?_⟩,fun j hj=>by rw[List.getElem?_set_ne (by omega)];exact FR j (by omega)⟩
    have hy':val 4294967296 (vs.take (i+1))=val 4294967296 (vs.take i)+4294967296^i*y:=by
     cases U4:vs[i]? with
     | some d=>rw[bD U4,h1 d U4]
     |
      none =>
      have hle:=List.getElem?_eq_none_iff.1 U4
      rw[h2 hle,jH hle,jH (by omega),Nat.mul_zero,Nat.add_zero]
    rw[bD U8,hy',eQ (by omega),Nat.pow_succ]
    exact FN hv rfl (Nat.mod_add_div _ _)
   by_cases bF:(i:Int)<(n2:Int)
   ·obtain⟨y,hy⟩:∃y,vs[i]? = some y:=⟨_,List.getElem?_eq_getElem (by omega)⟩
    have ly:=Gz y (List.mem_of_getElem? hy)
    have f1:bK 1 (.ref b2 g2 0 n2 c2) (VI i) (H.set b (.row g ((pre++outs++post).map uV) 1 true))=some (.ptr b2 g2 i 0):=by rw[bE (rd2 outs) (by omega),Nat.zero_add]
    have f2:bT false 1 (.ptr b2 g2 i 0) (H.set b (.row g ((pre++outs++post).map uV) 1 true))=some (uV y):=iH (rd2 outs) (by rw[rG i (by omega)];exact hy)
    have w3:IntKind.u64.wrap (y:Int)=(y:Int):=dV _ (by omega)
    have w4:IntKind.u64.wrap (((cy+x:Nat):Int)+(y:Int))=((cy+x+y:Nat):Int):=by rw[←Int.natCast_add];exact dV _ (by omega)
    obtain⟨⟨s1,s2,s3,s4,s5⟩,s6⟩:=step y ly (fun d hd=>by rw[hy] at hd;injection hd with hd;exact hd.symm) (fun h=>by omega)
    simp only[lS,k0,k1,k7,k58,k59,dB,bF,e1,e2,e3,e4,f1,f2,w1,w2,w3,w4,wii,wrap32,nU,VX,Nat.reduceEqDiff,Nat.reduceAdd]
    exact⟨(i+1,outs.set i ((cy+x+y) % 4294967296),(cy+x+y) / 4294967296),by simp only;omega,s1,rfl,s2,s3,s4,s5,s6,by (repeat' apply And.intro)<;>first | rfl | trivial⟩
   ·obtain⟨⟨s1,s2,s3,s4,s5⟩,s6⟩:=step 0 (by decide) (fun d hd=>by have:=(List.getElem?_eq_some_iff.1 hd).1;omega) (fun _=>rfl)
    simp only[Nat.add_zero] at s2 s3 s4 s5 s6
    simp only[lS,k0,k1,k7,k58,k59,dB,bF,e1,e2,e3,e4,w1,w2,wii,wrap32,nU,VX,Nat.reduceEqDiff,Nat.reduceAdd]
    exact⟨(i+1,outs.set i ((cy+x) % 4294967296),(cy+x) / 4294967296),by simp only;omega,s1,rfl,s2,s3,s4,s5,s6,by (repeat' apply And.intro)<;>first | rfl | trivial⟩
  ·have nY:i=L:=by omega
   subst nY
   rw[List.take_of_length_le (by omega),List.take_of_length_le (by omega),List.take_of_length_le (by omega)] at hv
   simp only[lS,k0,k1,k7,k58,k59,dB,VX,Nat.reduceEqDiff,Nat.reduceAdd]
   exact⟨outs,rfl,jL,lG,.inr ⟨afI,K0 outs jL lG cy hv⟩⟩
 simp only[EP,B7,e0 hr,VX,Nat.reduceEqDiff,Nat.reduceAdd]
 refine aS (fun(u:Nat×List Nat×Nat×Nat) ρ K=>u.1≤L∧K=H.set b (.row g ((pre++u.2.1++post).map uV) 1 true)∧u.2.1.length=L∧(∀d∈u.2.1,d<4294967296)∧u.2.2.1<4294967296∧u.2.2.2≤1∧val 4294967296 (iB.take u.1)+4294967296^u.1*(u.2.2.1+u.2.2.2)=val 4294967296 (u.2.1.take u.1)+t*val 4294967296 (vs.take u.1)∧(∀j,u.1≤j→u.2.1[j]? = iB[j]?) ∧
  ρ 0 = .ref b g o L c∧ρ 1 = .ref b2 g2 0 n2 c2∧ρ 2=VK .u64 t∧ρ 7=VK .u64 u.2.2.1∧ρ 8=VI u.2.2.2∧ρ 13=VI L∧ρ 14=VI u.1) (fun u=>L-u.1) (0,iB,0,0) ⟨Nat.zero_le _,(wA hr).symm,hL,Xj,by simp,by simp,by simp[val],fun _ _=>rfl,by (repeat' apply And.intro)<;>first | rfl | trivial⟩ ?_
 rintro⟨i,outs,cy,l⟩ ρ K ⟨hi,rfl,jL,lG,hc,Cz,hv,FR,k0,k1,k2,k7,k8,Bh,Cx⟩
 simp only at hi jL lG hc Cz hv FR k7 k8 Cx
 by_cases dB:(i:Int)<(L:Int)
 ·obtain⟨x,hx⟩:∃x,outs[i]? = some x:=⟨_,List.getElem?_eq_getElem (by omega)⟩
  have lx:=lG x (List.mem_of_getElem? hx)
  have U8:iB[i]? = some x:=by rw[←FR i (Nat.le_refl _)];exact hx
  have e1:bK 1 (.ref b g o L c) (VI i) (H.set b (.row g ((pre++outs++post).map uV) 1 true))=some (.ptr b g (o+i) 0):=bE (rd outs jL) (by omega)
  have e2:bT false 1 (.ptr b g (o+i) 0) (H.set b (.row g ((pre++outs++post).map uV) 1 true))=some (uV x):=iH (rd outs jL) (by rw[Pa ho (by omega)];exact hx)
  have e3:∀d:Nat,bR lo 1 (.ptr b g (o+i) 0) (uV d) (H.set b (.row g ((pre++outs++post).map uV) 1 true))=some (H.set b (.row g ((pre++outs.set i d++post).map uV) 1 true)):=fun d=>by
   rw[Zo (rd outs jL) ho (by omega) dK,lZ]
  have e4:=e00 (rd2 outs)
  have wii:=wi i (by omega)
  have w1:IntKind.i64.wrap (x:Int)=(x:Int):=wrapN x rfl (by omega)
  have step:∀y c1,y<4294967296→c1=cy+t*y→(∀d,vs[i]? = some d→d=y)→(vs.length≤i→y=0) →
    c1 / 4294967296<4294967296∧IntKind.i64.wrap ((x:Int)-((c1 % 4294967296:Nat):Int)-(l:Int))=(x:Int)-((c1 % 4294967296:Nat):Int)-(l:Int)∧IntKind.i64.wrap ((x:Int)-((c1 % 4294967296:Nat):Int))=(x:Int)-((c1 % 4294967296:Nat):Int) ∧
    ∃r l',l'≤1∧((x:Int)-((c1 % 4294967296:Nat):Int)-(l:Int)<0↔l'=1)∧IntKind.u32.wrap ((x:Int)-((c1 % 4294967296:Nat):Int)-(l:Int))=((r:Nat):Int) ∧
    (i+1≤L∧(outs.set i r).length=L∧(∀d∈outs.set i r,d<4294967296)∧c1 / 4294967296<4294967296∧l'≤1∧val 4294967296 (iB.take (i+1))+4294967296^(i+1)*(c1 / 4294967296+l')=val 4294967296 ((outs.set i r).take (i+1))+t*val 4294967296 (vs.take (i+1))∧∀j,i+1≤j→(outs.set i r)[j]? = iB[j]?):=by
   intro y c1 hy hc1 h1 h2
   have hty:t*y≤4294967295*4294967295:=Nat.mul_le_mul (by omega) (by omega)
   have hm:=Nat.mod_lt c1 (show 0<4294967296 by decide)
   have hdv:=Nat.mod_add_div c1 4294967296
   have hq:c1 / 4294967296<4294967296:=Nat.div_lt_of_lt_mul (by omega)
   refine⟨hq,wrap64 (by omega) (by omega),wrap64 (by omega) (by omega),?_⟩
   obtain⟨r,l',BV,Eu,hd,hlw,oU⟩:∃r l':Nat,l'≤1∧r<4294967296∧r+c1 % 4294967296+l=x+4294967296*l'∧IntKind.u32.wrap ((x:Int)-((c1 % 4294967296:Nat):Int)-(l:Int))=((r:Nat):Int)∧((x:Int)-((c1 % 4294967296:Nat):Int)-(l:Int)<0↔l'=1):=by
    by_cases hn:(x:Int)-((c1 % 4294967296:Nat):Int)-(l:Int)<0
    ·exact⟨x+4294967296-c1 % 4294967296-l,1,by omega,by omega,by omega,Ll (by omega) hn (by omega),fun _=>rfl,fun _=>hn⟩
    ·exact⟨x-c1 % 4294967296-l,0,by omega,by omega,by omega,by rw[IntKind.wrap_u32];omega,fun h=>absurd h hn,fun h=>by omega⟩
   refine⟨r,l',BV,oU,hlw,by omega,by rw[List.length_set];exact jL,lU lG Eu,hq,BV,?_,fun j hj=>by rw[List.getElem?_set_ne (by omega)];exact FR j (by omega)⟩
   have hy':val 4294967296 (vs.take (i+1))=val 4294967296 (vs.take i)+4294967296^i*y:=by
    cases U4:vs[i]? with
    | some d=>rw[bD U4,h1 d U4]
    |
     none =>
     have hle:=List.getElem?_eq_none_iff.1 U4
     rw[h2 hle,jH hle,jH (by omega),Nat.mul_zero,Nat.add_zero]
   rw[bD U8,hy',eQ (by omega),Nat.pow_succ]
   have:=Xy hv hc1 hdv.symm hd
   rw[this,Nat.mul_add,Nat.mul_left_comm t]
  by_cases bF:(i:Int)<(n2:Int)
  ·obtain⟨y,hy⟩:∃y,vs[i]? = some y:=⟨_,List.getElem?_eq_getElem (by omega)⟩
   have ly:=Gz y (List.mem_of_getElem? hy)
   have f1:bK 1 (.ref b2 g2 0 n2 c2) (VI i) (H.set b (.row g ((pre++outs++post).map uV) 1 true))=some (.ptr b2 g2 i 0):=by rw[bE (rd2 outs) (by omega),Nat.zero_add]
   have f2:bT false 1 (.ptr b2 g2 i 0) (H.set b (.row g ((pre++outs++post).map uV) 1 true))=some (uV y):=iH (rd2 outs) (by rw[rG i (by omega)];exact hy)
   have w3:IntKind.u64.wrap (y:Int)=(y:Int):=dV _ (by omega)
   have hty:t*y≤4294967295*4294967295:=Nat.mul_le_mul (by omega) (by omega)
   have w4:IntKind.u64.wrap ((t:Int)*(y:Int))=((t*y:Nat):Int):=by rw[←Int.natCast_mul];exact dV _ (by omega)
   have w5:IntKind.u64.wrap ((cy:Int)+((t*y:Nat):Int))=((cy+t*y:Nat):Int):=by rw[←Int.natCast_add];exact dV _ (by omega)
   have w6:IntKind.i64.wrap (((cy+t*y) % 4294967296:Nat):Int)=(((cy+t*y) % 4294967296:Nat):Int):=wrapN _ rfl (by omega)
   obtain⟨_,a1,a2,r,l',BV,oU,hw,s1,s2,s3,s4,s5,s6,s7⟩:=step y (cy+t*y) ly rfl (fun d hd=>by rw[hy] at hd;injection hd with hd;exact hd.symm) (fun h=>by omega)
   by_cases hn:(x:Int)-(((cy+t*y) % 4294967296:Nat):Int)-(l:Int)<0
   ·have:=oU.1 hn
    subst this
    simp only[fM,k0,k1,k2,k7,k8,Bh,Cx,dB,bF,e1,e2,e3,e4,f1,f2,w1,w3,w4,w5,w6,a1,a2,hn,hw,wii,wrap32,nU,VX,Nat.reduceEqDiff,Nat.reduceAdd]
    exact⟨(i+1,outs.set i r,(cy+t*y) / 4294967296,1),by simp only;omega,s1,rfl,s2,s3,s4,s5,s6,s7,by (repeat' apply And.intro)<;>first | rfl | trivial⟩
   ·have:l'=0:=by
     have:l'≠1:=fun h=>hn (oU.2 h)
     omega
    subst this
    simp only[fM,k0,k1,k2,k7,k8,Bh,Cx,dB,bF,e1,e2,e3,e4,f1,f2,w1,w3,w4,w5,w6,a1,a2,hn,hw,wii,wrap32,nU,VX,Nat.reduceEqDiff,Nat.reduceAdd]
    exact⟨(i+1,outs.set i r,(cy+t*y) / 4294967296,0),by simp only;omega,s1,rfl,s2,s3,s4,s5,s6,s7,by (repeat' apply And.intro)<;>first | rfl | trivial⟩
  ·have w6:IntKind.i64.wrap ((cy % 4294967296:Nat):Int)=((cy % 4294967296:Nat):Int):=wrapN _ rfl (by omega)
   obtain⟨_,a1,a2,r,l',BV,oU,hw,s1,s2,s3,s4,s5,s6,s7⟩:=step 0 cy (by decide) (by simp) (fun d hd=>by have:=(List.getElem?_eq_some_iff.1 hd).1;omega) (fun _=>rfl)
   by_cases hn:(x:Int)-((cy % 4294967296:Nat):Int)-(l:Int)<0
   ·have:=oU.1 hn
    subst this
    simp only[fM,k0,k1,k2,k7,k8,Bh,Cx,dB,bF,e1,e2,e3,e4,w1,w6,a1,a2,hn,hw,wii,wrap32,nU,VX,Nat.reduceEqDiff,Nat.reduceAdd]
    exact⟨(i+1,outs.set i r,cy / 4294967296,1),by simp only;omega,s1,rfl,s2,s3,s4,s5,s6,s7,by (repeat' apply And.intro)<;>first | rfl | trivial⟩
   ·have:l'=0:=by
     have:l'≠1:=fun h=>hn (oU.2 h)
     omega
    subst this
    simp only[fM,k0,k1,k2,k7,k8,Bh,Cx,dB,bF,e1,e2,e3,e4,w1,w6,a1,a2,hn,hw,wii,wrap32,nU,VX,Nat.reduceEqDiff,Nat.reduceAdd]
    exact⟨(i+1,outs.set i r,cy / 4294967296,0),by simp only;omega,s1,rfl,s2,s3,s4,s5,s6,s7,by (repeat' apply And.intro)<;>first | rfl | trivial⟩
 ·have nY:i=L:=by omega
  subst nY
  rw[List.take_of_length_le (by omega),List.take_of_length_le (by omega),List.take_of_length_le (by omega)] at hv
  have anU:=oF lG
  rw[jL] at anU
  by_cases hz:l=0∧cy=0
  ·obtain⟨rfl,rfl⟩:=hz
   simp only[fM,k0,k1,k2,k7,k8,Bh,Cx,dB,Int.natCast_zero,VX,Nat.reduceEqDiff,Nat.reduceAdd]
   exact⟨outs,rfl,jL,lG,.inl (by simpa using hv.symm)⟩
  ·have axR:cy+l=1:=by
    rcases abJ hv anU hVL sZ with h | h<;>omega
   rw[axR,Nat.mul_one] at hv
   have afI:val 4294967296 iB<t*val 4294967296 vs:=by omega
   have fin:∀s2:List Nat,s2.length=i→(∀d∈s2,d<4294967296)→∀c,val 4294967296 outs+val 4294967296 vs=val 4294967296 s2+4294967296^i*c→val 4294967296 s2+t*val 4294967296 vs=val 4294967296 iB+val 4294967296 vs:=by
    intro s2 h2 h3 c h4
    have h5:=oF h3
    rw[h2] at h5
    exact aaW hv h4 h5 hVL sZ Qt (by omega)
   have hlen:=e0 (rd outs jL)
   by_cases Bi:(l:Int)=0
   ·have hcy:¬(cy:Int)=0:=by omega
    simp only[fM,k0,k1,k2,k7,k8,Bh,Cx,dB,Bi,hcy,hlen,VX,Nat.reduceEqDiff,Nat.reduceAdd]
    exact back _ outs jL lG fin afI k0 k1 (by rfl) (by rfl) (by rfl)
   ·simp only[fM,k0,k1,k2,k7,k8,Bh,Cx,dB,Bi,hlen,VX,Nat.reduceEqDiff,Nat.reduceAdd]
    exact back _ outs jL lG fin afI k0 k1 (by rfl) (by rfl) (by rfl)
end Go.PM
namespace Go.PM
section
variable {H:aA} {b g o i lo d:Nat} {L R:List VV} {low:List Nat}
theorem Za (hr:aI H b g=some (L++low.map tV++R,1,true)) (ho:L.length=o) (hi:low[i]? = some d):bT false 1 (.ptr b g (o+i) 0) H=some (VI (d:Int)):=by
 have bF:=(List.getElem?_eq_some_iff.1 hi).1
 rw[Pd hr (x:=tV d) (by rw[Pa ho (by simpa using bF)];simp[hi])]
 rfl
theorem adC (hr:aI H b g=some (L++low.map tV++R,1,true)) (ho:L.length=o) (hi:i<low.length) (dK:lo≤b):bR lo 1 (.ptr b g (o+i) 0) (VI (d:Int)) H=some (H.set b (.row g (L++(low.set i d).map tV++R) 1 true)):=by
 rw[bU hr (by simp only[List.length_append,List.length_map];omega) dK rfl rfl,WW ho (by simpa using hi),List.map_set]
theorem U1 {n:Nat} {z:Int} (hr:aI H b g=some (L++low.map tV++VI z::R,1,true)) (ho:L.length=o) (hn:low.length=n):bT false 1 (.ptr b g (o+n) 0) H=some (VI z):=by
 rw[Pd hr (x:=VI z) (by rw[List.getElem?_append_right (by simp;omega)];simp[ho,hn])]
 rfl
theorem aeG {n:Nat} {z z':Int} (hr:aI H b g=some (L++low.map tV++VI z::R,1,true)) (ho:L.length=o) (hn:low.length=n) (dK:lo≤b):bR lo 1 (.ptr b g (o+n) 0) (VI z') H=some (H.set b (.row g (L++low.map tV++VI z'::R) 1 true)):=by
 rw[bU hr (by simp only[List.length_append,List.length_map,List.length_cons];omega) dK rfl rfl,List.set_append_right _ _ (by simp;omega)]
 congr 5
 simp[ho,hn]
end
theorem Py {P A N B c u x t r k m q T:Nat} (h:A+P*c=N+t*B) (h1:r+m+c=u+T*k) (h2:m+T*q=x*t):(A+P*u)+P*T*(q+k)=(N+P*r)+t*(B+P*x):=by
 have e1:P*(r+m+c)=P*(u+T*k):=by rw[h1]
 have e2:P*(m+T*q)=P*(x*t):=by rw[h2]
 grind
theorem adW {x t:Nat} (hx:x<1000000000) (ht:t<1000000000):x*t≤999999998000000001∧x*t / 1000000000≤999999998:=by
 have h:x*t≤999999999*999999999:=Nat.mul_le_mul (by omega) (by omega)
 omega
theorem Ya {H:aA} {lo b g o n N t top:Nat} {L R:List VV} {low vs:List Nat} (hr:aI H b g=some (L++low.map tV++VI (top:Int)::R,1,true)) (dK:lo≤b) (ho:L.length=o) (hl:low.length=n) (FT:vs.length=n) (hN:o+n<N) (CS:N≤70368744177664)
  (Zg:∀d∈low,d<1000000000) (Gz:∀d∈vs,d<1000000000) (ht:t<1000000000) (Zt:top<1000000000) :
  gV 204 [.ref b g 0 N N,gZ vs,VI (o:Int),VI (t:Int)] lo H fun r H'=>∃(AM:List Nat) (c:Nat),H'=H.set b (.row g (L++AM.map tV++VI ((top:Int)-(c:Int))::R) 1 true)∧AM.length=n∧(∀d∈AM,d<1000000000)∧c≤1000000000 ∧
   r=VB (decide ((top:Int)-(c:Int)<0))∧val 1000000000 low+1000000000^n*c=val 1000000000 AM+t*val 1000000000 vs:=by
 refine gV.walk ⟨true,false⟩ Hr (Nat.le_of_ble_eq_true rfl) ?_
 have rd:∀(s:List Nat) (z:Int),aI (H.set b (.row g (L++s.map tV++VI z::R) 1 true)) b g=some (L++s.map tV++VI z::R,1,true):=fun s z=>nE hr
 have ad:∀(K:aA) (es:List VV) (i:Nat),aI K b g=some (es,1,true)→i≤n→bK 1 (.ref b g 0 N N) (VI ((o+i:Nat):Int)) K=some (.ptr b g (o+i) 0):=fun K es i h hi=>by rw[bE h (by omega),Nat.zero_add]
 simp only[Ch,zH,dW,VX,Nat.reduceEqDiff,Nat.reduceAdd]
 refine aS (fun(u:Nat×List Nat×Nat) ρ K=>u.1≤n∧K=H.set b (.row g (L++u.2.1.map tV++VI (top:Int)::R) 1 true)∧u.2.1.length=n∧(∀d∈u.2.1,d<1000000000)∧u.2.2≤1000000000∧val 1000000000 (low.take u.1)+1000000000^u.1*u.2.2=val 1000000000 (u.2.1.take u.1)+t*val 1000000000 (vs.take u.1)∧(∀j,u.1≤j→u.2.1[j]? = low[j]?) ∧
  ρ 0 = .ref b g 0 N N∧ρ 1=gZ vs∧ρ 2=VI o∧ρ 3=VI t∧ρ 9=VI u.2.2∧ρ 13=gZ vs∧ρ 14=VI vs.length∧ρ 15=VI u.1) (fun u=>n-u.1) (0,low,0) ⟨Nat.zero_le _,(wA hr).symm,hl,Zg,by simp,by simp[val],fun _ _=>rfl,by (repeat' apply And.intro)<;>first | rfl | trivial⟩ ?_
 rintro⟨i,outs,c⟩ ρ K ⟨hi,rfl,jL,lG,hc,hv,FR,k0,k1,k2,k3,k9,Bh,Cx,Kk⟩
 simp only at hi jL lG hc hv FR k9 Kk
 by_cases dB:(i:Int)<(vs.length:Int)
 ·obtain⟨u,hu⟩:∃u,outs[i]? = some u:=⟨_,List.getElem?_eq_getElem (by omega)⟩
  have lu:=lG u (List.mem_of_getElem? hu)
  have hu':low[i]? = some u:=by rw[←FR i (Nat.le_refl _)];exact hu
  obtain⟨x,hx⟩:∃x,vs[i]? = some x:=⟨_,List.getElem?_eq_getElem (by omega)⟩
  have lx:=Gz x (List.mem_of_getElem? hx)
  obtain⟨xt1,xt2⟩:=adW lx ht
  have e1:bK 1 (gZ vs) (VI i) (H.set b (.row g (L++outs.map tV++VI (top:Int)::R) 1 true))=some (.cN (tV x) 0):=aK (f:=tV) (t := .op) (size:=1) (k := .i64) hx rfl
  have w1:IntKind.i64.wrap ((o:Int)+(i:Int))=((o+i:Nat):Int):=wrapN _ (by omega) (by omega)
  have e2:=ad _ _ i (rd outs top) (by omega)
  have e3:=Za (rd outs top) ho hu
  have e4:∀d:Nat,bR lo 1 (.ptr b g (o+i) 0) (VI (d:Int)) (H.set b (.row g (L++outs.map tV++VI (top:Int)::R) 1 true))=some (H.set b (.row g (L++(outs.set i d).map tV++VI (top:Int)::R) 1 true)):=fun d=>by rw[adC (rd outs top) ho (by omega) dK,lZ]
  have w2:IntKind.i64.wrap ((x:Int)*(t:Int))=((x*t:Nat):Int):=wrapN _ (by simp) (by omega)
  have r1:=Om (x*t)
  have q1:=N4 (x*t) (by omega)
  have hm:=Nat.mod_lt (x*t) (show 0<1000000000 by decide)
  have hdv:=Nat.mod_add_div (x*t) 1000000000
  have wi:IntKind.i64.wrap ((i:Int)+1)=((i+1:Nat):Int):=wrapN (i+1) (by omega) (by omega)
  generalize hmq:x*t % 1000000000=m at *
  generalize hqq:x*t / 1000000000=q at *
  have w3:IntKind.i64.wrap ((u:Int)-(m:Int))=(u:Int)-(m:Int):=wrap64 (by omega) (by omega)
  have w4:IntKind.i64.wrap ((u:Int)-(m:Int)-(c:Int))=(u:Int)-(m:Int)-(c:Int):=wrap64 (by omega) (by omega)
  have step:∀r k:Nat,r<1000000000→r+m+c=u+1000000000*k→val 1000000000 (low.take (i+1))+1000000000^(i+1)*(q+k)=val 1000000000 ((outs.set i r).take (i+1))+t*val 1000000000 (vs.take (i+1))∧(∀d∈outs.set i r,d<1000000000)∧(∀j,i+1≤j→(outs.set i r)[j]? = low[j]?)∧(outs.set i r).length=n:=by
   intro r k hr hk
   refine⟨?_,lU lG hr,fun j hj=>by rw[List.getElem?_set_ne (by omega)];exact FR j (by omega),by rw[List.length_set];exact jL⟩
   rw[bD hu',bD hx,eQ (by omega),Nat.pow_succ]
   exact Py hv hk hdv
  by_cases h1:(u:Int)-(m:Int)-(c:Int)<0
  ·have w5:IntKind.i64.wrap ((u:Int)-(m:Int)-(c:Int)+1000000000)=(u:Int)-(m:Int)-(c:Int)+1000000000:=wrap64 (by omega) (by omega)
   have w6:IntKind.i64.wrap ((q:Int)+1)=((q+1:Nat):Int):=wrapN _ (by omega) (by omega)
   by_cases h2:(u:Int)-(m:Int)-(c:Int)+1000000000<0
   ·obtain⟨r,hr⟩:∃r:Nat,r+m+c=u+1000000000*2:=⟨u+1000000000*2-m-c,by omega⟩
    have w7:IntKind.i64.wrap ((u:Int)-(m:Int)-(c:Int)+1000000000+1000000000)=(r:Int):=wrapN r (by omega) (by omega)
    have w8:IntKind.i64.wrap (((q+1:Nat):Int)+1)=((q+2:Nat):Int):=wrapN _ (by omega) (by omega)
    obtain⟨s1,s2,s3,s4⟩:=step r 2 (by omega) hr
    simp only[jR,k0,k1,k2,k3,k9,Bh,Cx,Kk,dB,e1,e2,e3,e4,w1,w2,w3,w4,w5,w6,w7,w8,wi,r1,q1,h1,h2,VX,Nat.reduceEqDiff,Nat.reduceAdd]
    refine⟨(i+1,outs.set i r,q+2),by simp only;omega,by omega,rfl,s4,s2,by simp only;omega,s1,s3,?_⟩
    try (repeat' apply And.intro)<;>first | rfl | trivial
   ·obtain⟨r,hr⟩:∃r:Nat,r+m+c=u+1000000000*1:=⟨u+1000000000*1-m-c,by omega⟩
    have w7:IntKind.i64.wrap ((u:Int)-(m:Int)-(c:Int)+1000000000)=(r:Int):=wrapN r (by omega) (by omega)
    have h3:¬(r:Int)<0:=by omega
    obtain⟨s1,s2,s3,s4⟩:=step r 1 (by omega) hr
    simp only[jR,k0,k1,k2,k3,k9,Bh,Cx,Kk,dB,e1,e2,e3,e4,w1,w2,w3,w4,w6,w7,wi,r1,q1,h1,h3,VX,Nat.reduceEqDiff,Nat.reduceAdd]
    refine⟨(i+1,outs.set i r,q+1),by simp only;omega,by omega,rfl,s4,s2,by simp only;omega,s1,s3,?_⟩
    try (repeat' apply And.intro)<;>first | rfl | trivial
  ·obtain⟨r,hr⟩:∃r:Nat,r+m+c=u+1000000000*0:=⟨u-m-c,by omega⟩
   have w7:IntKind.i64.wrap ((u:Int)-(m:Int)-(c:Int))=(r:Int):=wrapN r (by omega) (by omega)
   have h3:¬(r:Int)<0:=by omega
   obtain⟨s1,s2,s3,s4⟩:=step r 0 (by omega) hr
   simp only[jR,k0,k1,k2,k3,k9,Bh,Cx,Kk,dB,e1,e2,e3,e4,w1,w2,w3,w7,wi,r1,q1,h3,VX,Nat.reduceEqDiff,Nat.reduceAdd]
   refine⟨(i+1,outs.set i r,q),by simp only;omega,by omega,rfl,s4,s2,by simp only;omega,s1,s3,?_⟩
   try (repeat' apply And.intro)<;>first | rfl | trivial
 ·have nY:i=n:=by omega
  subst nY
  rw[List.take_of_length_le (by omega),List.take_of_length_le (by omega),List.take_of_length_le (by omega)] at hv
  have w1:IntKind.i64.wrap ((o:Int)+(vs.length:Int))=((o+i:Nat):Int):=wrapN _ (by omega) (by omega)
  have e2:=ad _ _ i (rd outs top) (by omega)
  have e2':=ad _ _ i (rd outs ((top:Int)-(c:Int))) (by omega)
  have e3:=U1 (rd outs top) ho jL
  have e3':=U1 (rd outs ((top:Int)-(c:Int))) ho jL
  have e4:bR lo 1 (.ptr b g (o+i) 0) (VI ((top:Int)-(c:Int))) (H.set b (.row g (L++outs.map tV++VI (top:Int)::R) 1 true))=some (H.set b (.row g (L++outs.map tV++VI ((top:Int)-(c:Int))::R) 1 true)):=by rw[aeG (rd outs top) ho jL dK,lZ]
  have w2:IntKind.i64.wrap ((top:Int)-(c:Int))=(top:Int)-(c:Int):=wrap64 (by omega) (by omega)
  simp only[jR,k0,k1,k2,k3,k9,Bh,Cx,Kk,dB,dW,w1,w2,e2,e2',e3,e3',e4,VX,Nat.reduceEqDiff,Nat.reduceAdd]
  refine⟨outs,c,rfl,jL,lG,hc,?_,hv⟩
  try rfl
theorem Xo {H:aA} {lo b g o n N:Nat} {z:Int} {L R:List VV} {low vs:List Nat} (hr:aI H b g=some (L++low.map tV++VI z::R,1,true)) (dK:lo≤b) (ho:L.length=o) (hl:low.length=n) (FT:vs.length=n) (hN:o+n<N) (CS:N≤70368744177664)
  (Zg:∀d∈low,d<1000000000) (Gz:∀d∈vs,d<1000000000) (hz : -1000000000≤z) (Tp:z≤1000000000) :
  gV 205 [.ref b g 0 N N,gZ vs,VI (o:Int)] lo H fun r H'=>∃(AM:List Nat) (c:Nat),H'=H.set b (.row g (L++AM.map tV++VI (z+(c:Int))::R) 1 true)∧AM.length=n∧(∀d∈AM,d<1000000000)∧c≤1 ∧
   val 1000000000 low+val 1000000000 vs=val 1000000000 AM+1000000000^n*c:=by
 refine gV.walk ⟨true,false⟩ F5 (Nat.le_of_ble_eq_true rfl) ?_
 have rd:∀(s:List Nat) (z:Int),aI (H.set b (.row g (L++s.map tV++VI z::R) 1 true)) b g=some (L++s.map tV++VI z::R,1,true):=fun s z=>nE hr
 have ad:∀(K:aA) (es:List VV) (i:Nat),aI K b g=some (es,1,true)→i≤n→bK 1 (.ref b g 0 N N) (VI ((o+i:Nat):Int)) K=some (.ptr b g (o+i) 0):=fun K es i h hi=>by rw[bE h (by omega),Nat.zero_add]
 simp only[Cl,zM,dW,VX,Nat.reduceEqDiff,Nat.reduceAdd]
 refine aS (fun(u:Nat×List Nat×Nat) ρ K=>u.1≤n∧K=H.set b (.row g (L++u.2.1.map tV++VI z::R) 1 true)∧u.2.1.length=n∧(∀d∈u.2.1,d<1000000000)∧u.2.2≤1∧val 1000000000 (low.take u.1)+val 1000000000 (vs.take u.1)=val 1000000000 (u.2.1.take u.1)+1000000000^u.1*u.2.2∧(∀j,u.1≤j→u.2.1[j]? = low[j]?) ∧
  ρ 0 = .ref b g 0 N N∧ρ 1=gZ vs∧ρ 2=VI o∧ρ 6=VI u.2.2∧ρ 10=gZ vs∧ρ 11=VI vs.length∧ρ 12=VI u.1) (fun u=>n-u.1) (0,low,0) ⟨Nat.zero_le _,(wA hr).symm,hl,Zg,by simp,by simp[val],fun _ _=>rfl,by (repeat' apply And.intro)<;>first | rfl | trivial⟩ ?_
 rintro⟨i,outs,c⟩ ρ K ⟨hi,rfl,jL,lG,hc,hv,FR,k0,k1,k2,k6,Y1,Wc,HM⟩
 simp only at hi jL lG hc hv FR k6 HM
 by_cases dB:(i:Int)<(vs.length:Int)
 ·obtain⟨u,hu⟩:∃u,outs[i]? = some u:=⟨_,List.getElem?_eq_getElem (by omega)⟩
  have lu:=lG u (List.mem_of_getElem? hu)
  have hu':low[i]? = some u:=by rw[←FR i (Nat.le_refl _)];exact hu
  obtain⟨x,hx⟩:∃x,vs[i]? = some x:=⟨_,List.getElem?_eq_getElem (by omega)⟩
  have lx:=Gz x (List.mem_of_getElem? hx)
  have e1:bK 1 (gZ vs) (VI i) (H.set b (.row g (L++outs.map tV++VI z::R) 1 true))=some (.cN (tV x) 0):=aK (f:=tV) (t := .op) (size:=1) (k := .i64) hx rfl
  have w1:IntKind.i64.wrap ((o:Int)+(i:Int))=((o+i:Nat):Int):=wrapN _ (by omega) (by omega)
  have e2:=ad _ _ i (rd outs z) (by omega)
  have e3:=Za (rd outs z) ho hu
  have e4:∀d:Nat,bR lo 1 (.ptr b g (o+i) 0) (VI (d:Int)) (H.set b (.row g (L++outs.map tV++VI z::R) 1 true))=some (H.set b (.row g (L++(outs.set i d).map tV++VI z::R) 1 true)):=fun d=>by rw[adC (rd outs z) ho (by omega) dK,lZ]
  have w2:IntKind.i64.wrap ((u:Int)+(x:Int))=((u+x:Nat):Int):=wrapN _ (by omega) (by omega)
  have w3:IntKind.i64.wrap (((u+x:Nat):Int)+(c:Int))=((u+x+c:Nat):Int):=wrapN _ (by omega) (by omega)
  have r1:=Om (u+x+c)
  have q1:=N4 (u+x+c) (by omega)
  have wi:IntKind.i64.wrap ((i:Int)+1)=((i+1:Nat):Int):=wrapN (i+1) (by omega) (by omega)
  simp only[qN,k0,k1,k2,k6,Y1,Wc,HM,dB,e1,e2,e3,e4,w1,w2,w3,wi,r1,q1,VX,Nat.reduceEqDiff,Nat.reduceAdd]
  refine⟨(i+1,outs.set i ((u+x+c) % 1000000000),(u+x+c) / 1000000000),by simp only;omega,by omega,rfl,by rw[List.length_set];exact jL,lU lG (Nat.mod_lt _ (by decide)),by simp only;omega,?_,fun j hj=>by rw[List.getElem?_set_ne (by omega)];exact FR j (by omega),?_⟩
  ·simp only
   rw[bD hu',bD hx,eQ (by omega),Nat.pow_succ]
   exact FN hv (show c+u+x=u+x+c by omega) (Nat.mod_add_div _ _)
  ·try (repeat' apply And.intro)<;>first | rfl | trivial
 ·have nY:i=n:=by omega
  subst nY
  rw[List.take_of_length_le (by omega),List.take_of_length_le (by omega),List.take_of_length_le (by omega)] at hv
  have w1:IntKind.i64.wrap ((o:Int)+(vs.length:Int))=((o+i:Nat):Int):=wrapN _ (by omega) (by omega)
  have e2:=ad _ _ i (rd outs z) (by omega)
  have e3:=U1 (rd outs z) ho jL
  have e4:bR lo 1 (.ptr b g (o+i) 0) (VI (z+(c:Int))) (H.set b (.row g (L++outs.map tV++VI z::R) 1 true))=some (H.set b (.row g (L++outs.map tV++VI (z+(c:Int))::R) 1 true)):=by rw[aeG (rd outs z) ho jL dK,lZ]
  have w2:IntKind.i64.wrap (z+(c:Int))=z+(c:Int):=wrap64 (by omega) (by omega)
  simp only[qN,k0,k1,k2,k6,Y1,Wc,HM,dB,dW,w1,w2,e2,e3,e4,VX,Nat.reduceEqDiff,Nat.reduceAdd]
  exact⟨outs,c,rfl,jL,lG,hc,hv⟩
end Go.PM
namespace Go.PM
theorem wK {d:Nat} {H:aA}:fz (d+1) H (.tree [] .nil)=some (bN 0):=by
 rw[DO]
 unfold fz
 have:aN (.tree [] .nil)=false:=by simp[aN]
 simp only[this,Bool.false_eq_true,if_false]
 rfl
theorem Zw {d:Nat} {H:aA} {m:Nat} {t:TK} (ht:t = .cl 1∨t = .op):fz (d+2) H (.tree ((aC 4294967296 m).map uV) t)=some (bN m):=by
 rcases ht with rfl | rfl
 ·unfold fz
  have:aN (.tree ((aC 4294967296 m).map uV) (.cl 1))=false:=by simp[aN]
  simp only[this,Bool.false_eq_true,if_false]
  rw[mapM_pure (gP fun _=>rfl)]
  rfl
 ·exact aJ (bS m)
abbrev H3 (us ws os:List Nat):aA:=[.row 0 (us.map uV) 1 true,.row 0 (ws.map uV) 1 true,.row 0 (os.map uV) 1 true]
theorem Cq {us ws os:List Nat}:aI (H3 us ws os) 0 0=some (us.map uV,1,true):=rfl
theorem arK {us ws os:List Nat}:aI (H3 us ws os) 1 0=some (ws.map uV,1,true):=rfl
theorem agA {us ws os:List Nat}:aI (H3 us ws os) 2 0=some (os.map uV,1,true):=rfl
theorem Xr {us:List Nat} {i n N V:Nat} (hN:us.length=N) (dB:i+n<N) (hd:∀d∈us,d<4294967296) (hV:V<4294967296^n) (BX:val 4294967296 (us.drop (i+1))<V) :
  us=us.take i++(us.drop i).take (n+1)++us.drop (i+(n+1))∧(us.take i).length=i∧((us.drop i).take (n+1)).length=n+1∧val 4294967296 ((us.drop i).take (n+1))<4294967296*V∧val 4294967296 (us.drop i)=val 4294967296 ((us.drop i).take (n+1))∧val 4294967296 (us.drop (i+(n+1)))=0∧∀j,j<n+1→((us.drop i).take (n+1))[j]? = us[i+j]? := by
 obtain⟨x,hx⟩:∃x,us[i]? = some x:=⟨_,List.getElem?_eq_getElem (by omega)⟩
 have lx:=hd x (List.mem_of_getElem? hx)
 have h1:=rM (b:=4294967296) hx
 have h2:val 4294967296 (us.drop i)<4294967296*V:=by
  have:4294967296*(val 4294967296 (us.drop (i+1))+1)≤4294967296*V:=Nat.mul_le_mul_left _ BX
  omega
 have h3:=pB (b:=4294967296) (us.drop i) (n+1)
 have h4:((us.drop i).take (n+1)).length=n+1:=by rw[List.length_take,List.length_drop];omega
 rw[h4,List.drop_drop] at h3
 have h5:val 4294967296 (us.drop (i+(n+1)))=0:=by
  rcases Nat.eq_zero_or_pos (val 4294967296 (us.drop (i+(n+1)))) with h | h
  ·exact h
  ·have h6:4294967296^(n+1)*1≤4294967296^(n+1)*val 4294967296 (us.drop (i+(n+1))):=Nat.mul_le_mul_left _ h
   have h7:4294967296*V≤4294967296^(n+1):=by rw[Nat.pow_succ,Nat.mul_comm];exact Nat.mul_le_mul_right _ (by omega)
   omega
 rw[h5,Nat.mul_zero,Nat.add_zero] at h3
 refine⟨?_,by rw[List.length_take];omega,h4,by omega,h3,h5,fun j hj => ?_⟩
 ·rw[List.append_assoc,←List.drop_drop,List.take_append_drop,List.take_append_drop]
 ·rw[List.getElem?_take_of_lt hj,List.getElem?_drop]
theorem Tk {x D p w:Nat} (hp:0<p) (hw:p*w=4294967296):(x+4294967296*D) / p=((D % 4294967296*4294967296+x) / p) % 4294967296+4294967296*(D / p)∨¬x<4294967296:=by
 rcases Nat.lt_or_ge x 4294967296 with hx | hx
 ·left
  have h1:(x+4294967296*D) / p / 4294967296=D / p:=by
   rw[Nat.div_div_eq_div_mul,Nat.mul_comm p,←Nat.div_div_eq_div_mul,Nat.add_mul_div_left _ _ (by decide),Nat.div_eq_of_lt hx,Nat.zero_add]
  have h2:(x+4294967296*D) / p % 4294967296=(D % 4294967296*4294967296+x) / p % 4294967296:=by
   have e:x+4294967296*D=(D % 4294967296*4294967296+x)+p*(4294967296*(w*(D / 4294967296))):=by
    have h3:=Nat.mod_add_div D 4294967296
    have h4:p*(4294967296*(w*(D / 4294967296)))=(p*w)*(4294967296*(D / 4294967296)):=by grind
    rw[h4,hw]
    omega
   rw[e,Nat.add_mul_div_left _ _ hp,Nat.add_mul_mod_self_left]
  have:=Nat.mod_add_div ((x+4294967296*D) / p) 4294967296
  rw[h1,h2] at this
  exact this.symm
 ·right
  omega
theorem Um {x:Nat} (h0:x≠0) (hx:x<4294967296):∃s,s≤31∧TC 198 [uV x] (VI (s:Nat))∧x*2^s<4294967296:=by
 obtain⟨h1,h2,h3⟩:=Lib.bitLenAux_bounds 64 x (by omega) h0
 have h4:Lib.bitLenAux 64 x-1<32:=by
  have:2^(Lib.bitLenAux 64 x-1)<2^32:=by omega
  exact(Nat.pow_lt_pow_iff_right (by decide)).1 this
 refine⟨32-Lib.bitLenAux 64 x,by omega,?_,?_⟩
 ·have:=W7 x hx
  have e:(((32-Lib.bitLenAux 64 x:Nat)):Int)=32-(Lib.bitLen x:Int):=by unfold Lib.bitLen;omega
  rw[e]
  exact this
 ·have:2^Lib.bitLenAux 64 x*2^(32-Lib.bitLenAux 64 x)=4294967296:=by rw[←Nat.pow_add,show Lib.bitLenAux 64 x+(32-Lib.bitLenAux 64 x)=32 by omega]
  rw[←this]
  exact Nat.mul_lt_mul_of_pos_right h3 (Nat.pow_pos (by decide))
theorem Yn {us ws os:List Nat} {k N s w0:Nat} {ρ:dM} {Q:VQ} (hs:s≤31) (hw:2^s*w0=4294967296) (hN:us.length=N) (hk:k≤N) (CS:N≤70368744177664) (hd:∀d∈us,d<4294967296) (g8:ρ 8=VI s) (g9:ρ 9 = .ref 0 0 0 k N) (avM:ρ 147=VI k) (aAi:ρ 148=VI 0)
  (hQ:∀(bI:dM) (E2:List Nat),bI 9 = .ref 0 0 0 k N→bI 13=ρ 13→E2.length=N→(∀d∈E2,d<4294967296)→val 4294967296 (E2.take k)=val 4294967296 (us.take k) / 2^s→Q (.exit 4) bI (H3 E2 ws os)) :
  VW ⟨true,false⟩ 0 (.loop kR) Q ρ (H3 us ws os):=by
 have hp:0<2^s:=Nat.pow_pos (by decide)
 refine aS (fun(t:Nat×List Nat) bI H=>t.1≤k∧H=H3 t.2 ws os∧t.2.length=N∧(∀d∈t.2,d<4294967296)∧(∀j,t.1≤j→t.2[j]? = us[j]?)∧val 4294967296 (t.2.take t.1)+4294967296^t.1*(val 4294967296 ((us.take k).drop t.1) / 2^s)=val 4294967296 (us.take k) / 2^s ∧
  bI 8=VI s∧bI 9 = .ref 0 0 0 k N∧bI 13=ρ 13∧bI 147=VI k∧bI 148=VI t.1) (fun t=>k-t.1) (0,us) ⟨Nat.zero_le _,rfl,hN,hd,fun _ _=>rfl,by simp[val],g8,g9,rfl,avM,aAi⟩ ?_
 rintro⟨i,vs⟩ OB H ⟨hi,rfl,FT,Gz,FR,hv,k8,k9,Bh,alI,afP⟩
 simp only at hi FT Gz FR hv afP
 by_cases dB:(i:Int)<(k:Int)
 ·obtain⟨x,hx⟩:∃x,us[i]? = some x:=⟨_,List.getElem?_eq_getElem (by omega)⟩
  have hx2:vs[i]? = some x:=by rw[FR i (Nat.le_refl _)];exact hx
  have lx:=hd x (List.mem_of_getElem? hx)
  have hx3:(us.take k)[i]? = some x:=by rw[List.getElem?_take_of_lt (by omega)];exact hx
  have h1:=rM (b:=4294967296) hx3
  generalize hD:val 4294967296 ((us.take k).drop (i+1))=D at *
  have hlen:oI (.ref 0 0 0 k N) (H3 vs ws os)=some (VI k):=fQ Cq
  have e1:bK 1 (.ref 0 0 0 k N) (VI i) (H3 vs ws os)=some (.ptr 0 0 i 0):=by rw[bE Cq (by omega),Nat.zero_add]
  have e2:bT false 1 (.ptr 0 0 i 0) (H3 vs ws os)=some (uV x):=iH Cq hx2
  have e3:∀d:Nat,bR 0 1 (.ptr 0 0 i 0) (uV d) (H3 vs ws os)=some (H3 (vs.set i d) ws os):=fun d=>by
   rw[fK (f:=uV) (e:=1) Cq (by omega) (Nat.le_refl _) rfl rfl]
   rfl
  have wi:IntKind.i64.wrap ((i:Int)+1)=((i+1:Nat):Int):=wrapN (i+1) (by omega) (by omega)
  have wx:IntKind.u64.wrap (x:Int)=(x:Int):=dV _ (by omega)
  have hm:=Nat.mod_lt D (show 0<4294967296 by decide)
  have w5:=D1 (D % 4294967296) .u64 hm
  have w6:IntKind.u64.wrap (((D % 4294967296*4294967296:Nat):Int)+(x:Int))=((D % 4294967296*4294967296+x:Nat):Int):=by rw[←Int.natCast_add];exact dV _ (by omega)
  have w7:=Z9 (D % 4294967296*4294967296+x) s hs
  have sd:(x+4294967296*D) / 2^s=((D % 4294967296*4294967296+x) / 2^s) % 4294967296+4294967296*(D / 2^s):=by
   rcases Tk (x:=x) (D:=D) hp hw with h | h
   ·exact h
   ·exact absurd lx h
  have next:∃s':Nat×List Nat,k-s'.1<k-i∧s'.1≤k∧H3 (vs.set i (((D % 4294967296*4294967296+x) / 2^s) % 4294967296)) ws os=H3 s'.2 ws os∧s'.2.length=N∧(∀d∈s'.2,d<4294967296)∧(∀j,s'.1≤j→s'.2[j]? = us[j]?)∧val 4294967296 (s'.2.take s'.1)+4294967296^s'.1*(val 4294967296 ((us.take k).drop s'.1) / 2^s)=val 4294967296 (us.take k) / 2^s∧s'.1=i+1:=by
   refine⟨(i+1,vs.set i (((D % 4294967296*4294967296+x) / 2^s) % 4294967296)),by simp only;omega,by simp only;omega,rfl,by simp only[List.length_set];exact FT,lU Gz (Nat.mod_lt _ (by decide)),fun j hj => ?_,?_,rfl⟩
   ·simp only at hj ⊢
    rw[List.getElem?_set_ne (by omega)]
    exact FR j (by omega)
   ·simp only
    rw[eQ (by omega),hD,←hv,h1,sd,Nat.pow_succ]
    generalize (D % 4294967296*4294967296+x) / 2^s % 4294967296=q
    generalize D / 2^s=E
    rw[Nat.mul_add,Nat.mul_assoc,Nat.add_assoc]
  obtain⟨s',n1,n2,n3,n4,n5,n6,n7,n8⟩:=next
  by_cases arS:((i+1:Nat):Int)<(k:Int)
  ·obtain⟨h,hh⟩:∃h,us[i+1]? = some h:=⟨_,List.getElem?_eq_getElem (by omega)⟩
   have hh2:vs[i+1]? = some h:=by rw[FR (i+1) (by omega)];exact hh
   have hhD:D % 4294967296=h:=by
    have hh3:(us.take k)[i+1]? = some h:=by rw[List.getElem?_take_of_lt (by omega)];exact hh
    have:=rM (b:=4294967296) hh3
    rw[hD] at this
    have lh:=hd h (List.mem_of_getElem? hh)
    omega
   have f1:bK 1 (.ref 0 0 0 k N) (VI ((i+1:Nat):Int)) (H3 vs ws os)=some (.ptr 0 0 (i+1) 0):=by rw[bE Cq (by omega),Nat.zero_add]
   have f2:bT false 1 (.ptr 0 0 (i+1) 0) (H3 vs ws os)=some (uV h):=iH Cq hh2
   have wh:IntKind.u64.wrap (h:Int)=(h:Int):=dV _ (by omega)
   rw[hhD] at w5 w6 w7 n3
   simp only[kR,k8,k9,alI,afP,dB,arS,hlen,e1,e2,e3,f1,f2,wi,wx,wh,w5,w6,w7,wrap32,VX,Nat.reduceEqDiff,Nat.reduceAdd]
   exact⟨s',n1,n2,n3,n4,n5,n6,n7,Bh,by rw[n8]⟩
  ·have hD0:D=0:=by
    rw[←hD,List.drop_of_length_le (by rw[List.length_take];omega)]
    rfl
   subst hD0
   have w5':dI .shl (.int .u64 0) (.int .u64 32)=some (.int .u64 0):=D1 0 .u64 (by decide)
   have w6':IntKind.u64.wrap ((0:Int)+(x:Int))=(x:Int):=by rw[Int.zero_add];exact wx
   have w7':=Z9 x s hs
   simp only[Nat.zero_mod,Nat.zero_mul,Nat.zero_add] at n3
   simp only[kR,k8,k9,alI,afP,dB,arS,hlen,e1,e2,e3,wi,wx,w5',w6',w7',wrap32,VX,Nat.reduceEqDiff,Nat.reduceAdd]
   exact⟨s',n1,n2,n3,n4,n5,n6,n7,Bh,by rw[n8]⟩
 ·have nY:i=k:=by omega
  subst nY
  rw[List.drop_of_length_le (by rw[List.length_take];omega)] at hv
  simp only[val,Nat.zero_div,Nat.mul_zero,Nat.add_zero] at hv
  simp only[kR,k8,k9,alI,afP,dB,VX,Nat.reduceEqDiff,Nat.reduceAdd]
  exact hQ _ vs k9 Bh FT Gz hv
end Go.PM