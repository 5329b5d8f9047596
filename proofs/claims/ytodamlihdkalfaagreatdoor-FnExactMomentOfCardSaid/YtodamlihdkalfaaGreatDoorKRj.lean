/- Texts of a claim, in one: part 10. -/
import Derived.Test.YtodamlihdkalfaaGreatDoorKRi
set_option linter.unusedSimpArgs false
set_option linter.unusedVariables false
namespace Go.PM
theorem MJ (n:Nat) (hn:n≤35184372088832):yK [.int .i64 0] 8 (VI (n:Int)) (VI (n:Int)) []=some (.ref 0 0 0 n n,[.row 0 ((List.replicate n 0).map tV) 1 true]):=uE (f:=tV) (x:=0) rfl (by omega) (by omega)
theorem Mb {outs:List Nat} {i d:Nat} (hi:i<outs.length):cQ 0 1 (.ptr 0 0 i 0) (VI (d:Int)) [.row 0 (outs.map tV) 1 true]=some [.row 0 ((outs.set i d).map tV) 1 true]:=by
 rw[show VI (d:Int)=tV d from rfl,fH (f:=tV) (e:=1) HF hi (Nat.le_refl _) rfl rfl]
 rfl
theorem Jv {b g:Nat} {rows:List Nat} {w:Bool} {H:aA} {j d:Nat} (hr:aQ H b g=some (rows.map tV,1,w)) (hj:rows[j]? = some d):dU false 1 (.ptr b g j 0) H=some (VI (d:Int)):=rL hr hj
theorem adT {n i:Nat} {outs:List Nat} (h:i<n):bE 1 (.ref 0 0 0 n n) (VI (i:Int)) [.row 0 (outs.map tV) 1 true]=some (.ptr 0 0 i 0):=by rw[bB HF h,Nat.zero_add]
theorem wr {x:Int} (n:Nat) (h:x=n) (hn:n≤9223372036854775807):IntKind.i64.wrap x=(n:Int):=wrapN n h hn
theorem xD (a b:Nat) (DN:b≤a) (ha:(aC 1000000000 a).length≤17592186044416):TC 179 [bN a,bN b] (bN (a-b)):=by
 refine TC.walk ⟨true,false⟩ EJ rfl (Nat.le_of_ble_eq_true rfl) (by simp[aJ,bU]) (lE _) ?_
 have hle:=dG (b:=1000000000) (by decide) DN
 simp only[AG,xG,HW,cK,VX,Nat.reduceEqDiff,Nat.reduceAdd]
 refine aY (fun(s:Nat×List Nat×Nat) ρ H=>s.1=s.2.1.length∧s.1≤(aC 1000000000 a).length∧H=[.row s.2.1.length (s.2.1.map tV) 1 true]∧(∀d∈s.2.1,d<1000000000)∧s.2.2≤1∧val 1000000000 ((aC 1000000000 a).take s.1)+1000000000^s.1*s.2.2=val 1000000000 s.2.1+val 1000000000 ((aC 1000000000 b).take s.1) ∧
  ρ 0=bN a∧ρ 1=bN b∧ρ 5 = .ref 0 s.2.1.length 0 s.2.1.length s.2.1.length∧ρ 6=VI s.2.2∧ρ 11=VI (aC 1000000000 a).length∧ρ 12=VI s.1) (fun s=>(aC 1000000000 a).length-s.1) (0,[],0) ⟨rfl,Nat.zero_le _,rfl,by simp,by simp,by simp[val],rfl,rfl,rfl,rfl,rfl,rfl⟩ ?_
 rintro⟨i,outs,l⟩ ρ H ⟨hi,HK,rfl,jQ,hc,hv,g0,g1,g5,g6,g11,g12⟩
 simp only at hi HK jQ hc hv g5 g6 g12
 by_cases dA:(i:Int)<((aC 1000000000 a).length:Int)
 ·have hx:=I4 (b:=1000000000) (by decide) (n:=a) (i:=i) (by omega)
  have e1:bE 1 (bN a) (VI i) [.row outs.length (outs.map tV) 1 true]=some (.cO (tV (a / 1000000000^i % 1000000000)) 0):=aM (f:=tV) (t := .op) (size:=1) (k := .i64) hx rfl
  have c2:=BG b i
  have t1:=CQ (b:=1000000000) (aC 1000000000 a) i
  have t2:=CQ (b:=1000000000) (aC 1000000000 b) i
  rw[FQ (by decide)] at t1 t2
  have lx:=Nat.mod_lt (a / 1000000000^i) (show 0<1000000000 by decide)
  have ly:=Nat.mod_lt (b / 1000000000^i) (show 0<1000000000 by decide)
  generalize a / 1000000000^i % 1000000000=x at *
  generalize b / 1000000000^i % 1000000000=y at *
  have wi:IntKind.i64.wrap ((i:Int)+1)=((i+1:Nat):Int):=wrapN (i+1) (by omega) (by omega)
  have w1:IntKind.i64.wrap ((x:Int)-(y:Int))=(x:Int)-(y:Int):=wrap64 (by omega) (by omega)
  have w2:IntKind.i64.wrap ((x:Int)-(y:Int)-(l:Int))=(x:Int)-(y:Int)-(l:Int):=wrap64 (by omega) (by omega)
  have step:∀r l':Nat,r<1000000000→l'≤1→r+y+l=x+1000000000*l'→(∀d∈outs++[r],d<1000000000)∧val 1000000000 ((aC 1000000000 a).take (i+1))+1000000000^(i+1)*l'=val 1000000000 (outs++[r])+val 1000000000 ((aC 1000000000 b).take (i+1)):=by
   intro r l' hr _ hd
   refine⟨fun d h => ?_,?_⟩
   ·rcases List.mem_append.1 h with h | h
    ·exact jQ d h
    ·rw[List.mem_singleton.1 h];exact hr
   ·rw[t1,t2,qB,←hi,Nat.pow_succ]
    exact GH hv hd
  by_cases lP:(x:Int)-(y:Int)-(l:Int)<0
  ·obtain⟨r,hr⟩:∃r:Nat,r+y+l=x+1000000000:=⟨x+1000000000-l-y,by omega⟩
   have w3:IntKind.i64.wrap ((x:Int)-(y:Int)-(l:Int)+1000000000)=(r:Int):=wrapN r (by omega) (by omega)
   obtain⟨s1,s2⟩:=step r 1 (by omega) (Nat.le_refl _) (by omega)
   have a1:=ZD (ds:=outs) (d:=r) (by omega)
   simp only[kR,g0,g1,g5,g6,g11,g12,dA,e1,c2,w1,w2,w3,wi,lP,qE,sH,a1,VX,Nat.reduceEqDiff,Nat.reduceAdd]
   refine⟨(i+1,outs++[r],1),by simp only;omega,by simp;omega,by simp only;omega,by simp,s1,Nat.le_refl _,s2,?_⟩
   simp only[List.length_append,List.length_singleton]
   try (repeat' apply And.intro)<;>first | rfl | trivial
  ·obtain⟨r,hr⟩:∃r:Nat,r+y+l=x:=⟨x-l-y,by omega⟩
   obtain⟨s1,s2⟩:=step r 0 (by omega) (by omega) (by omega)
   have er:(x:Int)-(y:Int)-(l:Int)=(r:Int):=by omega
   have a1:=ZD (ds:=outs) (d:=r) (by omega)
   have w3:IntKind.i64.wrap ((x:Int)-(y:Int)-(l:Int))=(r:Int):=wrapN r er (by omega)
   have Nb:¬(r:Int)<0:=by omega
   simp only[kR,g0,g1,g5,g6,g11,g12,dA,e1,c2,w1,w3,wi,Nb,qE,sH,a1,VX,Nat.reduceEqDiff,Nat.reduceAdd]
   refine⟨(i+1,outs++[r],0),by simp only;omega,by simp;omega,by simp only;omega,by simp,s1,Nat.zero_le _,s2,?_⟩
   simp only[List.length_append,List.length_singleton]
   try (repeat' apply And.intro)<;>first | rfl | trivial
 ·have rS:i=(aC 1000000000 a).length:=by omega
  rw[rS,List.take_length,List.take_of_length_le (l:=aC 1000000000 b) hle,bW (by decide),bW (by decide)] at hv
  have gF:=mO jQ
  rw[←hi,rS] at gF
  have Is:val 1000000000 outs=a-b:=by
   rcases Nat.lt_or_ge l 1 with h | h
   ·have:l=0:=by omega
    subst this
    rw[Nat.mul_zero] at hv
    omega
   ·have:l=1:=by omega
    subst this
    rw[Nat.mul_one] at hv
    omega
  simp only[kR,g0,g1,g5,g6,g11,g12,dA,VX,Nat.reduceEqDiff,Nat.reduceAdd]
  refine Fp jQ rfl (by omega) Is ?_
  simp only[VX,Nat.reduceEqDiff,Nat.reduceAdd]
  exact NY _
theorem fW (a b:Nat) (ha:(aC 1000000000 a).length≤17592186044416) (hb:(aC 1000000000 b).length≤17592186044416):TC 162 [bN a,bN b] (bN (a*b)):=by
 refine TC.walk ⟨true,false⟩ Ft rfl (Nat.le_of_ble_eq_true rfl) (by simp[aJ,bU]) (lE _) ?_
 have va:=bW (b:=1000000000) (by decide) a
 have vb:=bW (b:=1000000000) (by decide) b
 have la:=eE (b:=1000000000) (by decide) a
 have lb:=eE (b:=1000000000) (by decide) b
 unfold bN
 generalize aC 1000000000 a=xs at *
 generalize aC 1000000000 b=ys at *
 have w0:IntKind.i64.wrap ((xs.length:Int)+(ys.length:Int))=((xs.length+ys.length:Nat):Int):=wrapN _ (by omega) (by omega)
 simp only[Bo,yI,dP,w0,MJ (xs.length+ys.length) (by omega),VX,Nat.reduceEqDiff,Nat.reduceAdd]
 generalize hN:xs.length+ys.length=N at *
 refine aY (fun(s:Nat×List Nat) ρ H=>s.1≤xs.length∧H=[.row 0 (s.2.map tV) 1 true]∧s.2.length=N∧(∀d∈s.2,d<1000000000)∧val 1000000000 (s.2.take (s.1+ys.length))=val 1000000000 (xs.take s.1)*b∧(∀j,s.1+ys.length≤j→j<N→s.2[j]? = some 0) ∧
  ρ 0=gB xs∧ρ 1=gB ys∧ρ 5 = .ref 0 0 0 N N∧ρ 17=VI xs.length∧ρ 18=VI s.1) (fun s=>xs.length-s.1) (0,List.replicate N 0) ⟨Nat.zero_le _,rfl,by simp,xP (by decide) _,by simp[val,List.take_replicate,oY],fun j _ h=>by simp[List.getElem?_replicate,h],rfl,rfl,rfl,rfl,rfl⟩ ?_
 rintro⟨i,outs⟩ ρ H ⟨hi,rfl,iF,jQ,hv,hzr,g0,g1,g5,g17,g18⟩
 simp only at hi iF jQ hv hzr g18
 by_cases dA:(i:Int)<(xs.length:Int)
 ·obtain⟨x,hx⟩:∃x,xs[i]? = some x:=⟨_,List.getElem?_eq_getElem (by omega)⟩
  have lx:=la x (List.mem_of_getElem? hx)
  have e1:∀os:List Nat,bE 1 (gB xs) (VI i) [.row 0 (os.map tV) 1 true]=some (.cO (tV x) 0):=fun os=>aM (f:=tV) (t := .op) (size:=1) (k := .i64) hx rfl
  simp only[qK,g0,g1,g5,g17,g18,dA,dP,VX,Nat.reduceEqDiff,Nat.reduceAdd]
  refine aY (fun(s:Nat×List Nat×Nat) ρ H=>s.1≤ys.length∧H=[.row 0 (s.2.1.map tV) 1 true]∧s.2.1.length=N∧(∀d∈s.2.1,d<1000000000)∧s.2.2<1000000000 ∧
   val 1000000000 (s.2.1.take (i+s.1))+1000000000^(i+s.1)*s.2.2=val 1000000000 (outs.take (i+s.1))+1000000000^i*(x*val 1000000000 (ys.take s.1))∧(∀j,i+s.1≤j→s.2.1[j]? = outs[j]?) ∧
   ρ 0=gB xs∧ρ 1=gB ys∧ρ 5 = .ref 0 0 0 N N∧ρ 6=VI i∧ρ 7=VI s.2.2∧ρ 17=VI xs.length∧ρ 18=VI i∧ρ 22=VI ys.length∧ρ 23=VI s.1) (fun s=>ys.length-s.1) (0,outs,0) ⟨Nat.zero_le _,rfl,iF,jQ,by simp,by simp[val],fun _ _=>rfl,by (repeat' apply And.intro)<;>first | rfl | trivial⟩ ?_
  rintro⟨k,os,c⟩ Lc H ⟨hk,rfl,Mj,Mw,hc,Ka,DM,k0,k1,k5,k6,k7,Fx,UN,k22,k23⟩
  simp only at hk Mj Mw hc Ka DM k7 k23
  have wi:IntKind.i64.wrap ((i:Int)+1)=((i+1:Nat):Int):=wrapN (i+1) (by omega) (by omega)
  by_cases hkn:(k:Int)<(ys.length:Int)
  ·obtain⟨y,hy⟩:∃y,ys[k]? = some y:=⟨_,List.getElem?_eq_getElem (by omega)⟩
   have ly:=lb y (List.mem_of_getElem? hy)
   obtain⟨o,ho⟩:∃o,os[i+k]? = some o:=⟨_,List.getElem?_eq_getElem (by omega)⟩
   have lo:=Mw o (List.mem_of_getElem? ho)
   have W5:outs[i+k]? = some o:=by rw[←DM (i+k) (Nat.le_refl _)];exact ho
   have f1:bE 1 (gB ys) (VI k) [.row 0 (os.map tV) 1 true]=some (.cO (tV y) 0):=aM (f:=tV) (t := .op) (size:=1) (k := .i64) hy rfl
   have w1:IntKind.i64.wrap ((i:Int)+(k:Int))=((i+k:Nat):Int):=wrapN _ (by omega) (by omega)
   have f2:bE 1 (.ref 0 0 0 N N) (VI ((i+k:Nat):Int)) [.row 0 (os.map tV) 1 true]=some (.ptr 0 0 (i+k) 0):=adT (by omega)
   have f3:dU false 1 (.ptr 0 0 (i+k) 0) [.row 0 (os.map tV) 1 true]=some (VI (o:Int)):=Jv HF ho
   have f4:∀s:Nat,cQ 0 1 (.ptr 0 0 (i+k) 0) (VI (s:Int)) [.row 0 (os.map tV) 1 true]=some [.row 0 ((os.set (i+k) s).map tV) 1 true]:=fun s=>Mb (by omega)
   have AI:x*y≤999999999*999999999:=Nat.mul_le_mul (by omega) (by omega)
   have w5:IntKind.i64.wrap ((x:Int)*(y:Int))=((x*y:Nat):Int):=wrapN _ (by simp) (by omega)
   have w6:IntKind.i64.wrap ((o:Int)+((x*y:Nat):Int))=((o+x*y:Nat):Int):=wrapN _ (by omega) (by omega)
   have w7:IntKind.i64.wrap (((o+x*y:Nat):Int)+(c:Int))=((o+x*y+c:Nat):Int):=wrapN _ (by omega) (by omega)
   have wk:IntKind.i64.wrap ((k:Int)+1)=((k+1:Nat):Int):=wrapN (k+1) (by omega) (by omega)
   have r1:=Li (o+x*y+c)
   have q1:=Ll (o+x*y+c) (by omega)
   simp only[qJ,k0,k1,k5,k6,k7,Fx,UN,k22,k23,hkn,e1,f1,f2,f3,f4,w1,w5,w6,w7,wk,r1,q1,VX,Nat.reduceEqDiff,Nat.reduceAdd]
   have hq:(o+x*y+c) / 1000000000<1000000000:=Nat.div_lt_of_lt_mul (by omega)
   refine⟨(k+1,os.set (i+k) ((o+x*y+c) % 1000000000),(o+x*y+c) / 1000000000),by simp only;omega,by omega,rfl,by rw[List.length_set];exact Mj,kC Mw (Nat.mod_lt _ (by decide)),hq,?_,fun j hj => ?_,by (repeat' apply And.intro)<;>first | rfl | trivial⟩
   ·have h1:=Nat.mod_add_div (o+x*y+c) 1000000000
    rw[show o+x*y+c=c+(x*y+o) by omega] at h1 ⊢
    rw[←Nat.add_assoc,dL (by omega),aU W5,aU hy,Nat.pow_succ]
    rw[Nat.pow_add] at Ka ⊢
    exact O2 Ka h1
   ·rw[List.getElem?_set_ne (by omega)]
    exact DM j (by omega)
  ·have hke:k=ys.length:=by omega
   subst hke
   rw[List.take_length,vb,hv] at Ka
   have w1:IntKind.i64.wrap ((i:Int)+(ys.length:Int))=((i+ys.length:Nat):Int):=wrapN _ (by omega) (by omega)
   have CD:os[i+ys.length]? = some 0:=by rw[DM _ (Nat.le_refl _)];exact hzr _ (Nat.le_refl _) (by omega)
   have f2:bE 1 (.ref 0 0 0 N N) (VI ((i+ys.length:Nat):Int)) [.row 0 (os.map tV) 1 true]=some (.ptr 0 0 (i+ys.length) 0):=adT (by omega)
   have f3:dU false 1 (.ptr 0 0 (i+ys.length) 0) [.row 0 (os.map tV) 1 true]=some (VI ((0:Nat):Int)):=Jv HF CD
   have f4:∀s:Nat,cQ 0 1 (.ptr 0 0 (i+ys.length) 0) (VI (s:Int)) [.row 0 (os.map tV) 1 true]=some [.row 0 ((os.set (i+ys.length) s).map tV) 1 true]:=fun s=>Mb (by omega)
   have w2:IntKind.i64.wrap (((0:Nat):Int)+(c:Int))=(c:Int):=wrapN _ (by omega) (by omega)
   simp only[qJ,k0,k1,k5,k6,k7,Fx,UN,k22,k23,hkn,dP,f2,f3,f4,w1,w2,wi,VX,Nat.reduceEqDiff,Nat.reduceAdd]
   refine⟨(i+1,os.set (i+ys.length) c),by simp only;omega,by omega,rfl,by rw[List.length_set];exact Mj,kC Mw hc,?_,fun j hj UW => ?_,by (repeat' apply And.intro)<;>first | rfl | trivial⟩
   ·rw[show i+1+ys.length=i+ys.length+1 by omega,dL (by omega),Ka,aU hx,Nat.add_mul,Nat.mul_assoc]
   ·rw[List.getElem?_set_ne (by omega),DM j (by omega)]
    exact hzr j (by omega) UW
 ·have rS:i=xs.length:=by omega
  subst rS
  rw[hN,List.take_length,va,List.take_of_length_le (by omega)] at hv
  simp only[qK,g0,g1,g5,g17,g18,dA,VX,Nat.reduceEqDiff,Nat.reduceAdd]
  refine Fp (m:=a*b) jQ iF.symm (by omega) hv ?_
  simp only[VX,Nat.reduceEqDiff,Nat.reduceAdd]
  exact NY _
theorem Aw (a:Nat) (ha:(aC 1000000000 a).length≤17592186044416):TC 236 [bN a] (if (aC 1000000000 a).length≤2 then .eQ [VI a,VB true] else .eQ [VI 0,VB false]):=by
 refine TC.walk ⟨true,false⟩ He rfl (Nat.le_of_ble_eq_true rfl) (by simp[aJ,bU]) (by split<;>rfl) ?_
 by_cases h2:(aC 1000000000 a).length≤2
 ·rw[if_pos h2]
  have h3:¬(2:Int)<((aC 1000000000 a).length:Int):=by omega
  have c0:TC 225 [bN a,VI 0] (VI ((a % 1000000000:Nat):Int)):=by have:=BG a 0;rwa [Nat.pow_zero,Nat.div_one] at this
  have c1:TC 225 [bN a,VI 1] (VI ((a / 1000000000 % 1000000000:Nat):Int)):=by have:=BG a 1;rwa [Nat.pow_one] at this
  have aX:=fP (b:=1000000000) (by decide) a
  have hp:1000000000^(aC 1000000000 a).length≤1000000000^2:=Nat.pow_le_pow_right (by decide) h2
  have hm:a / 1000000000<1000000000:=Nat.div_lt_of_lt_mul (by omega)
  rw[Nat.mod_eq_of_lt hm] at c1
  have hmd:=Nat.mod_add_div a 1000000000
  have w1:IntKind.i64.wrap (1000000000*((a / 1000000000:Nat):Int))=((1000000000*(a / 1000000000):Nat):Int):=wrapN _ (by omega) (by omega)
  have w2:IntKind.i64.wrap (((a % 1000000000:Nat):Int)+((1000000000*(a / 1000000000):Nat):Int))=(a:Int):=wrapN _ (by omega) (by omega)
  simp only[xN,tD,cK,h3,c0,c1,w1,w2,VX,Nat.reduceEqDiff,Nat.reduceAdd]
  exact aG rfl
 ·rw[if_neg h2]
  have h3:(2:Int)<((aC 1000000000 a).length:Int):=by omega
  simp only[xN,tD,cK,h3,VX,Nat.reduceEqDiff,Nat.reduceAdd]
  exact aG rfl
theorem WH {outs:List Nat} {n cap x:Nat} (hn:n=outs.length) (hc:n<cap):gH 0 1 8 (.ref 0 0 0 n cap) [VI (x:Int)] [.row 0 ((outs++List.replicate (cap-n) 0).map tV) 1 true]=some (.ref 0 0 0 (n+1) cap,[.row 0 (((outs++[x])++List.replicate (cap-(n+1)) 0).map tV) 1 true]):=by
 subst hn
 simp only[gH,bT,List.length_map,List.length_append,List.length_replicate,List.length_cons,List.length_nil,Nat.zero_add]
 rw[if_pos ⟨by decide,by decide⟩,if_pos ⟨trivial,Nat.le_refl _,by omega⟩,if_pos (by omega),if_neg (by omega),if_pos (by omega)]
 congr 3
 have e:List.replicate (cap-outs.length) 0=(0:Nat)::List.replicate (cap-(outs.length+1)) 0:=by
  rw[show cap-outs.length=(cap-(outs.length+1))+1 by omega,List.replicate_succ]
 simp only[cL,List.set_cons_zero,e,List.map_append,List.map_cons,List.length_cons,List.length_nil,List.map_nil]
 congr 1
 rw[List.take_left' (by simp),←List.drop_drop,List.drop_left' (by simp)]
 simp
theorem vF (a d:Nat) (BD:0<d) (hd:d<1000000000) (ha:(aC 1000000000 a).length<17592186044416):TC 238 [bN a,VI (d:Int)] (bN (a*d)):=by
 refine TC.walk ⟨true,false⟩ DH rfl (Nat.le_of_ble_eq_true rfl) (by simp[aJ,bU];rfl) (lE _) ?_
 have w0:IntKind.i64.wrap (((aC 1000000000 a).length:Int)+1)=(((aC 1000000000 a).length+1:Nat):Int):=wrapN _ (by omega) (by omega)
 have mk:yK [.int .i64 0] 8 (VI 0) (VI (((aC 1000000000 a).length+1:Nat):Int)) []=some (.ref 0 0 0 0 ((aC 1000000000 a).length+1),[.row 0 ((([]:List Nat)++List.replicate ((aC 1000000000 a).length+1-0) 0).map tV) 1 true]):=by
  simp only[yK]
  rw[if_pos ⟨by omega,by omega,by omega,by omega⟩]
  simp
  rfl
 simp only[zB,vA,cK,w0,mk,VX,Nat.reduceEqDiff,Nat.reduceAdd]
 refine aY (fun(s:Nat×List Nat×Nat) ρ H=>s.1=s.2.1.length∧s.1≤(aC 1000000000 a).length∧H=[.row 0 ((s.2.1++List.replicate ((aC 1000000000 a).length+1-s.1) 0).map tV) 1 true]∧s.2.2<d∧aC 1000000000 (a*d)=s.2.1++aC 1000000000 (a / 1000000000^s.1*d+s.2.2) ∧
  ρ 1=VI d∧ρ 5 = .ref 0 0 0 s.1 ((aC 1000000000 a).length+1)∧ρ 6=VI s.2.2∧ρ 14=bN a∧ρ 15=VI (aC 1000000000 a).length∧ρ 16=VI s.1) (fun s=>(aC 1000000000 a).length-s.1) (0,[],0) ⟨rfl,Nat.zero_le _,rfl,BD,by simp,rfl,rfl,rfl,rfl,rfl,rfl⟩ ?_
 rintro⟨i,outs,c⟩ ρ H ⟨hi,HK,rfl,hc,hv,g1,g5,g6,g14,g15,g16⟩
 simp only at hi HK hc hv g5 g6 g16
 by_cases dA:(i:Int)<((aC 1000000000 a).length:Int)
 ·have hx:=I4 (b:=1000000000) (by decide) (n:=a) (i:=i) (by omega)
  have hA:=(Cp (b:=1000000000) (by decide) (n:=a) (i:=i)).1 (by omega)
  have e1:∀H,bE 1 (bN a) (VI i) H=some (.cO (tV (a / 1000000000^i % 1000000000)) 0):=fun H=>aM (f:=tV) (t := .op) (size:=1) (k := .i64) hx rfl
  have lx:=Nat.mod_lt (a / 1000000000^i) (show 0<1000000000 by decide)
  have eW:a / 1000000000^i*d+c≠0:=by
   have:=Nat.mul_ne_zero hA (show d≠0 by omega)
   omega
  rw[Uk (by decide) eW,←qI] at hv
  generalize a / 1000000000^i % 1000000000=x at *
  have hxd:x*d≤999999999*999999999:=Nat.mul_le_mul (by omega) (by omega)
  have w1:IntKind.i64.wrap ((x:Int)*(d:Int))=((x*d:Nat):Int):=wrapN _ (by simp) (by omega)
  have w2:IntKind.i64.wrap (((x*d:Nat):Int)+(c:Int))=((x*d+c:Nat):Int):=wrapN _ (by omega) (by omega)
  have wi:IntKind.i64.wrap ((i:Int)+1)=((i+1:Nat):Int):=wrapN (i+1) (by omega) (by omega)
  have r1:=Li (x*d+c)
  have q1:=Ll (x*d+c) (by omega)
  have a1:=WH (outs:=outs) (n:=i) (cap:=(aC 1000000000 a).length+1) (x:=(x*d+c) % 1000000000) hi (by omega)
  have hq:(x*d+c) / 1000000000<d:=by
   rw[Nat.div_lt_iff_lt_mul (by decide)]
   have h1:x*d≤999999999*d:=Nat.mul_le_mul_right _ (by omega)
   omega
  simp only[jR,g1,g5,g6,g14,g15,g16,dA,e1,w1,w2,wi,r1,q1,qE,sH,a1,VX,Nat.reduceEqDiff,Nat.reduceAdd]
  refine⟨(i+1,outs++[(x*d+c) % 1000000000],(x*d+c) / 1000000000),by simp only;omega,by simp;omega,by simp only;omega,rfl,hq,by rw[hv,List.append_assoc];rfl,?_⟩
  try (repeat' apply And.intro)<;>first | rfl | trivial
 ·have rS:i=(aC 1000000000 a).length:=by omega
  have hz:a / 1000000000^i=0:=by
   have:=mt (Cp (b:=1000000000) (by decide) (n:=a) (i:=i)).2
   omega
  rw[hz,Nat.zero_mul,Nat.zero_add] at hv
  by_cases hcp:(0:Int)<(c:Int)
  ·rw[BL (b:=1000000000) (by decide) (show c≠0 by omega) (show c<1000000000 by omega)] at hv
   have a1:=WH (outs:=outs) (n:=i) (cap:=(aC 1000000000 a).length+1) (x:=c) hi (by omega)
   simp only[jR,g1,g5,g6,g14,g15,g16,dA,hcp,qE,sH,a1,VX,Nat.reduceEqDiff,Nat.reduceAdd]
   rw[bN,hv]
   rw[HH bT (by simp;omega) (by omega) (dQ fun _=>rfl)]
   rw[List.map_append,List.take_left' (by simp;omega)]
  ·have hc0:c=0:=by omega
   rw[hc0,bQ,List.append_nil] at hv
   simp only[jR,g1,g5,g6,g14,g15,g16,dA,hcp,VX,Nat.reduceEqDiff,Nat.reduceAdd]
   rw[bN,hv]
   rw[HH bT (by simp;omega) (by omega) (dQ fun _=>rfl)]
   rw[List.map_append,List.take_left' (by simp;omega)]
theorem HE (a b:Nat) (ha:a≤9223372036854775807) (hb:0<b):cX .quo (.int .i64 (a:Int)) (.int .i64 (b:Int))=some (.int .i64 ((a / b:Nat):Int)):=by
 have h1:¬((b:Int)=0):=by omega
 have h2:(a:Int).tdiv (b:Int)=((a / b:Nat):Int):=by rw[Int.tdiv_eq_ediv_of_nonneg (by omega)];simp
 have h3:a / b≤a:=Nat.div_le_self _ _
 simp only[cX,if_true,h1,if_false,h2]
 generalize a / b=q at *
 rw[wrap64 (by omega) (by omega)]
theorem Jp (a b:Nat) (hb:0<b):cX .rem (.int .i64 (a:Int)) (.int .i64 (b:Int))=some (.int .i64 ((a % b:Nat):Int)):=by
 have h1:¬((b:Int)=0):=by omega
 have h2:(a:Int).tmod (b:Int)=((a % b:Nat):Int):=by rw[Int.tmod_eq_emod_of_nonneg (by omega)];simp
 simp only[cX,if_true,h1,if_false,h2]
theorem XN {r d x:Nat} (hr:r<d) (hd:d<1000000000) (hx:x<1000000000):r*1000000000+x≤9223372036854775807:=by omega
theorem acH {r d x:Nat} (BD:0<d) (hr:r<d) (hx:x<1000000000):(r*1000000000+x) / d<1000000000:=by
 rw[Nat.div_lt_iff_lt_mul BD]
 omega
theorem wI (a d:Nat) (BD:0<d) (hdT:d<1000000000) (ha:(aC 1000000000 a).length≤17592186044416):TC 237 [bN a,VI (d:Int)] (.eQ [bN (a / d),VI ((a % d:Nat):Int)]):=by
 refine TC.walk ⟨true,false⟩ Ds rfl (Nat.le_of_ble_eq_true rfl) (by simp[aJ,bU];rfl) (by simp[gO,pM,lE,lS]) ?_
 have va:=bW (b:=1000000000) (by decide) a
 have la:=eE (b:=1000000000) (by decide) a
 unfold bN
 generalize aC 1000000000 a=xs at *
 have w0:IntKind.i64.wrap ((xs.length:Int)-1)=(xs.length:Int)-1:=wrap64 (by omega) (by omega)
 simp only[yW,vY,dP,w0,MJ xs.length (by omega),VX,Nat.reduceEqDiff,Nat.reduceAdd]
 refine aY (fun(s:Nat×List Nat×Nat) ρ H=>s.1≤xs.length∧H=[.row 0 (s.2.1.map tV) 1 true]∧s.2.1.length=xs.length∧(∀d∈s.2.1,d<1000000000)∧s.2.2<d∧val 1000000000 (s.2.1.drop s.1)*d+s.2.2=val 1000000000 (xs.drop s.1) ∧
  ρ 0=gB xs∧ρ 1=VI d∧ρ 6 = .ref 0 0 0 xs.length xs.length∧ρ 7=VI s.2.2∧ρ 8=VI ((s.1:Int)-1)) (fun s=>s.1) (xs.length,List.replicate xs.length 0,0) ⟨Nat.le_refl _,rfl,by simp,xP (by decide) _,BD,by simp[val,List.drop_replicate],rfl,rfl,rfl,rfl,rfl⟩ ?_
 rintro⟨j,outs,r⟩ ρ H ⟨hj,rfl,iF,jQ,hr,hv,g0,g1,g6,g7,g8⟩
 simp only at hj iF jQ hr hv g7 g8
 by_cases hz:(0:Int)≤(j:Int)-1
 ·obtain⟨i,rfl⟩:∃i,j=i+1:=⟨j-1,by omega⟩
  obtain⟨x,hx⟩:∃x,xs[i]? = some x:=⟨_,List.getElem?_eq_getElem (by omega)⟩
  have lx:=la x (List.mem_of_getElem? hx)
  have Kd:((i+1:Nat):Int)-1=(i:Int):=by omega
  rw[Kd] at g8 hz
  have e1:=aM (f:=tV) (t := .op) (H:=[.row 0 (outs.map tV) 1 true]) (size:=1) (k := .i64) hx rfl
  have e3:bE 1 (.ref 0 0 0 xs.length xs.length) (VI i) [.row 0 (outs.map tV) 1 true]=some (.ptr 0 0 i 0):=adT (by omega)
  have e4:∀s:Nat,cQ 0 1 (.ptr 0 0 i 0) (VI (s:Int)) [.row 0 (outs.map tV) 1 true]=some [.row 0 ((outs.set i s).map tV) 1 true]:=fun s=>Mb (by omega)
  have w2:IntKind.i64.wrap ((i:Int)-1)=(i:Int)-1:=wrap64 (by omega) (by omega)
  have w4:IntKind.i64.wrap ((r:Int)*1000000000)=((r*1000000000:Nat):Int):=wrapN _ (by omega) (by omega)
  have w5:IntKind.i64.wrap (((r*1000000000:Nat):Int)+(x:Int))=((r*1000000000+x:Nat):Int):=wrapN _ (by omega) (by omega)
  have Cw:r*1000000000+x≤9223372036854775807:=XN hr hdT lx
  have q1:=HE (r*1000000000+x) d Cw BD
  have q2:=Jp (r*1000000000+x) d BD
  have hq:(r*1000000000+x) / d<1000000000:=acH BD hr lx
  simp only[nY,g0,g1,g6,g7,g8,hz,e1,e3,e4,w2,w4,w5,q1,q2,VX,Nat.reduceEqDiff,Nat.reduceAdd]
  refine⟨(i,outs.set i ((r*1000000000+x) / d),(r*1000000000+x) % d),by simp only;omega,by omega,rfl,by rw[List.length_set];exact iF,kC jQ hq,Nat.mod_lt _ BD,?_,by (repeat' apply And.intro)<;>first | rfl | trivial⟩
  have h1:=Nat.mod_add_div (r*1000000000+x) d
  rw[set_drop (by omega),pO,qG hx,←hv]
  exact NF h1
 ·have Qq:j=0:=by omega
  subst Qq
  rw[List.drop_zero,List.drop_zero,va] at hv
  have h1:a / d=val 1000000000 outs:=by
   rw[←hv,Nat.mul_comm,Nat.mul_add_div BD,Nat.div_eq_of_lt hr,Nat.add_zero]
  have h2:a % d=r:=by
   rw[←hv,Nat.mul_comm,Nat.mul_add_mod,Nat.mod_eq_of_lt hr]
  simp only[nY,g0,g1,g6,g7,g8,hz,VX,Nat.reduceEqDiff,Nat.reduceAdd]
  refine Fp (m:=a / d) jQ iF.symm (by omega) h1.symm ?_
  simp only[g7,VX,Nat.reduceEqDiff,Nat.reduceAdd]
  rw[h2]
  exact aG (by simp[aR,aJ,wK,bN,lS])
end Go.PM
namespace Go.PM
section
variable {H:aA} {b g o i lo d:Nat} {L R:List VV} {low:List Nat}
theorem Vn (hr:aQ H b g=some (L++low.map tV++R,1,true)) (ho:L.length=o) (hi:low[i]? = some d):dU false 1 (.ptr b g (o+i) 0) H=some (VI (d:Int)):=by
 have aX:=(List.getElem?_eq_some_iff.1 hi).1
 rw[MP hr (x:=tV d) (by rw[LP ho (by simpa using aX)];simp[hi])]
 rfl
theorem Ww (hr:aQ H b g=some (L++low.map tV++R,1,true)) (ho:L.length=o) (hi:i<low.length) (gF:lo≤b):cQ lo 1 (.ptr b g (o+i) 0) (VI (d:Int)) H=some (H.set b (.row g (L++(low.set i d).map tV++R) 1 true)):=by
 rw[kX hr (by simp only[List.length_append,List.length_map];omega) gF rfl rfl,SM ho (by simpa using hi),List.map_set]
theorem QG {n:Nat} {z:Int} (hr:aQ H b g=some (L++low.map tV++VI z::R,1,true)) (ho:L.length=o) (hn:low.length=n):dU false 1 (.ptr b g (o+n) 0) H=some (VI z):=by
 rw[MP hr (x:=VI z) (by rw[List.getElem?_append_right (by simp;omega)];simp[ho,hn])]
 rfl
theorem WG {n:Nat} {z z':Int} (hr:aQ H b g=some (L++low.map tV++VI z::R,1,true)) (ho:L.length=o) (hn:low.length=n) (gF:lo≤b):cQ lo 1 (.ptr b g (o+n) 0) (VI z') H=some (H.set b (.row g (L++low.map tV++VI z'::R) 1 true)):=by
 rw[kX hr (by simp only[List.length_append,List.length_map,List.length_cons];omega) gF rfl rfl,List.set_append_right _ _ (by simp;omega)]
 congr 5
 simp[ho,hn]
end
theorem M3 {P A N B c u x t r k m q T:Nat} (h:A+P*c=N+t*B) (h1:r+m+c=u+T*k) (h2:m+T*q=x*t):(A+P*u)+P*T*(q+k)=(N+P*r)+t*(B+P*x):=by
 have e1:P*(r+m+c)=P*(u+T*k):=by rw[h1]
 have e2:P*(m+T*q)=P*(x*t):=by rw[h2]
 grind
theorem W9 {x t:Nat} (hx:x<1000000000) (ht:t<1000000000):x*t≤999999998000000001∧x*t / 1000000000≤999999998:=by
 have h:x*t≤999999999*999999999:=Nat.mul_le_mul (by omega) (by omega)
 omega
theorem Tv {H:aA} {lo b g o n N t top:Nat} {L R:List VV} {low vs:List Nat} (hr:aQ H b g=some (L++low.map tV++VI (top:Int)::R,1,true)) (gF:lo≤b) (ho:L.length=o) (hl:low.length=n) (CU:vs.length=n) (hN:o+n<N) (Bf:N≤70368744177664)
  (WX:∀d∈low,d<1000000000) (D9:∀d∈vs,d<1000000000) (ht:t<1000000000) (Xl:top<1000000000) :
  qX 239 [.ref b g 0 N N,gB vs,VI (o:Int),VI (t:Int)] lo H fun r H'=>∃(yU:List Nat) (c:Nat),H'=H.set b (.row g (L++yU.map tV++VI ((top:Int)-(c:Int))::R) 1 true)∧yU.length=n∧(∀d∈yU,d<1000000000)∧c≤1000000000 ∧
   r=VB (decide ((top:Int)-(c:Int)<0))∧val 1000000000 low+1000000000^n*c=val 1000000000 yU+t*val 1000000000 vs:=by
 refine qX.walk ⟨true,false⟩ D2 (Nat.le_of_ble_eq_true rfl) ?_
 have rd:∀(s:List Nat) (z:Int),aQ (H.set b (.row g (L++s.map tV++VI z::R) 1 true)) b g=some (L++s.map tV++VI z::R,1,true):=fun s z=>lK hr
 have ad:∀(K:aA) (es:List VV) (i:Nat),aQ K b g=some (es,1,true)→i≤n→bE 1 (.ref b g 0 N N) (VI ((o+i:Nat):Int)) K=some (.ptr b g (o+i) 0):=fun K es i h hi=>by rw[bB h (by omega),Nat.zero_add]
 simp only[Ar,xI,dP,VX,Nat.reduceEqDiff,Nat.reduceAdd]
 refine aY (fun(u:Nat×List Nat×Nat) ρ K=>u.1≤n∧K=H.set b (.row g (L++u.2.1.map tV++VI (top:Int)::R) 1 true)∧u.2.1.length=n∧(∀d∈u.2.1,d<1000000000)∧u.2.2≤1000000000∧val 1000000000 (low.take u.1)+1000000000^u.1*u.2.2=val 1000000000 (u.2.1.take u.1)+t*val 1000000000 (vs.take u.1)∧(∀j,u.1≤j→u.2.1[j]? = low[j]?) ∧
  ρ 0 = .ref b g 0 N N∧ρ 1=gB vs∧ρ 2=VI o∧ρ 3=VI t∧ρ 9=VI u.2.2∧ρ 13=gB vs∧ρ 14=VI vs.length∧ρ 15=VI u.1) (fun u=>n-u.1) (0,low,0) ⟨Nat.zero_le _,(tT hr).symm,hl,WX,by simp,by simp[val],fun _ _=>rfl,by (repeat' apply And.intro)<;>first | rfl | trivial⟩ ?_
 rintro⟨i,outs,c⟩ ρ K ⟨hi,rfl,iF,jQ,hc,hv,DM,k0,k1,k2,k3,k9,zJ,AR,HL⟩
 simp only at hi iF jQ hc hv DM k9 HL
 by_cases dA:(i:Int)<(vs.length:Int)
 ·obtain⟨u,hu⟩:∃u,outs[i]? = some u:=⟨_,List.getElem?_eq_getElem (by omega)⟩
  have lu:=jQ u (List.mem_of_getElem? hu)
  have hu':low[i]? = some u:=by rw[←DM i (Nat.le_refl _)];exact hu
  obtain⟨x,hx⟩:∃x,vs[i]? = some x:=⟨_,List.getElem?_eq_getElem (by omega)⟩
  have lx:=D9 x (List.mem_of_getElem? hx)
  obtain⟨xt1,xt2⟩:=W9 lx ht
  have e1:bE 1 (gB vs) (VI i) (H.set b (.row g (L++outs.map tV++VI (top:Int)::R) 1 true))=some (.cO (tV x) 0):=aM (f:=tV) (t := .op) (size:=1) (k := .i64) hx rfl
  have w1:IntKind.i64.wrap ((o:Int)+(i:Int))=((o+i:Nat):Int):=wrapN _ (by omega) (by omega)
  have e2:=ad _ _ i (rd outs top) (by omega)
  have e3:=Vn (rd outs top) ho hu
  have e4:∀d:Nat,cQ lo 1 (.ptr b g (o+i) 0) (VI (d:Int)) (H.set b (.row g (L++outs.map tV++VI (top:Int)::R) 1 true))=some (H.set b (.row g (L++(outs.set i d).map tV++VI (top:Int)::R) 1 true)):=fun d=>by rw[Ww (rd outs top) ho (by omega) gF,kL]
  have w2:IntKind.i64.wrap ((x:Int)*(t:Int))=((x*t:Nat):Int):=wrapN _ (by simp) (by omega)
  have r1:=Li (x*t)
  have q1:=Ll (x*t) (by omega)
  have hm:=Nat.mod_lt (x*t) (show 0<1000000000 by decide)
  have hdv:=Nat.mod_add_div (x*t) 1000000000
  have wi:IntKind.i64.wrap ((i:Int)+1)=((i+1:Nat):Int):=wrapN (i+1) (by omega) (by omega)
  generalize hmq:x*t % 1000000000=m at *
  generalize hqq:x*t / 1000000000=q at *
  have w3:IntKind.i64.wrap ((u:Int)-(m:Int))=(u:Int)-(m:Int):=wrap64 (by omega) (by omega)
  have w4:IntKind.i64.wrap ((u:Int)-(m:Int)-(c:Int))=(u:Int)-(m:Int)-(c:Int):=wrap64 (by omega) (by omega)
  have step:∀r k:Nat,r<1000000000→r+m+c=u+1000000000*k→val 1000000000 (low.take (i+1))+1000000000^(i+1)*(q+k)=val 1000000000 ((outs.set i r).take (i+1))+t*val 1000000000 (vs.take (i+1))∧(∀d∈outs.set i r,d<1000000000)∧(∀j,i+1≤j→(outs.set i r)[j]? = low[j]?)∧(outs.set i r).length=n:=by
   intro r k hr hk
   refine⟨?_,kC jQ hr,fun j hj=>by rw[List.getElem?_set_ne (by omega)];exact DM j (by omega),by rw[List.length_set];exact iF⟩
   rw[aU hu',aU hx,dL (by omega),Nat.pow_succ]
   exact M3 hv hk hdv
  by_cases h1:(u:Int)-(m:Int)-(c:Int)<0
  ·have w5:IntKind.i64.wrap ((u:Int)-(m:Int)-(c:Int)+1000000000)=(u:Int)-(m:Int)-(c:Int)+1000000000:=wrap64 (by omega) (by omega)
   have w6:IntKind.i64.wrap ((q:Int)+1)=((q+1:Nat):Int):=wrapN _ (by omega) (by omega)
   by_cases h2:(u:Int)-(m:Int)-(c:Int)+1000000000<0
   ·obtain⟨r,hr⟩:∃r:Nat,r+m+c=u+1000000000*2:=⟨u+1000000000*2-m-c,by omega⟩
    have w7:IntKind.i64.wrap ((u:Int)-(m:Int)-(c:Int)+1000000000+1000000000)=(r:Int):=wrapN r (by omega) (by omega)
    have w8:IntKind.i64.wrap (((q+1:Nat):Int)+1)=((q+2:Nat):Int):=wrapN _ (by omega) (by omega)
    obtain⟨s1,s2,s3,s4⟩:=step r 2 (by omega) hr
    simp only[iQ,k0,k1,k2,k3,k9,zJ,AR,HL,dA,e1,e2,e3,e4,w1,w2,w3,w4,w5,w6,w7,w8,wi,r1,q1,h1,h2,VX,Nat.reduceEqDiff,Nat.reduceAdd]
    refine⟨(i+1,outs.set i r,q+2),by simp only;omega,by omega,rfl,s4,s2,by simp only;omega,s1,s3,?_⟩
    try (repeat' apply And.intro)<;>first | rfl | trivial
   ·obtain⟨r,hr⟩:∃r:Nat,r+m+c=u+1000000000*1:=⟨u+1000000000*1-m-c,by omega⟩
    have w7:IntKind.i64.wrap ((u:Int)-(m:Int)-(c:Int)+1000000000)=(r:Int):=wrapN r (by omega) (by omega)
    have h3:¬(r:Int)<0:=by omega
    obtain⟨s1,s2,s3,s4⟩:=step r 1 (by omega) hr
    simp only[iQ,k0,k1,k2,k3,k9,zJ,AR,HL,dA,e1,e2,e3,e4,w1,w2,w3,w4,w6,w7,wi,r1,q1,h1,h3,VX,Nat.reduceEqDiff,Nat.reduceAdd]
    refine⟨(i+1,outs.set i r,q+1),by simp only;omega,by omega,rfl,s4,s2,by simp only;omega,s1,s3,?_⟩
    try (repeat' apply And.intro)<;>first | rfl | trivial
  ·obtain⟨r,hr⟩:∃r:Nat,r+m+c=u+1000000000*0:=⟨u-m-c,by omega⟩
   have w7:IntKind.i64.wrap ((u:Int)-(m:Int)-(c:Int))=(r:Int):=wrapN r (by omega) (by omega)
   have h3:¬(r:Int)<0:=by omega
   obtain⟨s1,s2,s3,s4⟩:=step r 0 (by omega) hr
   simp only[iQ,k0,k1,k2,k3,k9,zJ,AR,HL,dA,e1,e2,e3,e4,w1,w2,w3,w7,wi,r1,q1,h3,VX,Nat.reduceEqDiff,Nat.reduceAdd]
   refine⟨(i+1,outs.set i r,q),by simp only;omega,by omega,rfl,s4,s2,by simp only;omega,s1,s3,?_⟩
   try (repeat' apply And.intro)<;>first | rfl | trivial
 ·have rS:i=n:=by omega
  subst rS
  rw[List.take_of_length_le (by omega),List.take_of_length_le (by omega),List.take_of_length_le (by omega)] at hv
  have w1:IntKind.i64.wrap ((o:Int)+(vs.length:Int))=((o+i:Nat):Int):=wrapN _ (by omega) (by omega)
  have e2:=ad _ _ i (rd outs top) (by omega)
  have e2':=ad _ _ i (rd outs ((top:Int)-(c:Int))) (by omega)
  have e3:=QG (rd outs top) ho iF
  have e3':=QG (rd outs ((top:Int)-(c:Int))) ho iF
  have e4:cQ lo 1 (.ptr b g (o+i) 0) (VI ((top:Int)-(c:Int))) (H.set b (.row g (L++outs.map tV++VI (top:Int)::R) 1 true))=some (H.set b (.row g (L++outs.map tV++VI ((top:Int)-(c:Int))::R) 1 true)):=by rw[WG (rd outs top) ho iF gF,kL]
  have w2:IntKind.i64.wrap ((top:Int)-(c:Int))=(top:Int)-(c:Int):=wrap64 (by omega) (by omega)
  simp only[iQ,k0,k1,k2,k3,k9,zJ,AR,HL,dA,dP,w1,w2,e2,e2',e3,e3',e4,VX,Nat.reduceEqDiff,Nat.reduceAdd]
  refine⟨outs,c,rfl,iF,jQ,hc,?_,hv⟩
  try rfl
theorem UB {H:aA} {lo b g o n N:Nat} {z:Int} {L R:List VV} {low vs:List Nat} (hr:aQ H b g=some (L++low.map tV++VI z::R,1,true)) (gF:lo≤b) (ho:L.length=o) (hl:low.length=n) (CU:vs.length=n) (hN:o+n<N) (Bf:N≤70368744177664)
  (WX:∀d∈low,d<1000000000) (D9:∀d∈vs,d<1000000000) (hz : -1000000000≤z) (PQ:z≤1000000000) :
  qX 240 [.ref b g 0 N N,gB vs,VI (o:Int)] lo H fun r H'=>∃(yU:List Nat) (c:Nat),H'=H.set b (.row g (L++yU.map tV++VI (z+(c:Int))::R) 1 true)∧yU.length=n∧(∀d∈yU,d<1000000000)∧c≤1 ∧
   val 1000000000 low+val 1000000000 vs=val 1000000000 yU+1000000000^n*c:=by
 refine qX.walk ⟨true,false⟩ Em (Nat.le_of_ble_eq_true rfl) ?_
 have rd:∀(s:List Nat) (z:Int),aQ (H.set b (.row g (L++s.map tV++VI z::R) 1 true)) b g=some (L++s.map tV++VI z::R,1,true):=fun s z=>lK hr
 have ad:∀(K:aA) (es:List VV) (i:Nat),aQ K b g=some (es,1,true)→i≤n→bE 1 (.ref b g 0 N N) (VI ((o+i:Nat):Int)) K=some (.ptr b g (o+i) 0):=fun K es i h hi=>by rw[bB h (by omega),Nat.zero_add]
 simp only[Az,wT,dP,VX,Nat.reduceEqDiff,Nat.reduceAdd]
 refine aY (fun(u:Nat×List Nat×Nat) ρ K=>u.1≤n∧K=H.set b (.row g (L++u.2.1.map tV++VI z::R) 1 true)∧u.2.1.length=n∧(∀d∈u.2.1,d<1000000000)∧u.2.2≤1∧val 1000000000 (low.take u.1)+val 1000000000 (vs.take u.1)=val 1000000000 (u.2.1.take u.1)+1000000000^u.1*u.2.2∧(∀j,u.1≤j→u.2.1[j]? = low[j]?) ∧
  ρ 0 = .ref b g 0 N N∧ρ 1=gB vs∧ρ 2=VI o∧ρ 6=VI u.2.2∧ρ 10=gB vs∧ρ 11=VI vs.length∧ρ 12=VI u.1) (fun u=>n-u.1) (0,low,0) ⟨Nat.zero_le _,(tT hr).symm,hl,WX,by simp,by simp[val],fun _ _=>rfl,by (repeat' apply And.intro)<;>first | rfl | trivial⟩ ?_
 rintro⟨i,outs,c⟩ ρ K ⟨hi,rfl,iF,jQ,hc,hv,DM,k0,k1,k2,k6,UX,Sv,G3⟩
 simp only at hi iF jQ hc hv DM k6 G3
 by_cases dA:(i:Int)<(vs.length:Int)
 ·obtain⟨u,hu⟩:∃u,outs[i]? = some u:=⟨_,List.getElem?_eq_getElem (by omega)⟩
  have lu:=jQ u (List.mem_of_getElem? hu)
  have hu':low[i]? = some u:=by rw[←DM i (Nat.le_refl _)];exact hu
  obtain⟨x,hx⟩:∃x,vs[i]? = some x:=⟨_,List.getElem?_eq_getElem (by omega)⟩
  have lx:=D9 x (List.mem_of_getElem? hx)
  have e1:bE 1 (gB vs) (VI i) (H.set b (.row g (L++outs.map tV++VI z::R) 1 true))=some (.cO (tV x) 0):=aM (f:=tV) (t := .op) (size:=1) (k := .i64) hx rfl
  have w1:IntKind.i64.wrap ((o:Int)+(i:Int))=((o+i:Nat):Int):=wrapN _ (by omega) (by omega)
  have e2:=ad _ _ i (rd outs z) (by omega)
  have e3:=Vn (rd outs z) ho hu
  have e4:∀d:Nat,cQ lo 1 (.ptr b g (o+i) 0) (VI (d:Int)) (H.set b (.row g (L++outs.map tV++VI z::R) 1 true))=some (H.set b (.row g (L++(outs.set i d).map tV++VI z::R) 1 true)):=fun d=>by rw[Ww (rd outs z) ho (by omega) gF,kL]
  have w2:IntKind.i64.wrap ((u:Int)+(x:Int))=((u+x:Nat):Int):=wrapN _ (by omega) (by omega)
  have w3:IntKind.i64.wrap (((u+x:Nat):Int)+(c:Int))=((u+x+c:Nat):Int):=wrapN _ (by omega) (by omega)
  have r1:=Li (u+x+c)
  have q1:=Ll (u+x+c) (by omega)
  have wi:IntKind.i64.wrap ((i:Int)+1)=((i+1:Nat):Int):=wrapN (i+1) (by omega) (by omega)
  simp only[pA,k0,k1,k2,k6,UX,Sv,G3,dA,e1,e2,e3,e4,w1,w2,w3,wi,r1,q1,VX,Nat.reduceEqDiff,Nat.reduceAdd]
  refine⟨(i+1,outs.set i ((u+x+c) % 1000000000),(u+x+c) / 1000000000),by simp only;omega,by omega,rfl,by rw[List.length_set];exact iF,kC jQ (Nat.mod_lt _ (by decide)),by simp only;omega,?_,fun j hj=>by rw[List.getElem?_set_ne (by omega)];exact DM j (by omega),?_⟩
  ·simp only
   rw[aU hu',aU hx,dL (by omega),Nat.pow_succ]
   exact Dx hv (show c+u+x=u+x+c by omega) (Nat.mod_add_div _ _)
  ·try (repeat' apply And.intro)<;>first | rfl | trivial
 ·have rS:i=n:=by omega
  subst rS
  rw[List.take_of_length_le (by omega),List.take_of_length_le (by omega),List.take_of_length_le (by omega)] at hv
  have w1:IntKind.i64.wrap ((o:Int)+(vs.length:Int))=((o+i:Nat):Int):=wrapN _ (by omega) (by omega)
  have e2:=ad _ _ i (rd outs z) (by omega)
  have e3:=QG (rd outs z) ho iF
  have e4:cQ lo 1 (.ptr b g (o+i) 0) (VI (z+(c:Int))) (H.set b (.row g (L++outs.map tV++VI z::R) 1 true))=some (H.set b (.row g (L++outs.map tV++VI (z+(c:Int))::R) 1 true)):=by rw[WG (rd outs z) ho iF gF,kL]
  have w2:IntKind.i64.wrap (z+(c:Int))=z+(c:Int):=wrap64 (by omega) (by omega)
  simp only[pA,k0,k1,k2,k6,UX,Sv,G3,dA,dP,w1,w2,e2,e3,e4,VX,Nat.reduceEqDiff,Nat.reduceAdd]
  exact⟨outs,c,rfl,iF,jQ,hc,hv⟩
end Go.PM
namespace Go.PM
abbrev H2 (us os:List Nat):aA:=[.row 0 (us.map tV) 1 true,.row 0 (os.map tV) 1 true]
theorem PW {us os:List Nat}:aQ (H2 us os) 0 0=some (us.map tV,1,true):=rfl
theorem ahL {us os:List Nat}:aQ (H2 us os) 1 0=some (os.map tV,1,true):=rfl
theorem YL {P a Z:Nat} {y:Int} (h:(a:Int)+(P:Int)*y=(Z:Int)) (ha:a<P) (hZ:Z<P):y=0∧a=Z:=by
 have hy:y=0:=by
  rcases Int.lt_trichotomy y 0 with h1 | h1 | h1
  ·have:(P:Int)*y≤(P:Int)*(-1):=Int.mul_le_mul_of_nonneg_left (by omega) (by omega)
   omega
  ·exact h1
  ·have:(P:Int)*1≤(P:Int)*y:=Int.mul_le_mul_of_nonneg_left (by omega) (by omega)
   omega
 subst hy
 rw[Int.mul_zero] at h
 exact⟨rfl,by omega⟩
theorem PZ {us:List Nat} {i n N V:Nat} (hN:us.length=N) (dA:i+n<N) (hd:∀d∈us,d<1000000000) (hV:V<1000000000^n) (Au:val 1000000000 (us.drop (i+1))<V) :
  us=us.take i++(us.drop i).take (n+1)++us.drop (i+(n+1))∧(us.take i).length=i∧((us.drop i).take (n+1)).length=n+1∧val 1000000000 ((us.drop i).take (n+1))<1000000000*V∧val 1000000000 (us.drop i)=val 1000000000 ((us.drop i).take (n+1))∧val 1000000000 (us.drop (i+(n+1)))=0∧∀j,j<n+1→((us.drop i).take (n+1))[j]? = us[i+j]? := by
 obtain⟨x,hx⟩:∃x,us[i]? = some x:=⟨_,List.getElem?_eq_getElem (by omega)⟩
 have lx:=hd x (List.mem_of_getElem? hx)
 have h1:=qG (b:=1000000000) hx
 have h2:val 1000000000 (us.drop i)<1000000000*V:=by
  have:1000000000*(val 1000000000 (us.drop (i+1))+1)≤1000000000*V:=Nat.mul_le_mul_left _ Au
  omega
 have h3:=nI (b:=1000000000) (us.drop i) (n+1)
 have h4:((us.drop i).take (n+1)).length=n+1:=by rw[List.length_take,List.length_drop];omega
 rw[h4,List.drop_drop] at h3
 have h5:val 1000000000 (us.drop (i+(n+1)))=0:=by
  rcases Nat.eq_zero_or_pos (val 1000000000 (us.drop (i+(n+1)))) with h | h
  ·exact h
  ·have h6:1000000000^(n+1)*1≤1000000000^(n+1)*val 1000000000 (us.drop (i+(n+1))):=Nat.mul_le_mul_left _ h
   have h7:1000000000*V≤1000000000^(n+1):=by rw[Nat.pow_succ,Nat.mul_comm];exact Nat.mul_le_mul_right _ (by omega)
   omega
 rw[h5,Nat.mul_zero,Nat.add_zero] at h3
 refine⟨?_,by rw[List.length_take];omega,h4,by omega,h3,h5,fun j hj => ?_⟩
 ·rw[List.append_assoc,←List.drop_drop,List.take_append_drop,List.take_append_drop]
 ·rw[List.getElem?_take_of_lt hj,List.getElem?_drop]
theorem leT {g:Nat} (h:(1000000000:Int)≤(g:Int)):1000000000≤g:=by omega
theorem VZ {g:Nat} (h:¬(1000000000:Int)≤(g:Int)):g<1000000000:=by omega
theorem ltC {a b:Nat} (h:(a:Int)<(b:Int)):a<b:=by omega
theorem anO {a b:Nat} (h:¬(a:Int)<(b:Int)):b≤a:=by omega
theorem KH {a:Nat} (h:a*1000000000≤9223372036854775807):IntKind.i64.wrap ((a:Int)*1000000000)=((a*1000000000:Nat):Int):=wrapN _ (by omega) h
theorem KV {a b:Nat} (h:a+b≤9223372036854775807):IntKind.i64.wrap ((a:Int)+(b:Int))=((a+b:Nat):Int):=wrapN _ (by omega) h
theorem Ui {a b:Nat} (h:a*b≤9223372036854775807):IntKind.i64.wrap ((a:Int)*(b:Int))=((a*b:Nat):Int):=wrapN _ (by simp) h
theorem x17 {a:Nat} (h:a<1000000000):a*1000000000≤9223372036854775807:=by omega
theorem x18 {a b:Nat} (h:a<1000000000) (hb:b<1000000000):a*1000000000+b≤1000000000000000000:=by omega
theorem Oe {gG vs us os:List Nat} {n u2 u1 u0 v1 v0 N i g left:Nat} (G:tJ 1000000000 gG vs n u2 u1 u0 v1 v0) {ρ:cR} {Q:VQ} (hN:us.length=N) (hiN:i+(n+2)<N) (Bf:N≤70368744177664) (Ze:us[i+n]? = some u0)
  (g13:ρ 13 = .ref 0 0 0 N N) (g14:ρ 14=gB vs) (g15:ρ 15=VI ((n+2:Nat):Int)) (g17:ρ 17=VI i) (g19:ρ 19=VI g) (g20:ρ 20=VI left) (hh:u2*1000000000+u1=g*v1+left) (hq:val 1000000000 gG / val 1000000000 vs≤g) (hl:left<1000000000) (hgb:g≤1000000000000000000)
  (hQ:∀(aW:cR) (g':Nat),val 1000000000 gG / val 1000000000 vs≤g'→g'≤val 1000000000 gG / val 1000000000 vs+1→g'<1000000000→aW 19=VI g'→aW 12=ρ 12→aW 13=ρ 13→aW 14=ρ 14→aW 15=ρ 15→aW 16=ρ 16→aW 17=ρ 17→Q (.exit 2) aW (H2 us os)) :
  VW ⟨true,false⟩ 0 (.loop fI) Q ρ (H2 us os):=by
 have lv1:=G.SI
 have lv0:=G.WL
 have lu0:=G.ZT
 have qlt:=G.YM
 have jO:=G.pos
 have CU:=G.Iv
 refine aY (fun(t:Nat×Nat) aW H=>H=H2 us os∧u2*1000000000+u1=t.1*v1+t.2∧val 1000000000 gG / val 1000000000 vs≤t.1∧t.2<1000000000∧t.1≤1000000000000000000 ∧
  aW 13 = .ref 0 0 0 N N∧aW 14=gB vs∧aW 15=VI ((n+2:Nat):Int)∧aW 17=VI i∧aW 19=VI t.1∧aW 20=VI t.2∧aW 12=ρ 12∧aW 16=ρ 16) (fun t=>1000000000-t.2) (g,left) ⟨rfl,hh,hq,hl,hgb,g13,g14,g15,g17,g19,g20,rfl,rfl⟩ ?_
 rintro⟨g,left⟩ Lc H ⟨rfl,hh,hq,hl,hgb,zJ,AR,HL,Fx,Yf,k20,G3,Yc⟩
 simp only at hh hq hl hgb Yf k20
 have f1:bE 1 (gB vs) (VI ((n+1:Nat):Int)) (H2 us os)=some (.cO (tV v1) 0):=aM (f:=tV) (t := .op) (size:=1) (k := .i64) G.f1 rfl
 have f0:bE 1 (gB vs) (VI (n:Int)) (H2 us os)=some (.cO (tV v0) 0):=aM (f:=tV) (t := .op) (size:=1) (k := .i64) G.f0 rfl
 have wn2:IntKind.i64.wrap (((n+2:Nat):Int)-2)=(n:Int):=wrapN _ (by omega) (by omega)
 have wn1:IntKind.i64.wrap (((n+2:Nat):Int)-1)=((n+1:Nat):Int):=wrapN _ (by omega) (by omega)
 have wi:IntKind.i64.wrap ((i:Int)+((n+2:Nat):Int))=((i+(n+2):Nat):Int):=wrapN _ (by omega) (by omega)
 have wi2:IntKind.i64.wrap (((i+(n+2):Nat):Int)-2)=((i+n:Nat):Int):=wrapN _ (by omega) (by omega)
 have e1:bE 1 (.ref 0 0 0 N N) (VI ((i+n:Nat):Int)) (H2 us os)=some (.ptr 0 0 (i+n) 0):=by rw[bB PW (by omega),Nat.zero_add]
 have e2:dU false 1 (.ptr 0 0 (i+n) 0) (H2 us os)=some (VI (u0:Int)):=Jv PW Ze
 have wl:IntKind.i64.wrap ((left:Int)+(v1:Int))=((left+v1:Nat):Int):=wrapN _ (by omega) (by omega)
 have down:val 1000000000 gG / val 1000000000 vs<g→∃g',g=g'+1∧IntKind.i64.wrap ((g:Int)-1)=(g':Int)∧u2*1000000000+u1=g'*v1+(left+v1)∧val 1000000000 gG / val 1000000000 vs≤g':=by
  intro h
  have ZH:1≤g:=Nat.lt_of_le_of_lt (Nat.zero_le _) h
  obtain⟨g',rfl⟩:∃g',g=g'+1:=⟨g-1,by omega⟩
  refine⟨g',rfl,wrapN _ (by omega) (by omega),?_,by omega⟩
  rw[hh,Nat.add_mul]
  omega
 have hmu:∀g':Nat,left+v1<1000000000→1000000000-(g',left+v1).2<1000000000-(g,left).2:=fun g' h=>by
  show 1000000000-(left+v1)<1000000000-left
  omega
 have hle:∀g':Nat,g=g'+1→g'≤1000000000000000000:=fun g' h=>by
  omega
 have akW:left*1000000000+u0≤9223372036854775807:=Nat.le_trans (x18 hl lu0) (by decide)
 have amI:left*1000000000≤9223372036854775807:=x17 hl
 have ws:IntKind.i64.wrap ((left:Int)*1000000000)=((left*1000000000:Nat):Int):=KH amI
 have wa:IntKind.i64.wrap (((left*1000000000:Nat):Int)+(u0:Int))=((left*1000000000+u0:Nat):Int):=KV akW
 obtain⟨s13,s14,s15,s17⟩:Lc 13=ρ 13∧Lc 14=ρ 14∧Lc 15=ρ 15∧Lc 17=ρ 17:=⟨by rw[zJ,g13],by rw[AR,g14],by rw[HL,g15],by rw[Fx,g17]⟩
 by_cases hA:(1000000000:Int)≤(g:Int)
 ·have hA':=leT hA
  obtain⟨g',VP,wg,Qv,JT⟩:=down (Nat.lt_of_lt_of_le qlt hA')
  by_cases hB:(1000000000:Int)≤((left+v1:Nat):Int)
  ·obtain⟨c1,c2⟩:=G.broken Qv (leT hB)
   simp only[fI,zJ,AR,HL,Fx,Yf,k20,hA,hB,f1,wn1,wg,wl,VX,Nat.reduceEqDiff,Nat.reduceAdd]
   exact hQ _ g' JT (G.Uc Qv (Nat.le_of_lt c1) c2) c1 rfl G3 s13 s14 s15 Yc s17
  ·simp only[fI,zJ,AR,HL,Fx,Yf,k20,hA,hB,f1,wn1,wg,wl,VX,Nat.reduceEqDiff,Nat.reduceAdd]
   refine⟨(g',left+v1),hmu g' (VZ hB),Qv,JT,VZ hB,hle g' VP,?_⟩
   exact⟨rfl,rfl,G3,Yc⟩
 ·have hA':=VZ hA
  have hgv:g*v0≤999999999*999999999:=Nat.mul_le_mul (Nat.le_of_lt_succ hA') (Nat.le_of_lt_succ lv0)
  have wm:IntKind.i64.wrap ((g:Int)*(v0:Int))=((g*v0:Nat):Int):=Ui (Nat.le_trans hgv (by decide))
  by_cases hT:((left*1000000000+u0:Nat):Int)<((g*v0:Nat):Int)
  ·obtain⟨g',VP,wg,Qv,JT⟩:=down (G.too hh (ltC hT))
   by_cases hB:(1000000000:Int)≤((left+v1:Nat):Int)
   ·obtain⟨c1,c2⟩:=G.broken Qv (leT hB)
    simp only[fI,zJ,AR,HL,Fx,Yf,k20,hA,hB,hT,f1,f0,e1,e2,wn1,wn2,wi,wi2,ws,wa,wm,wg,wl,VX,Nat.reduceEqDiff,Nat.reduceAdd]
    exact hQ _ g' JT (G.Uc Qv (Nat.le_of_lt c1) c2) c1 rfl G3 s13 s14 s15 Yc s17
   ·simp only[fI,zJ,AR,HL,Fx,Yf,k20,hA,hB,hT,f1,f0,e1,e2,wn1,wn2,wi,wi2,ws,wa,wm,wg,wl,VX,Nat.reduceEqDiff,Nat.reduceAdd]
    refine⟨(g',left+v1),hmu g' (VZ hB),Qv,JT,VZ hB,hle g' VP,?_⟩
    exact⟨rfl,rfl,G3,Yc⟩
  ·simp only[fI,zJ,AR,HL,Fx,Yf,k20,hA,hT,f0,e1,e2,wn2,wi,wi2,ws,wa,wm,VX,Nat.reduceEqDiff,Nat.reduceAdd]
   exact hQ _ g hq (G.Uc hh (Nat.le_of_lt hA') (anO hT)) hA' Yf G3 s13 s14 s15 Yc s17
theorem K9 {CE US vs:List Nat} {N m n v1 v0 A s:Nat} {ρ:cR} {Q:VQ} (hN:CE.length=N) (hm:m+(n+2)=N) (Bf:N≤70368744177664) (G6:∀d∈CE,d<1000000000) (CU:vs.length=n+2) (D9:∀d∈vs,d<1000000000) (f1:vs[n+1]? = some v1) (f0:vs[n]? = some v0) (jO:1≤v1)
  (hA:val 1000000000 CE=A) (Au:val 1000000000 (CE.drop m)<val 1000000000 vs) (iF:US.length=m) (jQ:∀d∈US,d<1000000000)
  (g12:ρ 12=VI s) (g13:ρ 13 = .ref 0 0 0 N N) (g14:ρ 14=gB vs) (g15:ρ 15=VI ((n+2:Nat):Int)) (g16:ρ 16 = .ref 1 0 0 m m) (g17:ρ 17=VI ((m:Int)-1))
  (hQ:∀(aW:cR) (us os:List Nat),aW 12=VI s→aW 13 = .ref 0 0 0 N N→aW 16 = .ref 1 0 0 m m→us.length=N→(∀d∈us,d<1000000000)→os.length=m→(∀d∈os,d<1000000000)→val 1000000000 us+val 1000000000 vs*val 1000000000 os=A→val 1000000000 us<val 1000000000 vs→Q (.exit 0) aW (H2 us os)) :
  VW ⟨true,false⟩ 0 (.loop gP) Q ρ (H2 CE US):=by
 have hVb:=mO D9
 rw[CU] at hVb
 refine aY (fun(t:Nat×List Nat×List Nat) aW H=>t.1≤m∧H=H2 t.2.1 t.2.2∧t.2.1.length=N∧(∀d∈t.2.1,d<1000000000)∧t.2.2.length=m∧(∀d∈t.2.2,d<1000000000)∧val 1000000000 (t.2.1.drop t.1)<val 1000000000 vs∧val 1000000000 t.2.1+1000000000^t.1*val 1000000000 vs*val 1000000000 (t.2.2.drop t.1)=A ∧
  aW 12=VI s∧aW 13 = .ref 0 0 0 N N∧aW 14=gB vs∧aW 15=VI ((n+2:Nat):Int)∧aW 16 = .ref 1 0 0 m m∧aW 17=VI ((t.1:Int)-1)) (fun t=>t.1) (m,CE,US) ⟨Nat.le_refl _,rfl,hN,G6,iF,jQ,Au,by rw[List.drop_of_length_le (by simp only;omega)];simpa[val] using hA,g12,g13,g14,g15,g16,g17⟩ ?_
 rintro⟨j,us,os⟩ Lc H ⟨hj,rfl,M5,G6,iF,jQ,aX,hv,G3,zJ,AR,HL,Yc,Fx⟩
 simp only at hj M5 G6 iF jQ aX hv Fx
 by_cases hz:(0:Int)≤(j:Int)-1
 ·obtain⟨i,rfl⟩:∃i,j=i+1:=⟨j-1,by omega⟩
  have Kd:((i+1:Nat):Int)-1=(i:Int):=by omega
  rw[Kd] at Fx hz
  obtain⟨QX,AS,Mj,hsW,We,Vx,wP⟩:=PZ (n:=n+2) M5 (by omega) G6 hVb aX
  generalize Th:(us.drop i).take (n+2+1)=gG at *
  have Mw:∀d∈gG,d<1000000000:=fun d hd=>by rw[←Th] at hd;exact G6 d (List.mem_of_mem_drop (List.mem_of_mem_take hd))
  obtain⟨u2,Z4⟩:∃u2,us[i+(n+2)]? = some u2:=⟨_,List.getElem?_eq_getElem (by omega)⟩
  obtain⟨u1,X7⟩:∃u1,us[i+(n+1)]? = some u1:=⟨_,List.getElem?_eq_getElem (by omega)⟩
  obtain⟨u0,Ze⟩:∃u0,us[i+n]? = some u0:=⟨_,List.getElem?_eq_getElem (by omega)⟩
  have G:tJ 1000000000 gG vs n u2 u1 u0 v1 v0:=⟨by decide,Mw,D9,Mj,CU,by rw[wP _ (by omega)];exact Z4,by rw[wP _ (by omega)];exact X7,by rw[wP _ (by omega)];exact Ze,f1,f0,jO,hsW⟩
  have lu2:=G.ZZ
  have lu1:=G.Vp
  have lv1:=G.SI
  have qlt:=G.YM
  have Gd:=G.Gd
  have w1:IntKind.i64.wrap ((i:Int)+((n+2:Nat):Int))=((i+(n+2):Nat):Int):=wrapN _ (by omega) (by omega)
  have w2:IntKind.i64.wrap (((i+(n+2):Nat):Int)-1)=((i+(n+1):Nat):Int):=wrapN _ (by omega) (by omega)
  have wn1:IntKind.i64.wrap (((n+2:Nat):Int)-1)=((n+1:Nat):Int):=wrapN _ (by omega) (by omega)
  have ev1:bE 1 (gB vs) (VI ((n+1:Nat):Int)) (H2 us os)=some (.cO (tV v1) 0):=aM (f:=tV) (t := .op) (size:=1) (k := .i64) f1 rfl
  have e2:bE 1 (.ref 0 0 0 N N) (VI ((i+(n+2):Nat):Int)) (H2 us os)=some (.ptr 0 0 (i+(n+2)) 0):=by rw[bB PW (by omega),Nat.zero_add]
  have e1:bE 1 (.ref 0 0 0 N N) (VI ((i+(n+1):Nat):Int)) (H2 us os)=some (.ptr 0 0 (i+(n+1)) 0):=by rw[bB PW (by omega),Nat.zero_add]
  have l2:dU false 1 (.ptr 0 0 (i+(n+2)) 0) (H2 us os)=some (VI (u2:Int)):=Jv PW Z4
  have l1:dU false 1 (.ptr 0 0 (i+(n+1)) 0) (H2 us os)=some (VI (u1:Int)):=Jv PW X7
  have aoQ:u2*1000000000+u1≤1000000000000000000:=x18 lu2 lu1
  have anU:u2*1000000000≤9223372036854775807:=x17 lu2
  have aiK:u2*1000000000+u1≤9223372036854775807:=Nat.le_trans aoQ (by decide)
  have ws2:IntKind.i64.wrap ((u2:Int)*1000000000)=((u2*1000000000:Nat):Int):=KH anU
  have wa:IntKind.i64.wrap (((u2*1000000000:Nat):Int)+(u1:Int))=((u2*1000000000+u1:Nat):Int):=KV aiK
  have q1:=HE (u2*1000000000+u1) v1 aiK jO
  have q2:=Jp (u2*1000000000+u1) v1 jO
  simp only[gP,G3,zJ,AR,HL,Yc,Fx,hz,w1,w2,wn1,ev1,e1,e2,l1,l2,ws2,wa,q1,q2,VX,Nat.reduceEqDiff,Nat.reduceAdd]
  clear ws2 wa q1 q2 e1 e2 l1 l2 ev1 w1 w2 wn1
  have hh:=Nat.mod_add_div (u2*1000000000+u1) v1
  have hml:=Nat.mod_lt (u2*1000000000+u1) jO
  have hdl:(u2*1000000000+u1) / v1≤u2*1000000000+u1:=Nat.div_le_self _ _
  have Kc:val 1000000000 gG / val 1000000000 vs≤(u2*1000000000+u1) / v1:=by
   have t1:=(BB (n:=n+1) (xs:=gG) Mw (by omega) (by rw[wP _ (by omega)];exact Z4) (by rw[wP _ (by omega)];exact X7)).2
   have t2:=(wS (n:=n+1) D9 CU f1).1
   rw[Nat.le_div_iff_mul_le jO]
   have t3:val 1000000000 gG / val 1000000000 vs*(v1*1000000000^(n+1))≤val 1000000000 gG / val 1000000000 vs*val 1000000000 vs:=Nat.mul_le_mul_left _ t2
   have t4:=Nat.div_mul_le_self (val 1000000000 gG) (val 1000000000 vs)
   have t5:val 1000000000 gG / val 1000000000 vs*v1*1000000000^(n+1)<(u2*1000000000+u1+1)*1000000000^(n+1):=by rw[Nat.mul_assoc];omega
   have:=Nat.lt_of_mul_lt_mul_right t5
   omega
  generalize hQ1:(u2*1000000000+u1) / v1=g0 at *
  generalize hQ2:(u2*1000000000+u1) % v1=l0 at *
  refine Oe (i:=i) G M5 (by omega) Bf Ze zJ AR HL Fx (by rfl) (by rfl) (by rw[Nat.mul_comm g0];omega) Kc (by omega) (by omega) ?_
  intro Qd g' hq JT hgW r19 ZP Ys r14 r15 r16 r17
  have Nw:Qd 12=VI s:=ZP.trans G3
  have Pk:Qd 13 = .ref 0 0 0 N N:=Ys.trans zJ
  have Om:Qd 14=gB vs:=r14.trans AR
  have NS:Qd 15=VI ((n+2:Nat):Int):=r15.trans HL
  have Yw:Qd 16 = .ref 1 0 0 m m:=r16.trans Yc
  have Y6:Qd 17=VI i:=r17.trans Fx
  simp only[Nw,Pk,Om,NS,Yw,Y6,r19,VX,Nat.reduceEqDiff,Nat.reduceAdd]
  have uL:g'*val 1000000000 vs≤val 1000000000 gG+val 1000000000 vs:=by
   have:=Nat.mul_le_mul_right (val 1000000000 vs) JT
   rw[Nat.add_mul,Nat.one_mul] at this
   have:=Nat.div_mul_le_self (val 1000000000 gG) (val 1000000000 vs)
   omega
  obtain⟨low,adP⟩:∃low,low=gG.take (n+2):=⟨_,rfl⟩
  have hll:low.length=n+2:=by rw[adP,List.length_take];omega
  have WX:∀d∈low,d<1000000000:=fun d hd=>Mw d (by rw[adP] at hd;exact List.mem_of_mem_take hd)
  have hsg:gG=low++[u2]:=by
   have h1:gG[n+2]? = some u2:=by rw[wP _ (by omega)];exact Z4
   have h2:=List.take_append_drop (n+2) gG
   have h3:=(List.getElem?_eq_some_iff.1 h1)
   rw[List.drop_eq_getElem_cons h3.1,h3.2,List.drop_of_length_le (by omega),←adP] at h2
   exact h2.symm
  have Nc:val 1000000000 gG=val 1000000000 low+1000000000^(n+2)*u2:=by rw[hsg,qB,hll]
  have Fi:∀(lw:List Nat) (t:Nat),(us.take i).map tV++lw.map tV++VI (t:Int)::(us.drop (i+(n+2+1))).map tV=(us.take i++(lw++[t])++us.drop (i+(n+2+1))).map tV:=fun lw t=>by simp
  have Nb:aQ (H2 us os) 0 0=some ((us.take i).map tV++low.map tV++VI (u2:Int)::(us.drop (i+(n+2+1))).map tV,1,true):=by
   rw[Fi,←hsg,←QX]
   rfl
  refine nN rfl ((Tv (o:=i) (n:=n+2) Nb (Nat.zero_le _) (by simpa using AS) hll CU (by omega) Bf WX D9 hgW lu2).mono ?_)
  rintro r H' ⟨yU,c,rfl,A5,Wq,hc,hr,hE⟩
  have aqW:val 1000000000 low<1000000000^(n+2):=by have:=mO WX;rwa [hll] at this
  have amC:val 1000000000 yU<1000000000^(n+2):=by have:=mO Wq;rwa [A5] at this
  have rows:∀(lw:List Nat) (t q:Nat),lw.length=n+2→(∀d∈lw,d<1000000000)→t<1000000000→q=val 1000000000 gG / val 1000000000 vs→val 1000000000 lw+1000000000^(n+2)*t=val 1000000000 gG % val 1000000000 vs →
    ((us.take i++(lw++[t])++us.drop (i+(n+2+1))).length=N∧(∀d∈us.take i++(lw++[t])++us.drop (i+(n+2+1)),d<1000000000)∧val 1000000000 ((us.take i++(lw++[t])++us.drop (i+(n+2+1))).drop i)<val 1000000000 vs∧val 1000000000 (us.take i++(lw++[t])++us.drop (i+(n+2+1)))+1000000000^i*val 1000000000 vs*val 1000000000 ((os.set i q).drop i)=A):=by
   intro lw t q hlw alF ht PS X3
   have ZN:val 1000000000 (lw++[t])=val 1000000000 gG % val 1000000000 vs:=by rw[qB,hlw];exact X3
   have anR:(lw++[t]).length=n+3:=by rw[List.length_append,hlw];rfl
   have apC:∀d∈lw++[t],d<1000000000:=fun d hd=>by
    rcases List.mem_append.1 hd with h | h
    ·exact alF d h
    ·rw[List.mem_singleton.1 h];exact ht
   generalize lw++[t]=oX at *
   have YV:=Nat.mod_lt (val 1000000000 gG) Gd
   have QJ:(us.take i++oX++us.drop (i+(n+2+1))).drop i=oX++us.drop (i+(n+2+1)):=by rw[List.append_assoc,List.drop_append,List.drop_of_length_le (by omega),AS];simp
   have QU:(us.take i++oX++us.drop (i+(n+2+1))).take i=us.take i:=by rw[List.append_assoc,List.take_append_of_le_length (by omega),List.take_of_length_le (by omega)]
   have OO:val 1000000000 ((us.take i++oX++us.drop (i+(n+2+1))).drop i)=val 1000000000 oX:=by rw[QJ,wC,Vx,Nat.mul_zero,Nat.add_zero]
   refine⟨by rw[List.length_append,List.length_append,AS,anR,List.length_drop];omega,fun d hd => ?_,by rw[OO,ZN];exact YV,?_⟩
   ·rw[List.mem_append,List.mem_append] at hd
    rcases hd with(hd | hd) | hd
    ·exact G6 d (List.mem_of_mem_take hd)
    ·exact apC d hd
    ·exact G6 d (List.mem_of_mem_drop hd)
   ·have h1:=Nat.div_add_mod (val 1000000000 gG) (val 1000000000 vs)
    rw[←PS,←ZN,Nat.mul_comm] at h1
    have h2:=nI (b:=1000000000) us i
    have h3:=nI (b:=1000000000) (us.take i++oX++us.drop (i+(n+2+1))) i
    rw[QU,AS,OO] at h3
    rw[AS,We] at h2
    rw[set_drop (by omega),pO,h3]
    rw[h2,Nat.pow_succ] at hv
    exact Ig h1.symm hv
  have e3:∀(Dm:List Nat) (d:Nat),bE 1 (.ref 1 0 0 m m) (VI i) (H2 Dm os)=some (.ptr 1 0 i 0)∧cQ 0 1 (.ptr 1 0 i 0) (VI (d:Int)) (H2 Dm os)=some (H2 Dm (os.set i d)):=fun Dm d=>by
   refine⟨by rw[bB ahL (by omega),Nat.zero_add],?_⟩
   rw[show VI (d:Int)=tV d from rfl,fH (f:=tV) (e:=1) ahL (by omega) (Nat.zero_le _) rfl rfl]
   rfl
  have wi:IntKind.i64.wrap ((i:Int)-1)=(i:Int)-1:=wrap64 (by omega) (by omega)
  have hdm:=Nat.div_add_mod (val 1000000000 gG) (val 1000000000 vs)
  have YV:=Nat.mod_lt (val 1000000000 gG) Gd
  generalize hPP:1000000000^(n+2)=P at *
  by_cases lP:(u2:Int)-(c:Int)<0
  ·
   rw[decide_eq_true lP] at hr
   subst hr
   have hgt:val 1000000000 gG<g'*val 1000000000 vs:=by
    have h1:P*(u2+1)≤P*c:=Nat.mul_le_mul_left _ (by omega)
    rw[Nat.mul_add,Nat.mul_one] at h1
    omega
   have PS:g'=val 1000000000 gG / val 1000000000 vs+1:=by
    rcases Nat.lt_or_ge (val 1000000000 gG / val 1000000000 vs) g' with h | h
    ·omega
    ·have h1:g'*val 1000000000 vs≤val 1000000000 gG / val 1000000000 vs*val 1000000000 vs:=Nat.mul_le_mul_right _ h
     have:=Nat.div_mul_le_self (val 1000000000 gG) (val 1000000000 vs)
     omega
   have ZH:1≤g':=by rw[PS];exact Nat.le_add_left 1 _
   have wg:IntKind.i64.wrap ((g':Int)-1)=((g'-1:Nat):Int):=wrapN _ (by omega) (by omega)
   simp only[Nw,Pk,Om,NS,Yw,Y6,r19,wg,VX,Nat.reduceEqDiff,Nat.reduceAdd]
   have Na:aQ ((H2 us os).set 0 (.row 0 ((us.take i).map tV++yU.map tV++VI ((u2:Int)-(c:Int))::(us.drop (i+(n+2+1))).map tV) 1 true)) 0 0=some ((us.take i).map tV++yU.map tV++VI ((u2:Int)-(c:Int))::(us.drop (i+(n+2+1))).map tV,1,true):=rfl
   refine nN rfl ((UB (o:=i) (n:=n+2) Na (Nat.zero_le _) (by simpa using AS) A5 CU (by omega) Bf Wq D9 (by omega) (by omega)).mono ?_)
   rintro r H' ⟨QE,c2,rfl,Gy,hd2,X6,hE2⟩
   rw[hPP] at hE2
   have acU:val 1000000000 QE<P:=by have:=mO hd2;rwa [Gy,hPP] at this
   obtain⟨hy,hZ⟩:(u2:Int)-(c:Int)+(c2:Int)=0∧val 1000000000 QE=val 1000000000 gG % val 1000000000 vs:=by
    refine YL (P:=P) ?_ acU (by omega)
    have i1:(P:Int)*((u2:Int)-(c:Int)+(c2:Int))=(P:Int)*u2-(P:Int)*c+(P:Int)*c2:=by rw[Int.mul_add,Int.mul_sub]
    have i2:((P*u2:Nat):Int)=(P:Int)*u2:=by simp
    have i3:((P*c:Nat):Int)=(P:Int)*c:=by simp
    have i4:((P*c2:Nat):Int)=(P:Int)*c2:=by simp
    rw[i1,←i2,←i3,←i4]
    have i5:g'*val 1000000000 vs=val 1000000000 vs*(val 1000000000 gG / val 1000000000 vs)+val 1000000000 vs:=by rw[PS,Nat.add_mul,Nat.one_mul,Nat.mul_comm (val 1000000000 vs)]
    omega
   have Fa:((H2 us os).set 0 (.row 0 ((us.take i).map tV++yU.map tV++VI ((u2:Int)-(c:Int))::(us.drop (i+(n+2+1))).map tV) 1 true)).set 0 (.row 0 ((us.take i).map tV++QE.map tV++VI ((u2:Int)-(c:Int)+(c2:Int))::(us.drop (i+(n+2+1))).map tV) 1 true)=H2 (us.take i++(QE++[0])++us.drop (i+(n+2+1))) os:=by
    rw[hy]
    rw[show (0:Int)=((0:Nat):Int) from rfl,Fi]
    rfl
   rw[Fa]
   obtain⟨x1,x2⟩:=e3 (us.take i++(QE++[0])++us.drop (i+(n+2+1))) (g'-1)
   obtain⟨y1,y2,y3,y4⟩:=rows QE 0 (g'-1) Gy hd2 (by decide) (by rw[PS,Nat.add_sub_cancel]) (by rw[Nat.mul_zero,Nat.add_zero];exact hZ)
   simp only[Nw,Pk,Om,NS,Yw,Y6,x1,x2,wi,VX,Nat.reduceEqDiff,Nat.reduceAdd]
   refine⟨(i,us.take i++(QE++[0])++us.drop (i+(n+2+1)),os.set i (g'-1)),by simp only;omega,by omega,rfl,y1,y2,by rw[List.length_set];exact iF,kC jQ (by omega),y3,y4,?_⟩
   try (repeat' apply And.intro)<;>first | rfl | trivial
  ·rw[decide_eq_false lP] at hr
   subst hr
   obtain⟨t',YG⟩:∃t':Nat,(u2:Int)-(c:Int)=(t':Int):=⟨u2-c,by omega⟩
   have hP1:P*u2=P*c+P*t':=by rw[←Nat.mul_add];congr 1;omega
   have Cv:g'*val 1000000000 vs≤val 1000000000 gG:=by omega
   have PS:g'=val 1000000000 gG / val 1000000000 vs:=by
    have:=(Nat.le_div_iff_mul_le Gd).2 Cv
    omega
   have Fa:(H2 us os).set 0 (.row 0 ((us.take i).map tV++yU.map tV++VI ((u2:Int)-(c:Int))::(us.drop (i+(n+2+1))).map tV) 1 true)=H2 (us.take i++(yU++[t'])++us.drop (i+(n+2+1))) os:=by
    rw[YG,Fi]
    rfl
   rw[Fa]
   obtain⟨x1,x2⟩:=e3 (us.take i++(yU++[t'])++us.drop (i+(n+2+1))) g'
   have X3:val 1000000000 yU+P*t'=val 1000000000 gG % val 1000000000 vs:=by
    rw[←PS,Nat.mul_comm] at hdm
    omega
   obtain⟨y1,y2,y3,y4⟩:=rows yU t' g' A5 Wq (by omega) PS X3
   simp only[Nw,Pk,Om,NS,Yw,Y6,r19,x1,x2,wi,VX,Nat.reduceEqDiff,Nat.reduceAdd]
   refine⟨(i,us.take i++(yU++[t'])++us.drop (i+(n+2+1)),os.set i g'),by simp only;omega,by omega,rfl,y1,y2,by rw[List.length_set];exact iF,kC jQ (by omega),y3,y4,?_⟩
   try (repeat' apply And.intro)<;>first | rfl | trivial
 ·have Qq:j=0:=by omega
  subst Qq
  rw[Nat.pow_zero,Nat.one_mul,List.drop_zero] at hv
  rw[List.drop_zero] at aX
  simp only[gP,G3,zJ,AR,HL,Yc,Fx,hz,VX,Nat.reduceEqDiff,Nat.reduceAdd]
  exact hQ _ us os G3 zJ Yc M5 G6 iF jQ hv aX
end Go.PM
namespace Go.PM
theorem Lu {ds:List Nat} {H:aA}:eX 1 (gB ds) H=some (ds.map tV):=by
 have:((ds.map tV).all fun x=>(aB x).length == 1&&(aB x).all cH)=true:=by
  rw[List.all_eq_true]
  intro x hx
  obtain⟨d,_,rfl⟩:=List.mem_map.1 hx
  rfl
 simp only[eX,gB,bL,this,if_true]
theorem Co (n:Nat) {H:aA}:eX 1 (bN n) H=some ((aC 1000000000 n).map tV):=Lu
theorem FO {a n:Nat} (hn:(aC 1000000000 a).length=n+1):∃d,(aC 1000000000 a)[n]? = some d∧d≠0∧d<1000000000:=by
 obtain⟨d,hd⟩:∃d,(aC 1000000000 a)[n]? = some d:=⟨_,List.getElem?_eq_getElem (by omega)⟩
 refine⟨d,hd,fun h0 => ?_,eE (by decide) a d (List.mem_of_getElem? hd)⟩
 have:=Kk (b:=1000000000) (by decide) a
 rw[List.getLast?_eq_getElem?,hn,Nat.add_sub_cancel,hd,h0] at this
 exact this rfl
theorem Tn {a d:Nat} (h:aC 1000000000 a=[d]):a=d∧0<d∧d<1000000000:=by
 have h1:=bW (b:=1000000000) (by decide) a
 rw[h,val_one] at h1
 obtain⟨e,h2,h3,h4⟩:=FO (a:=a) (n:=0) (by rw[h];rfl)
 rw[h] at h2
 cases h2
 exact⟨h1.symm,by omega,h4⟩
theorem acE {a:Nat} (h:(aC 1000000000 a).length≤2):a<1000000000000000000:=by
 have h1:=fP (b:=1000000000) (by decide) a
 have h2:1000000000^(aC 1000000000 a).length≤1000000000^2:=Nat.pow_le_pow_right (by decide) h
 omega
theorem Vv {H:aA} {u v:VV} (hu:aR u=true) (hv:aR v=true):fz depth H (.eQ [u,v])=some (.eQ [u,v]):=aG (by simp only[aR,aJ,hu,hv,Bool.and_self])
theorem agI {X N:Nat} (h:(aC 1000000000 X).length≤N):Ls 0 1 (.ref 0 0 0 N N) (bN X) [.row 0 ((List.replicate N 0).map tV) 1 true]=some (VI ((aC 1000000000 X).length:Int),[.row 0 ((aC 1000000000 X++List.replicate (N-(aC 1000000000 X).length) 0).map tV) 1 true]):=by
 have e:((aC 1000000000 X).map tV).take N=(aC 1000000000 X).map tV:=List.take_of_length_le (by simpa using h)
 simp only[Ls,bN,Lu,bT,e,List.length_map,List.length_replicate,Nat.zero_add]
 rw[if_pos ⟨trivial,Nat.le_refl _,h⟩]
 simp only[cL,List.set_cons_zero,List.take_zero,List.nil_append,Nat.zero_add,List.length_map,List.map_append,List.map_replicate,List.drop_replicate]
theorem rP (a b:Nat) (hb:b≠0) (ha:(aC 1000000000 a).length<17592186044416) (sW:(aC 1000000000 b).length<17592186044416):TC 214 [bN a,bN b] (.eQ [bN (a / b),bN (a % b)]):=by
 refine TC.walk ⟨true,false⟩ FF rfl (Nat.le_of_ble_eq_true rfl) (by simp[aJ,bU]) (by simp[gO,pM,lE]) ?_
 have s1:=Aw a (by omega)
 have s2:=Aw b (by omega)
 have fin:∀ {H:aA},fz depth H (.eQ [bN (a / b),bN (a % b)])=some (.eQ [bN (a / b),bN (a % b)]):=Vv (bU _) (bU _)
 by_cases Ya:(aC 1000000000 a).length≤2∧(aC 1000000000 b).length≤2
 ·rw[if_pos Ya.1] at s1
  rw[if_pos Ya.2] at s2
  have la:=acE Ya.1
  have q1:=HE a b (by omega) (by omega)
  have q2:=Jp a b (by omega)
  have hdl:a / b≤a:=Nat.div_le_self _ _
  have hml:a % b≤a:=Nat.mod_le _ _
  have n1:TC 161 [VI ((a / b:Nat):Int)] (bN (a / b)):=oA ((a / b:Nat):Int) (Int.ofNat_le.2 (show a / b≤9223372036854775807 from Nat.le_trans hdl (by omega)))
  have n2:TC 161 [VI ((a % b:Nat):Int)] (bN (a % b)):=oA ((a % b:Nat):Int) (Int.ofNat_le.2 (show a % b≤9223372036854775807 from Nat.le_trans hml (by omega)))
  simp only[dZ,cU,s1,s2,q1,q2,n1,n2,VX,Nat.reduceEqDiff,Nat.reduceAdd]
  exact fin
 have c1:=sB a b (by omega) (by omega)
 obtain⟨x1,t1,J9⟩:∃(x:Int) (t:Bool),(if (aC 1000000000 a).length≤2 then VV.eQ [VI a,VB true] else .eQ [VI 0,VB false]) = .eQ [VI x,VB t]:=by split<;>exact⟨_,_,rfl⟩
 have hs2:∃(x:Int) (t:Bool),(if (aC 1000000000 b).length≤2 then VV.eQ [VI b,VB true] else .eQ [VI 0,VB false]) = .eQ [VI x,VB t]∧(t1=true→t=false):=by
  by_cases h:(aC 1000000000 b).length≤2
  ·rw[if_pos h]
   refine⟨_,_,rfl,fun ht => ?_⟩
   rw[if_neg (fun h'=>Ya ⟨h',h⟩)] at J9
   injection J9 with J9
   injection J9 with _ J9
   injection J9 with J9 _
   injection J9 with J9
   injection J9 with J9
   subst ht
   cases J9
  ·rw[if_neg h]
   exact⟨_,_,rfl,fun _=>rfl⟩
 obtain⟨x2,t2,hs2,ht⟩:=hs2
 rw[J9] at s1
 rw[hs2] at s2
 by_cases DN:dY a b<0
 ·have aX:a<b:=tO.1 DN
  have e0:∀lr,rN lr [.int .i64 0] 0 [] []=some (.ref 0 0 0 0 0,[.row 0 [] 1 true]):=fun lr=>oC (H:=[]) rfl
  have e1:∀lr,rN lr [.int .i64 0] 0 [] [.row 0 [] 1 true]=some (.ref 1 0 0 0 0,[.row 0 [] 1 true,.row 0 [] 1 true]):=fun lr=>oC (H:=[.row 0 [] 1 true]) rfl
  rw[Nat.div_eq_of_lt aX,Nat.mod_eq_of_lt aX]
  have hz:fz (6+1) [.row 0 [] 1 true,.row 0 [] 1 true] (.ref 0 0 0 0 0)=some (bN 0):=by rw[FD];rfl
  by_cases Va:a=0
  ·subst Va
   have ap:gH 0 1 8 (.ref 1 0 0 0 0) ((aC 1000000000 0).map tV) [.row 0 [] 1 true,.row 0 [] 1 true]=some (.ref 1 0 0 0 0,[.row 0 [] 1 true,.row 0 [] 1 true]):=by
    rw[bQ];rfl
   have Fg:fz (6+1) [.row 0 [] 1 true,.row 0 [] 1 true] (.ref 1 0 0 0 0)=some (bN 0):=by rw[FD];rfl
   cases t1 with
   |
    false =>
    simp only[dZ,cU,s1,s2,c1,DN,e0,e1,ap,Co,VX,Nat.reduceEqDiff,Nat.reduceAdd]
    exact bG (d:=6) hz Fg
   |
    true =>
    rw[ht rfl] at s2
    simp only[dZ,cU,s1,s2,c1,DN,e0,e1,ap,Co,VX,Nat.reduceEqDiff,Nat.reduceAdd]
    exact bG (d:=6) hz Fg
  ·have hln:(aC 1000000000 a).length≠0:=fun h=>Va ((jV (b:=1000000000) (by decide)).1 (List.length_eq_zero_iff.1 h))
   have ap:gH 0 1 8 (.ref 1 0 0 0 0) ((aC 1000000000 a).map tV) [.row 0 [] 1 true,.row 0 [] 1 true]=some (.ref 1 1 0 (aC 1000000000 a).length (aC 1000000000 a).length,[.row 0 [] 1 true,.row 1 ((aC 1000000000 a).map tV) 1 true]):=by
    have hr:aQ [.row 0 [] 1 true,.row 0 [] 1 true] 1 0=some ([],1,true):=rfl
    simp only[gH,hr,List.length_map,Nat.zero_add,List.length_nil,Nat.add_zero]
    rw[if_pos ⟨by decide,by decide⟩,if_pos ⟨trivial,Nat.zero_le _,Nat.le_refl _⟩,if_neg (by omega),if_pos (by omega)]
    simp
   have CD:fz (6+1) [.row 0 [] 1 true,.row 1 ((aC 1000000000 a).map tV) 1 true] (.ref 0 0 0 0 0)=some (bN 0):=by rw[FD];rfl
   have Fg:fz (6+1) [.row 0 [] 1 true,.row 1 ((aC 1000000000 a).map tV) 1 true] (.ref 1 1 0 (aC 1000000000 a).length (aC 1000000000 a).length)=some (bN a):=by
    have:aR (.ref 1 1 0 (aC 1000000000 a).length (aC 1000000000 a).length)=false:=rfl
    have hr:aQ [.row 0 [] 1 true,.row 1 ((aC 1000000000 a).map tV) 1 true] 1 1=some ((aC 1000000000 a).map tV,1,true):=rfl
    unfold fz
    simp only[this,hr,Bool.false_eq_true,if_false]
    rw[if_pos ⟨by simp,Nat.le_refl _⟩,List.drop_zero,List.take_of_length_le (by simp),mapM_pure (n:=5) (dQ fun _=>rfl)]
    rfl
   cases t1 with
   |
    false =>
    simp only[dZ,cU,s1,s2,c1,DN,e0,e1,ap,Co,VX,Nat.reduceEqDiff,Nat.reduceAdd]
    exact bG (d:=6) CD Fg
   |
    true =>
    rw[ht rfl] at s2
    simp only[dZ,cU,s1,s2,c1,DN,e0,e1,ap,Co,VX,Nat.reduceEqDiff,Nat.reduceAdd]
    exact bG (d:=6) CD Fg
 have Cv:b≤a:=by have := @tO a b;omega
 have hbn:(aC 1000000000 b).length≠0:=fun h=>hb ((jV (b:=1000000000) (by decide)).1 (List.length_eq_zero_iff.1 h))
 by_cases h1:(((aC 1000000000 b).length:Nat):Int)=1
 ·obtain⟨d,hd⟩:∃d,aC 1000000000 b=[d]:=List.length_eq_one_iff.1 (by omega)
  obtain⟨X8,BD,hdT⟩:=Tn hd
  have e1:bE 1 (bN b) (VI 0) []=some (.cO (tV d) 0):=by
   rw[bN,hd]
   exact aM (f:=tV) (t := .op) (H:=[]) (size:=1) (k := .i64) (xs:=[d]) (i:=0) rfl rfl
  have c2:=wI a d BD hdT (by omega)
  rw[←X8] at c2
  have P3:a % b≤b:=Nat.le_of_lt (Nat.mod_lt _ (by omega))
  have n2:TC 161 [VI ((a % b:Nat):Int)] (bN (a % b)):=oA ((a % b:Nat):Int) (Int.ofNat_le.2 (show a % b≤9223372036854775807 from Nat.le_trans P3 (by omega)))
  have e2:tV d=tV b:=by rw[X8]
  rw[e2] at e1
  cases t1 with
  |
   false =>
   simp only[dZ,cU,s1,s2,c1,DN,cK,h1,e1,c2,n2,VX,Nat.reduceEqDiff,Nat.reduceAdd]
   exact fin
  |
   true =>
   rw[ht rfl] at s2
   simp only[dZ,cU,s1,s2,c1,DN,cK,h1,e1,c2,n2,VX,Nat.reduceEqDiff,Nat.reduceAdd]
   exact fin
 obtain⟨n,hn⟩:∃n,(aC 1000000000 b).length=n+2:=⟨(aC 1000000000 b).length-2,by omega⟩
 obtain⟨t,htd,ht0,htT⟩:=FO (a:=b) (n:=n+1) hn
 obtain⟨s,hs⟩:∃s,s=1000000000 / (t+1):=⟨_,rfl⟩
 have N8:1≤s:=by rw[hs];exact(Nat.le_div_iff_mul_le (by omega)).2 (by omega)
 have hsT:s<1000000000:=by rw[hs];exact Nat.div_lt_self (by decide) (by omega)
 have FM:(t+1)*s≤1000000000:=by rw[hs];exact Nat.mul_div_le _ _
 have hla:=dG (b:=1000000000) (by decide) Cv
 have w0:IntKind.i64.wrap (((n+2:Nat):Int)-1)=((n+1:Nat):Int):=wrapN _ (by omega) (by omega)
 have w1:IntKind.i64.wrap ((t:Int)+1)=((t+1:Nat):Int):=wrapN _ (by omega) (by omega)
 have q0:cX .quo (.int .i64 1000000000) (.int .i64 ((t+1:Nat):Int))=some (.int .i64 (s:Int)):=by rw[hs];exact HE 1000000000 (t+1) (by decide) (by omega)
 have et:∀H,bE 1 (bN b) (VI ((n+1:Nat):Int)) H=some (.cO (tV t) 0):=fun H=>aM (f:=tV) (t := .op) (size:=1) (k := .i64) htd rfl
 have UK:¬(((n+2:Nat):Int)=1):=by omega
 obtain⟨N,hN⟩:∃N,N=(aC 1000000000 a).length+1:=⟨_,rfl⟩
 have wN:IntKind.i64.wrap (((aC 1000000000 a).length:Int)+1)=(N:Int):=wrapN _ (by omega) (by omega)
 have mkN:=MJ N (by omega)
 have c3:=vF a s N8 hsT ha
 have c4:=vF b s N8 hsT sW
 have acW:b*s<1000000000^(n+2):=by
  have h2:=(wS (n:=n+1) (eE (b:=1000000000) (by decide) b) hn htd).2
  rw[bW (by decide)] at h2
  have h3:b*s<(t+1)*1000000000^(n+1)*s:=Nat.mul_lt_mul_of_pos_right h2 N8
  have h4:(t+1)*1000000000^(n+1)*s=(t+1)*s*1000000000^(n+1):=by grind
  have h9:(t+1)*s*1000000000^(n+1)≤1000000000*1000000000^(n+1):=Nat.mul_le_mul_right _ FM
  have h10:1000000000*1000000000^(n+1)=1000000000^(n+2):=by rw[Nat.pow_succ 1000000000 (n+1)];exact Nat.mul_comm _ _
  rw[h4] at h3
  rw[h10] at h9
  exact Nat.lt_of_lt_of_le h3 h9
 have ZU:(aC 1000000000 (b*s)).length=n+2:=by
  have h2:=kH (b:=1000000000) (by decide) acW
  have h3:b≤b*s:=Nat.le_mul_of_pos_right b N8
  have h4:=dG (b:=1000000000) (by decide) h3
  omega
 have hAl:(aC 1000000000 (a*s)).length≤N:=by
  have h2:=LU (b:=1000000000) (by decide) a s
  have h3:(aC 1000000000 s).length≤1:=kH (by decide) (by rw[Nat.pow_one];exact hsT)
  omega
 have cp:=agI hAl
 obtain⟨m,hm⟩:∃m,m+(n+2)=N:=⟨N-(n+2),by omega⟩
 have wm:IntKind.i64.wrap ((N:Int)-((n+2:Nat):Int))=(m:Int):=wrapN _ (by omega) (by omega)
 have wm1:IntKind.i64.wrap ((m:Int)-1)=(m:Int)-1:=wrap64 (by omega) (by omega)
 obtain⟨CE,Zt⟩:∃CE,CE=aC 1000000000 (a*s)++List.replicate (N-(aC 1000000000 (a*s)).length) 0:=⟨_,rfl⟩
 rw[←Zt] at cp
 have mkm:yK [.int .i64 0] 8 (VI (m:Int)) (VI (m:Int)) [.row 0 (CE.map tV) 1 true]=some (.ref 1 0 0 m m,[.row 0 (CE.map tV) 1 true]++[.row 0 ((List.replicate m 0).map tV) 1 true]):=uE (f:=tV) (x:=0) (H:=[.row 0 (CE.map tV) 1 true]) rfl (by omega) (by omega)
 have lN:∀K,aQ K 0 0=some (CE.map tV,1,true)→oG (.ref 0 0 0 N N) K=some (VI (N:Int)):=fun K h=>gK h
 have l1:=lN [.row 0 (CE.map tV) 1 true] rfl
 have l2:=lN (H2 CE (List.replicate m 0)) rfl
 have abU:CE.length=N:=by rw[Zt,List.length_append,List.length_replicate];omega
 have ahC:∀d∈CE,d<1000000000:=fun d hd=>by
  rw[Zt] at hd
  rcases List.mem_append.1 hd with h | h
  ·exact eE (by decide) _ d h
  ·rw[List.eq_of_mem_replicate h];decide
 have abR:val 1000000000 CE=a*s:=by rw[Zt,wC,oY,Nat.mul_zero,Nat.add_zero,bW (by decide)]
 generalize Nc:aC 1000000000 (b*s)=vs at *
 have D9:∀d∈vs,d<1000000000:=by rw[←Nc];exact eE (by decide) _
 have Ka:val 1000000000 vs=b*s:=by rw[←Nc];exact bW (by decide) _
 have lV:∀H,oG (bN (b*s)) H=some (VI ((n+2:Nat):Int)):=fun H=>by rw[cK,Nc,ZU]
 obtain⟨v1,f1⟩:∃v1,vs[n+1]? = some v1:=⟨_,List.getElem?_eq_getElem (by omega)⟩
 obtain⟨v0,f0⟩:∃v0,vs[n]? = some v0:=⟨_,List.getElem?_eq_getElem (by omega)⟩
 have Z7:1≤v1:=by
  obtain⟨d,hd,BD,_⟩:=FO (a:=b*s) (n:=n+1) (by rw[Nc];exact ZU)
  rw[Nc,f1] at hd
  cases hd
  omega
 have Au:val 1000000000 (CE.drop m)<val 1000000000 vs:=by
  have h2:=nI (b:=1000000000) CE m
  rw[List.length_take,abU,Nat.min_eq_left (by omega),abR] at h2
  have h3:a<b*1000000000^m:=by
   have y1:=fP (b:=1000000000) (by decide) a
   have y2:=HO (b:=1000000000) (by decide) hb
   rw[hn] at y2
   have y3:1000000000^(n+2-1)*1000000000^m≤b*1000000000^m:=Nat.mul_le_mul_right _ y2
   rw[←Nat.pow_add,show n+2-1+m=(aC 1000000000 a).length by omega] at y3
   exact Nat.lt_of_lt_of_le y1 y3
  have h4:a*s<b*1000000000^m*s:=Nat.mul_lt_mul_of_pos_right h3 N8
  have h5:b*1000000000^m*s=1000000000^m*(b*s):=by grind
  rw[Ka]
  have h6:1000000000^m*val 1000000000 (CE.drop m)<1000000000^m*(b*s):=by
   rw[←h5]
   exact Nat.lt_of_le_of_lt (by rw[h2];exact Nat.le_add_left _ _) h4
  exact Nat.lt_of_mul_lt_mul_left h6
 have body:VW ⟨true,false⟩ 0 (.loop gP)=VW ⟨true,false⟩ 0 (.loop gP):=rfl
 have tail:∀(us os:List Nat),us.length=N→(∀d∈us,d<1000000000)→os.length=m→(∀d∈os,d<1000000000)→val 1000000000 us+val 1000000000 vs*val 1000000000 os=a*s→val 1000000000 us<val 1000000000 vs →
   (∀lo K,dD 211 [.ref 0 0 0 N N] lo (H2 us os) K=K (bN (a % b*s)) (cJ (H2 us os) [0])) ∧
   (∀lo K,dD 211 [.ref 1 0 0 m m] lo (cJ (H2 us os) [0]) K=K (bN (a / b)) (cJ (cJ (H2 us os) [0]) [1]))∧TC 237 [bN (a % b*s),VI (s:Int)] (.eQ [bN (a % b),VI ((a % b*s % s:Nat):Int)]):=by
  intro us os M5 G6 iF jQ hv aX
  rw[Ka] at hv aX
  have hq:val 1000000000 os=a / b:=by
   rw[←Nat.mul_div_mul_right a b N8,←hv,Nat.add_mul_div_left _ _ (Nat.lt_of_le_of_lt (Nat.zero_le _) aX),Nat.div_eq_of_lt aX,Nat.zero_add]
  have hr:val 1000000000 us=a % b*s:=by
   rw[←Nat.mul_mod_mul_right,←hv,Nat.add_mul_mod_self_left,Nat.mod_eq_of_lt aX]
  refine⟨fun lo K => ?_,fun lo K => ?_,?_⟩
  ·have h:=qH us G6 (by omega)
   rw[hr] at h
   exact TC.Y9 (f:=tV) h PW M5.symm (Nat.le_refl _) Dr (fun _=>rfl) rfl rfl lo K
  ·have h:=qH os jQ (by omega)
   rw[hq] at h
   have Fi:aQ (cJ (H2 us os) [0]) 1 0=some (os.map tV,1,true):=rfl
   exact TC.Y9 (f:=tV) h Fi iF.symm (Nat.le_refl _) Dr (fun _=>rfl) rfl rfl lo K
  ·have h:=wI (a % b*s) s N8 hsT (by
    have h2:=dG (b:=1000000000) (by decide) (Nat.le_trans (Nat.le_of_lt aX) (show b*s≤b*s from Nat.le_refl _))
    rw[hr,Nc] at h2
    omega)
   rwa [Nat.mul_div_cancel _ N8] at h
 clear body
 have nV:bN (b*s)=gB vs:=by rw[bN,Nc]
 cases t1 with
 |
  false =>
  simp only[dZ,cU,s1,s2,c1,DN,cK,hn,UK,w0,w1,q0,et,wN,mkN,c3,c4,cp,lV,l1,l2,wm,wm1,mkm,List.cons_append,List.nil_append,VX,Nat.reduceEqDiff,Nat.reduceAdd]
  refine K9 (CE:=CE) (US:=List.replicate m 0) (vs:=vs) (N:=N) (m:=m) (n:=n) (A:=a*s) (s:=s) abU hm (by omega) ahC ZU D9 f1 f0 Z7 abR Au (by simp) (xP (by decide) _) (by rfl) (by rfl) (by simp only[VX,Nat.reduceEqDiff,Nat.reduceAdd];exact nV) (by rfl) (by rfl) (by rfl) ?_
  intro uG us os ZP Ys r16 M5 G6 iF jQ hv aX
  obtain⟨x1,x2,x3⟩:=tail us os M5 G6 iF jQ hv aX
  simp only[ZP,Ys,r16,x1,x2,x3,VX,Nat.reduceEqDiff,Nat.reduceAdd]
  exact fin
 |
  true =>
  rw[ht rfl] at s2
  simp only[dZ,cU,s1,s2,c1,DN,cK,hn,UK,w0,w1,q0,et,wN,mkN,c3,c4,cp,lV,l1,l2,wm,wm1,mkm,List.cons_append,List.nil_append,VX,Nat.reduceEqDiff,Nat.reduceAdd]
  refine K9 (CE:=CE) (US:=List.replicate m 0) (vs:=vs) (N:=N) (m:=m) (n:=n) (A:=a*s) (s:=s) abU hm (by omega) ahC ZU D9 f1 f0 Z7 abR Au (by simp) (xP (by decide) _) (by rfl) (by rfl) (by simp only[VX,Nat.reduceEqDiff,Nat.reduceAdd];exact nV) (by rfl) (by rfl) (by rfl) ?_
  intro uG us os ZP Ys r16 M5 G6 iF jQ hv aX
  obtain⟨x1,x2,x3⟩:=tail us os M5 G6 iF jQ hv aX
  simp only[ZP,Ys,r16,x1,x2,x3,VX,Nat.reduceEqDiff,Nat.reduceAdd]
  exact fin
end Go.PM
namespace Go.PM
theorem wH {n:Nat}:(0:Int)<((aC 1000000000 n).length:Int)↔n≠0:=by
 constructor
 ·intro h h0
  subst h0
  rw[bQ] at h
  simp at h
 ·intro h
  have:=(jV (b:=1000000000) (by decide) (n:=n))
  have h2:aC 1000000000 n≠[]:=fun hx=>h (this.1 hx)
  have:=List.length_pos_iff.2 h2
  omega
theorem mY {n:Nat} (h:bl n≤4398046511104):(aC 1000000000 n).length<17592186044416:=by
 have:=ZQ n
 omega
theorem Da (a b:Nat) (ha:(aC 1000000000 a).length<17592186044416) (hb:(aC 1000000000 b).length<17592186044416):TC 213 [bN a,bN b] (bN (Nat.gcd a b)):=by
 refine TC.walk ⟨true,false⟩ Kb rfl (Nat.le_of_ble_eq_true rfl) (by simp[aJ,bU]) (lE _) ?_
 simp only[GO,CR,VX,Nat.reduceEqDiff,Nat.reduceAdd]
 refine aY (fun(t:Nat×Nat) ρ H=>H=[]∧Nat.gcd t.1 t.2=Nat.gcd a b∧(aC 1000000000 t.1).length<17592186044416∧(aC 1000000000 t.2).length<17592186044416∧ρ 0=bN t.1∧ρ 1=bN t.2) (fun t=>t.2) (a,b) ⟨rfl,rfl,ha,hb,rfl,rfl⟩ ?_
 rintro⟨x,y⟩ ρ H ⟨rfl,hg,hx,hy,g0,g1⟩
 simp only at hg hx hy g0 g1
 by_cases Yp:y=0
 ·subst Yp
  have hl:¬(0:Int)<((aC 1000000000 0).length:Int):=by rw[wH];omega
  rw[Nat.gcd_zero_right] at hg
  simp only[uM,g0,g1,cK,hl,VX,Nat.reduceEqDiff,Nat.reduceAdd]
  rw[hg]
  exact aG (bU _)
 ·have hl:(0:Int)<((aC 1000000000 y).length:Int):=wH.2 Yp
  have c3:=rP x y Yp hx hy
  have hm:=Nat.mod_lt x (show 0<y by omega)
  simp only[uM,g0,g1,cK,hl,c3,VX,Nat.reduceEqDiff,Nat.reduceAdd]
  refine⟨(y,x % y),hm,?_,hy,?_,rfl,rfl⟩
  ·simp only
   rw[←hg,Nat.gcd_comm x y,Nat.gcd_rec y x,Nat.gcd_comm]
  ·simp only
   have:=dG (b:=1000000000) (by decide) (Nat.le_of_lt hm)
   omega
def cG (q:Rat):VV := .agg [VB (decide (q.num<0)),bN q.num.natAbs,bN q.den]
theorem uI (q:Rat):aR (cG q)=true:=by simp[cG,aR,aJ,bU,lS]
theorem zD (q:Rat):gO (cG q)=true:=by simp[cG,gO,pM,lE,lS]
theorem MN {q:Rat} {neg:Bool} {t b:Nat} (h0:q.num<0↔neg=true) (h1:q.num.natAbs=t) (h2:q.den=b):cG q = .agg [VB neg,bN t,bN b]:=by
 subst h1 h2
 unfold cG
 congr 4
 cases neg<;>simp_all
theorem aK (n:Nat):cH (bN n)=true:=rfl
theorem aT (n:Nat):isAny (bN n)=false:=rfl
theorem aP (n:Nat):aB (bN n)=[bN n]:=rfl
theorem dE (q:Rat):isAny (cG q)=false:=rfl
theorem bP (q:Rat):aB (cG q)=[VB (decide (q.num<0)),bN q.num.natAbs,bN q.den]:=rfl
theorem gW (q:Rat):dW true 3 (cG q) 0=some (cG q):=rfl
theorem kB (q:Rat):dW false 1 (cG q) 0=some (VB (decide (q.num<0))):=rfl
theorem mW (q:Rat):dW false 1 (cG q) 1=some (bN q.num.natAbs):=rfl
theorem mJ (q:Rat):dW false 1 (cG q) 2=some (bN q.den):=rfl
theorem uF {H:aA} {neg:Bool} {t b:Nat}:fz depth H (.agg [VB neg,bN t,bN b])=some (.agg [VB neg,bN t,bN b]):=aG (by simp[aR,aJ,bU,lS])
theorem Ch {H:aA} (q:Rat):fz depth H (cG q)=some (cG q):=aG (uI q)
theorem W8 (n:Int):cG (n:Rat) = .agg [VB (decide (n<0)),bN n.natAbs,bN 1]:=MN (by simp) (by simp) (by simp)
theorem HN {n lo:Nat} {H:aA} {K:VV→aA→Prop} (h:(aC 1000000000 n).length≤17592186044416):dD 178 [bN n,.tree [VI 1] (.cl 1)] lo H K=K (VI (dY n 1)) H:=by
 have c:=sB n 1 h (by rw[BL (by decide) (by decide) (by decide)];simp)
 have e:bN 1 = .tree [VI 1] .op:=by rw[bN,BL (by decide) (by decide) (by decide)];rfl
 rw[e] at c
 exact TC.args c rfl (by simp only[aJ,bU];rfl) (Yq (aG (bU n)) (ZW rfl)) (by simp only[List.flatMap_cons,List.flatMap_nil,Df (bU n),VD (es:=[VI 1]) rfl,List.append_nil]) lo K
theorem dC {d:Int} {H:aA}:rN false [.int .i64 0] 1 [(0,VI d)] H=some (.tree [VI d] (.cl 1),H):=qE
theorem eV {e:Nat} {es:List VV}:cH (.tree es (.cl e))=true:=rfl
theorem dB {k:TK} {es:List VV}:aB (.tree es k)=[.tree es k]:=rfl
theorem eO {k:TK} {es:List VV}:isAny (.tree es k)=false:=rfl
theorem MX {d:Nat} {H:aA}:fz (d+2) H (.tree [VI 1] (.cl 1))=some (bN 1):=by
 rw[Vo]
 unfold fz
 have:aR (.tree [VI 1] (.cl 1))=false:=by simp[aR]
 simp only[this,Bool.false_eq_true,if_false]
 rfl
theorem qF (neg:Bool) (t b:Nat) (hb:b≠0) (ht:bl t≤4398046511104) (sW:bl b≤4398046511104):TC 164 [VB neg,bN t,bN b] (cG (mkRat (jB neg t) b)):=by
 refine TC.walk ⟨true,false⟩ Jq rfl (Nat.le_of_ble_eq_true rfl) (by simp[aJ,bU,aR,lS]) (zD _) ?_
 have hg0:Nat.gcd t b≠0:=Nat.gcd_ne_zero_right hb
 have X1:bl (Nat.gcd t b)≤4398046511104:=Nat.le_trans (jI (Nat.gcd_le_right t (by omega))) sW
 have c1:=Da t b (mY ht) (mY sW)
 have c2:=rP t _ hg0 (mY ht) (mY X1)
 have c3:=rP b _ hg0 (mY sW) (mY X1)
 have c4:∀lo H K,_:=fun lo H K=>HN (n:=Nat.gcd t b) (lo:=lo) (H:=H) (K:=K) (Nat.le_of_lt (mY X1))
 have Rg:cG (mkRat (jB neg t) b) = .agg [VB (neg&&decide (t / Nat.gcd t b≠0)),bN (t / Nat.gcd t b),bN (b / Nat.gcd t b)]:=by
  refine MN ?_ (by rw[Dj hb,mG]) (Mc hb)
  rw[Dj hb,Ml,Bool.and_eq_true,decide_eq_true_eq]
 rw[Rg]
 by_cases h1:dY (Nat.gcd t b) 1=0
 ·have ZH:=uA.1 h1
  have e1:t / Nat.gcd t b=t:=by rw[ZH,Nat.div_one]
  have e2:b / Nat.gcd t b=b:=by rw[ZH,Nat.div_one]
  rw[e1,e2]
  cases neg with
  |
   false =>
   simp only[kV,iO,c1,c4,h1,dC,aK,aT,aP,iA,Nat.reduceLeDiff,Nat.reduceLT,Nat.reduceSub,VX,Nat.reduceEqDiff,Nat.reduceAdd]
   exact uF
  |
   true =>
   by_cases h0:t=0
   ·have hl:¬(0:Int)<((aC 1000000000 t).length:Int):=by rw[wH];omega
    simp only[kV,iO,c1,c4,h1,hl,cK,dC,aK,aT,aP,iA,Nat.reduceLeDiff,Nat.reduceLT,Nat.reduceSub,VX,Nat.reduceEqDiff,Nat.reduceAdd]
    rw[h0]
    exact uF
   ·have hl:(0:Int)<((aC 1000000000 t).length:Int):=wH.2 h0
    simp only[kV,iO,c1,c4,h1,hl,cK,dC,aK,aT,aP,iA,Nat.reduceLeDiff,Nat.reduceLT,Nat.reduceSub,VX,Nat.reduceEqDiff,Nat.reduceAdd]
    rw[decide_eq_true h0]
    exact uF
 ·cases neg with
  |
   false =>
   simp only[kV,iO,c1,c2,c3,c4,h1,dC,aK,aT,aP,iA,Nat.reduceLeDiff,Nat.reduceLT,Nat.reduceSub,VX,Nat.reduceEqDiff,Nat.reduceAdd]
   exact uF
  |
   true =>
   generalize t / Nat.gcd t b=t' at *
   by_cases h0:t'=0
   ·have hl:¬(0:Int)<((aC 1000000000 t').length:Int):=by rw[wH];omega
    simp only[kV,iO,c1,c2,c3,c4,h1,hl,cK,dC,aK,aT,aP,iA,Nat.reduceLeDiff,Nat.reduceLT,Nat.reduceSub,VX,Nat.reduceEqDiff,Nat.reduceAdd]
    rw[h0]
    exact uF
   ·have hl:(0:Int)<((aC 1000000000 t').length:Int):=wH.2 h0
    simp only[kV,iO,c1,c2,c3,c4,h1,hl,cK,dC,aK,aT,aP,iA,Nat.reduceLeDiff,Nat.reduceLT,Nat.reduceSub,VX,Nat.reduceEqDiff,Nat.reduceAdd]
    rw[decide_eq_true h0]
    exact uF
theorem xO (n:Int) (h0 : -9223372036854775808<n) (h1:n≤9223372036854775807):TC 166 [VI n] (cG (n:Rat)):=by
 refine TC.walk ⟨true,false⟩ Ke rfl (Nat.le_of_ble_eq_true rfl) rfl (zD _) ?_
 rw[W8]
 by_cases h:n<0
 ·have w:IntKind.i64.wrap (0-n)=(n.natAbs:Int):=wrapN _ (by omega) (by omega)
  have c1:TC 161 [VI (n.natAbs:Int)] (bN n.natAbs):=oA (n.natAbs:Int) (by omega)
  rw[decide_eq_true h]
  simp only[Be,xV,h,w,c1,dC,aK,aT,aP,eV,dB,eO,iA,Nat.reduceLeDiff,Nat.reduceLT,Nat.reduceSub,VX,Nat.reduceEqDiff,Nat.reduceAdd]
  exact oK (d:=6) (Xa rfl) (aH (bU _)) (MX (d:=5))
 ·have c1:TC 161 [VI n] (bN n.natAbs):=by
   have:=oA n h1
   rwa [show n.toNat=n.natAbs by omega] at this
  rw[decide_eq_false h]
  simp only[Be,xV,h,c1,dC,aK,aT,aP,eV,dB,eO,iA,Nat.reduceLeDiff,Nat.reduceLT,Nat.reduceSub,VX,Nat.reduceEqDiff,Nat.reduceAdd]
  exact oK (d:=6) (Xa rfl) (aH (bU _)) (MX (d:=5))
theorem CO:TC 124 [] (cG 1):=by
 refine TC.walk ⟨true,false⟩ J2 rfl (Nat.le_of_ble_eq_true rfl) rfl (zD _) ?_
 have c1:TC 166 [VI 1] (cG 1):=xO 1 (by decide) (by decide)
 simp only[GK,CL,c1,bP,gW,dE,aK,iA,Nat.reduceLeDiff,Nat.reduceLT,Nat.reduceSub,VX,Nat.reduceEqDiff,Nat.reduceAdd]
 exact Ch _
theorem BV:TC 136 [] (cG 0):=by
 refine TC.walk ⟨true,false⟩ Ii rfl (Nat.le_of_ble_eq_true rfl) rfl (zD _) ?_
 have c1:TC 166 [VI 0] (cG 0):=xO 0 (by decide) (by decide)
 simp only[EG,Bh,c1,bP,gW,dE,aK,iA,Nat.reduceLeDiff,Nat.reduceLT,Nat.reduceSub,VX,Nat.reduceEqDiff,Nat.reduceAdd]
 exact Ch _
theorem C5 (a b:Rat) (NM:cE a≤1099511627776) (JY:cE b≤1099511627776):TC 94 [cG a,cG b] (cG (a+b)):=by
 refine TC.walk ⟨true,false⟩ J0 rfl (Nat.le_of_ble_eq_true rfl) (by simp[aJ,uI]) (zD _) ?_
 have la:=rC NM
 have lb:=rC JY
 have lda:=rE NM
 have ldb:=rE JY
 have X5:=Nat.mul_ne_zero a.den_nz b.den_nz
 have m1:=fW a.num.natAbs b.den (Nat.le_of_lt (mY (by omega))) (Nat.le_of_lt (mY (by omega)))
 have m2:=fW b.num.natAbs a.den (Nat.le_of_lt (mY (by omega))) (Nat.le_of_lt (mY (by omega)))
 have m3:=fW a.den b.den (Nat.le_of_lt (mY (by omega))) (Nat.le_of_lt (mY (by omega)))
 have ea:mkRat (jB (decide (a.num<0)) (a.num.natAbs*b.den)) (a.den*b.den)=a:=B4 a b.den_nz
 have eb:mkRat (jB (decide (b.num<0)) (b.num.natAbs*a.den)) (a.den*b.den)=b:=by rw[Nat.mul_comm a.den];exact B4 b a.den_nz
 have k1:=lQ a.num.natAbs b.den
 have k2:=lQ b.num.natAbs a.den
 have k3:=lQ a.den b.den
 obtain⟨p1,p2,p3⟩:=Fw X5 ea eb
 have hX:bl (a.num.natAbs*b.den)≤2199023255552:=by omega
 have hY:bl (b.num.natAbs*a.den)≤2199023255552:=by omega
 have hB:bl (a.den*b.den)≤4398046511104:=by omega
 generalize a.num.natAbs*b.den=X at *
 generalize b.num.natAbs*a.den=Y at *
 generalize a.den*b.den=B at *
 have f1:=Fj X Y (mY (by omega)) (mY (by omega))
 have f2:=sB X Y (Nat.le_of_lt (mY (by omega))) (Nat.le_of_lt (mY (by omega)))
 have hS:bl (X+Y)≤4398046511104:=Nat.le_trans (P6 hX hY) (by decide)
 have hD1:bl (X-Y)≤4398046511104:=Nat.le_trans (jI (Nat.sub_le _ _)) (by omega)
 have hD2:bl (Y-X)≤4398046511104:=Nat.le_trans (jI (Nat.sub_le _ _)) (by omega)
 have f5:=fun neg=>qF neg (X+Y) B X5 hS hB
 have f6:=fun neg=>qF neg (X-Y) B X5 hD1 hB
 have f7:=fun neg=>qF neg (Y-X) B X5 hD2 hB
 by_cases hn:decide (a.num<0)=decide (b.num<0)
 ·have PT:(decide (a.num<0) == decide (b.num<0))=true:=by simpa using hn
  rw[←p1 hn]
  simp only[wX,sD,m1,m2,m3,f1,f5,rB,wB,PT,bP,gW,kB,mW,mJ,dE,aK,aT,aP,iA,Nat.reduceLeDiff,Nat.reduceLT,Nat.reduceSub,VX,Nat.reduceEqDiff,Nat.reduceAdd]
  exact Ch _
 ·have PT:(decide (a.num<0) == decide (b.num<0))=false:=by simpa using hn
  by_cases hx:(0:Int)≤dY X Y
  ·have hle:Y≤X:=by have := @tO X Y;omega
   have c3:=xD X Y hle (Nat.le_of_lt (mY (by omega)))
   rw[←p2 hn hle]
   simp only[wX,sD,m1,m2,m3,f2,c3,f6,hx,rB,wB,PT,bP,gW,kB,mW,mJ,dE,aK,aT,aP,iA,Nat.reduceLeDiff,Nat.reduceLT,Nat.reduceSub,VX,Nat.reduceEqDiff,Nat.reduceAdd]
   exact Ch _
  ·have hle:X≤Y:=by have := @tO X Y;omega
   have c3:=xD Y X hle (Nat.le_of_lt (mY (by omega)))
   rw[←p3 hn hle]
   simp only[wX,sD,m1,m2,m3,f2,c3,f7,hx,rB,wB,PT,bP,gW,kB,mW,mJ,dE,aK,aT,aP,iA,Nat.reduceLeDiff,Nat.reduceLT,Nat.reduceSub,VX,Nat.reduceEqDiff,Nat.reduceAdd]
   exact Ch _
theorem Za (a b:Int):jB (decide (a<0) != decide (b<0)) (a.natAbs*b.natAbs)=a*b:=by
 rcases Int.lt_trichotomy a 0 with h1 | h1 | h1<;>rcases Int.lt_trichotomy b 0 with h2 | h2 | h2
 ·rw[decide_eq_true h1,decide_eq_true h2]
  simp only[jB,bne_self_eq_false,Bool.false_eq_true,if_false,Int.natCast_mul]
  rw[show (a.natAbs:Int) = -a by omega,show (b.natAbs:Int) = -b by omega,Int.neg_mul_neg]
 ·subst h2;simp[vX]
 ·rw[decide_eq_true h1,decide_eq_false (show ¬b<0 by omega)]
  simp only[jB,Bool.true_bne,Bool.not_false,if_true,Int.natCast_mul]
  rw[show (a.natAbs:Int) = -a by omega,show (b.natAbs:Int)=b by omega,Int.neg_mul,Int.neg_neg]
 ·subst h1;simp[vX]
 ·subst h1;simp[vX]
 ·subst h1;simp[vX]
 ·rw[decide_eq_false (show ¬a<0 by omega),decide_eq_true h2]
  simp only[jB,Bool.false_bne,if_true,Int.natCast_mul]
  rw[show (a.natAbs:Int)=a by omega,show (b.natAbs:Int) = -b by omega,Int.mul_neg,Int.neg_neg]
 ·subst h2;simp[vX]
 ·rw[decide_eq_false (show ¬a<0 by omega),decide_eq_false (show ¬b<0 by omega)]
  simp only[jB,bne_self_eq_false,Bool.false_eq_true,if_false,Int.natCast_mul]
  rw[show (a.natAbs:Int)=a by omega,show (b.natAbs:Int)=b by omega]
theorem AJ (a b:Rat) (NM:cE a≤1099511627776) (JY:cE b≤1099511627776):TC 137 [cG a,cG b] (cG (a*b)):=by
 refine TC.walk ⟨true,false⟩ G9 rfl (Nat.le_of_ble_eq_true rfl) (by simp[aJ,uI]) (zD _) ?_
 have la:=rC NM
 have lb:=rC JY
 have lda:=rE NM
 have ldb:=rE JY
 have k1:=lQ a.num.natAbs b.num.natAbs
 have k3:=lQ a.den b.den
 have m1:=fW a.num.natAbs b.num.natAbs (Nat.le_of_lt (mY (by omega))) (Nat.le_of_lt (mY (by omega)))
 have m3:=fW a.den b.den (Nat.le_of_lt (mY (by omega))) (Nat.le_of_lt (mY (by omega)))
 have c1:=qF (decide (a.num<0) != decide (b.num<0)) (a.num.natAbs*b.num.natAbs) (a.den*b.den) (Nat.mul_ne_zero a.den_nz b.den_nz) (by omega) (by omega)
 rw[Za,←Rat.mul_def'] at c1
 simp only[CF,Ax,m1,m3,c1,wB,bP,gW,kB,mW,mJ,dE,aK,aT,aP,iA,Nat.reduceLeDiff,Nat.reduceLT,Nat.reduceSub,VX,Nat.reduceEqDiff,Nat.reduceAdd]
 exact Ch _
end Go.PM