/- Texts of a claim, in one: part 10. -/
import Derived.Test.YtodamlihdkalfaaGreatDoorKQi
set_option linter.unusedSimpArgs false
set_option linter.unusedVariables false
namespace Go.PM
theorem MS (n:Nat) (hn:n≤35184372088832):yW [.int .i64 0] 8 (VI (n:Int)) (VI (n:Int)) []=some (.ref 0 0 0 n n,[.row 0 ((List.replicate n 0).map tV) 1 true]):=uD (f:=tV) (x:=0) rfl (by omega) (by omega)
theorem MW {outs:List Nat} {i d:Nat} (hi:i<outs.length):cQ 0 1 (.ptr 0 0 i 0) (VI (d:Int)) [.row 0 (outs.map tV) 1 true]=some [.row 0 ((outs.set i d).map tV) 1 true]:=by
 rw[show VI (d:Int)=tV d from rfl,fD (f:=tV) (e:=1) HJ hi (Nat.le_refl _) rfl rfl]
 rfl
theorem Iw {b g:Nat} {rows:List Nat} {w:Bool} {H:aA} {j d:Nat} (hr:aQ H b g=some (rows.map tV,1,w)) (hj:rows[j]? = some d):dV false 1 (.ptr b g j 0) H=some (VI (d:Int)):=qZ hr hj
theorem adT {n i:Nat} {outs:List Nat} (h:i<n):bE 1 (.ref 0 0 0 n n) (VI (i:Int)) [.row 0 (outs.map tV) 1 true]=some (.ptr 0 0 i 0):=by rw[bB HJ h,Nat.zero_add]
theorem wr {x:Int} (n:Nat) (h:x=n) (hn:n≤9223372036854775807):IntKind.i64.wrap x=(n:Int):=wrapN n h hn
theorem wQ (a b:Nat) (DO:b≤a) (ha:(aC 1000000000 a).length≤17592186044416):TC 179 [bM a,bM b] (bM (a-b)):=by
 refine TC.walk ⟨true,false⟩ DU rfl (Nat.le_of_ble_eq_true rfl) (by simp[aJ,bU]) (lF _) ?_
 have hle:=dG (b:=1000000000) (by decide) DO
 simp only[AH,wR,Ic,cK,VX,Nat.reduceEqDiff,Nat.reduceAdd]
 refine aY (fun(s:Nat×List Nat×Nat) ρ H=>s.1=s.2.1.length∧s.1≤(aC 1000000000 a).length∧H=[.row s.2.1.length (s.2.1.map tV) 1 true]∧(∀d∈s.2.1,d<1000000000)∧s.2.2≤1∧val 1000000000 ((aC 1000000000 a).take s.1)+1000000000^s.1*s.2.2=val 1000000000 s.2.1+val 1000000000 ((aC 1000000000 b).take s.1) ∧
  ρ 0=bM a∧ρ 1=bM b∧ρ 5 = .ref 0 s.2.1.length 0 s.2.1.length s.2.1.length∧ρ 6=VI s.2.2∧ρ 11=VI (aC 1000000000 a).length∧ρ 12=VI s.1) (fun s=>(aC 1000000000 a).length-s.1) (0,[],0) ⟨rfl,Nat.zero_le _,rfl,by simp,by simp,by simp[val],rfl,rfl,rfl,rfl,rfl,rfl⟩ ?_
 rintro⟨i,outs,l⟩ ρ H ⟨hi,HC,rfl,jQ,hc,hv,g0,g1,g5,g6,g11,g12⟩
 simp only at hi HC jQ hc hv g5 g6 g12
 by_cases dA:(i:Int)<((aC 1000000000 a).length:Int)
 ·have hx:=HT (b:=1000000000) (by decide) (n:=a) (i:=i) (by omega)
  have e1:bE 1 (bM a) (VI i) [.row outs.length (outs.map tV) 1 true]=some (.cO (tV (a / 1000000000^i % 1000000000)) 0):=aM (f:=tV) (t := .op) (size:=1) (k := .i64) hx rfl
  have c2:=Bn b i
  have t1:=C4 (b:=1000000000) (aC 1000000000 a) i
  have t2:=C4 (b:=1000000000) (aC 1000000000 b) i
  rw[F3 (by decide)] at t1 t2
  have lx:=Nat.mod_lt (a / 1000000000^i) (show 0<1000000000 by decide)
  have ly:=Nat.mod_lt (b / 1000000000^i) (show 0<1000000000 by decide)
  generalize a / 1000000000^i % 1000000000=x at *
  generalize b / 1000000000^i % 1000000000=y at *
  have wi:IntKind.i64.wrap ((i:Int)+1)=((i+1:Nat):Int):=wrapN (i+1) (by omega) (by omega)
  have w1:IntKind.i64.wrap ((x:Int)-(y:Int))=(x:Int)-(y:Int):=wrap64 (by omega) (by omega)
  have w2:IntKind.i64.wrap ((x:Int)-(y:Int)-(l:Int))=(x:Int)-(y:Int)-(l:Int):=wrap64 (by omega) (by omega)
  have step:∀r l':Nat,r<1000000000→l'≤1→r+y+l=x+1000000000*l'→(∀d∈outs++[r],d<1000000000)∧val 1000000000 ((aC 1000000000 a).take (i+1))+1000000000^(i+1)*l'=val 1000000000 (outs++[r])+val 1000000000 ((aC 1000000000 b).take (i+1)):=by
   intro r l' hr _ hd
   refine⟨fun d h => ?_,?_⟩
   ·rcases List.mem_append.1 h with h | h
    ·exact jQ d h
    ·rw[List.mem_singleton.1 h];exact hr
   ·rw[t1,t2,qI,←hi,Nat.pow_succ]
    exact G3 hv hd
  by_cases lQ:(x:Int)-(y:Int)-(l:Int)<0
  ·obtain⟨r,hr⟩:∃r:Nat,r+y+l=x+1000000000:=⟨x+1000000000-l-y,by omega⟩
   have w3:IntKind.i64.wrap ((x:Int)-(y:Int)-(l:Int)+1000000000)=(r:Int):=wrapN r (by omega) (by omega)
   obtain⟨s1,s2⟩:=step r 1 (by omega) (Nat.le_refl _) (by omega)
   have a1:=Yu (ds:=outs) (d:=r) (by omega)
   simp only[kV,g0,g1,g5,g6,g11,g12,dA,e1,c2,w1,w2,w3,wi,lQ,qG,sI,a1,VX,Nat.reduceEqDiff,Nat.reduceAdd]
   refine⟨(i+1,outs++[r],1),by simp only;omega,by simp;omega,by simp only;omega,by simp,s1,Nat.le_refl _,s2,?_⟩
   simp only[List.length_append,List.length_singleton]
   try (repeat' apply And.intro)<;>first | rfl | trivial
  ·obtain⟨r,hr⟩:∃r:Nat,r+y+l=x:=⟨x-l-y,by omega⟩
   obtain⟨s1,s2⟩:=step r 0 (by omega) (by omega) (by omega)
   have er:(x:Int)-(y:Int)-(l:Int)=(r:Int):=by omega
   have a1:=Yu (ds:=outs) (d:=r) (by omega)
   have w3:IntKind.i64.wrap ((x:Int)-(y:Int)-(l:Int))=(r:Int):=wrapN r er (by omega)
   have M8:¬(r:Int)<0:=by omega
   simp only[kV,g0,g1,g5,g6,g11,g12,dA,e1,c2,w1,w3,wi,M8,qG,sI,a1,VX,Nat.reduceEqDiff,Nat.reduceAdd]
   refine⟨(i+1,outs++[r],0),by simp only;omega,by simp;omega,by simp only;omega,by simp,s1,Nat.zero_le _,s2,?_⟩
   simp only[List.length_append,List.length_singleton]
   try (repeat' apply And.intro)<;>first | rfl | trivial
 ·have rI:i=(aC 1000000000 a).length:=by omega
  rw[rI,List.take_length,List.take_of_length_le (l:=aC 1000000000 b) hle,bW (by decide),bW (by decide)] at hv
  have gF:=mZ jQ
  rw[←hi,rI] at gF
  have J1:val 1000000000 outs=a-b:=by
   rcases Nat.lt_or_ge l 1 with h | h
   ·have:l=0:=by omega
    subst this
    rw[Nat.mul_zero] at hv
    omega
   ·have:l=1:=by omega
    subst this
    rw[Nat.mul_one] at hv
    omega
  simp only[kV,g0,g1,g5,g6,g11,g12,dA,VX,Nat.reduceEqDiff,Nat.reduceAdd]
  refine FT jQ rfl (by omega) J1 ?_
  simp only[VX,Nat.reduceEqDiff,Nat.reduceAdd]
  exact NC _
theorem fX (a b:Nat) (ha:(aC 1000000000 a).length≤17592186044416) (hb:(aC 1000000000 b).length≤17592186044416):TC 162 [bM a,bM b] (bM (a*b)):=by
 refine TC.walk ⟨true,false⟩ Fu rfl (Nat.le_of_ble_eq_true rfl) (by simp[aJ,bU]) (lF _) ?_
 have va:=bW (b:=1000000000) (by decide) a
 have vb:=bW (b:=1000000000) (by decide) b
 have la:=eG (b:=1000000000) (by decide) a
 have lb:=eG (b:=1000000000) (by decide) b
 unfold bM
 generalize aC 1000000000 a=xs at *
 generalize aC 1000000000 b=ys at *
 have w0:IntKind.i64.wrap ((xs.length:Int)+(ys.length:Int))=((xs.length+ys.length:Nat):Int):=wrapN _ (by omega) (by omega)
 simp only[BT,zD,dP,w0,MS (xs.length+ys.length) (by omega),VX,Nat.reduceEqDiff,Nat.reduceAdd]
 generalize hN:xs.length+ys.length=N at *
 refine aY (fun(s:Nat×List Nat) ρ H=>s.1≤xs.length∧H=[.row 0 (s.2.map tV) 1 true]∧s.2.length=N∧(∀d∈s.2,d<1000000000)∧val 1000000000 (s.2.take (s.1+ys.length))=val 1000000000 (xs.take s.1)*b∧(∀j,s.1+ys.length≤j→j<N→s.2[j]? = some 0) ∧
  ρ 0=gC xs∧ρ 1=gC ys∧ρ 5 = .ref 0 0 0 N N∧ρ 17=VI xs.length∧ρ 18=VI s.1) (fun s=>xs.length-s.1) (0,List.replicate N 0) ⟨Nat.zero_le _,rfl,by simp,xU (by decide) _,by simp[val,List.take_replicate,oW],fun j _ h=>by simp[List.getElem?_replicate,h],rfl,rfl,rfl,rfl,rfl⟩ ?_
 rintro⟨i,outs⟩ ρ H ⟨hi,rfl,iF,jQ,hv,hzr,g0,g1,g5,g17,g18⟩
 simp only at hi iF jQ hv hzr g18
 by_cases dA:(i:Int)<(xs.length:Int)
 ·obtain⟨x,hx⟩:∃x,xs[i]? = some x:=⟨_,List.getElem?_eq_getElem (by omega)⟩
  have lx:=la x (List.mem_of_getElem? hx)
  have e1:∀os:List Nat,bE 1 (gC xs) (VI i) [.row 0 (os.map tV) 1 true]=some (.cO (tV x) 0):=fun os=>aM (f:=tV) (t := .op) (size:=1) (k := .i64) hx rfl
  simp only[qO,g0,g1,g5,g17,g18,dA,dP,VX,Nat.reduceEqDiff,Nat.reduceAdd]
  refine aY (fun(s:Nat×List Nat×Nat) ρ H=>s.1≤ys.length∧H=[.row 0 (s.2.1.map tV) 1 true]∧s.2.1.length=N∧(∀d∈s.2.1,d<1000000000)∧s.2.2<1000000000 ∧
   val 1000000000 (s.2.1.take (i+s.1))+1000000000^(i+s.1)*s.2.2=val 1000000000 (outs.take (i+s.1))+1000000000^i*(x*val 1000000000 (ys.take s.1))∧(∀j,i+s.1≤j→s.2.1[j]? = outs[j]?) ∧
   ρ 0=gC xs∧ρ 1=gC ys∧ρ 5 = .ref 0 0 0 N N∧ρ 6=VI i∧ρ 7=VI s.2.2∧ρ 17=VI xs.length∧ρ 18=VI i∧ρ 22=VI ys.length∧ρ 23=VI s.1) (fun s=>ys.length-s.1) (0,outs,0) ⟨Nat.zero_le _,rfl,iF,jQ,by simp,by simp[val],fun _ _=>rfl,by (repeat' apply And.intro)<;>first | rfl | trivial⟩ ?_
  rintro⟨k,os,c⟩ KC H ⟨hk,rfl,L8,Mu,hc,J7,DN,k0,k1,k5,k6,k7,FH,U2,k22,k23⟩
  simp only at hk L8 Mu hc J7 DN k7 k23
  have wi:IntKind.i64.wrap ((i:Int)+1)=((i+1:Nat):Int):=wrapN (i+1) (by omega) (by omega)
  by_cases hkn:(k:Int)<(ys.length:Int)
  ·obtain⟨y,hy⟩:∃y,ys[k]? = some y:=⟨_,List.getElem?_eq_getElem (by omega)⟩
   have ly:=lb y (List.mem_of_getElem? hy)
   obtain⟨o,ho⟩:∃o,os[i+k]? = some o:=⟨_,List.getElem?_eq_getElem (by omega)⟩
   have lo:=Mu o (List.mem_of_getElem? ho)
   have VA:outs[i+k]? = some o:=by rw[←DN (i+k) (Nat.le_refl _)];exact ho
   have f1:bE 1 (gC ys) (VI k) [.row 0 (os.map tV) 1 true]=some (.cO (tV y) 0):=aM (f:=tV) (t := .op) (size:=1) (k := .i64) hy rfl
   have w1:IntKind.i64.wrap ((i:Int)+(k:Int))=((i+k:Nat):Int):=wrapN _ (by omega) (by omega)
   have f2:bE 1 (.ref 0 0 0 N N) (VI ((i+k:Nat):Int)) [.row 0 (os.map tV) 1 true]=some (.ptr 0 0 (i+k) 0):=adT (by omega)
   have f3:dV false 1 (.ptr 0 0 (i+k) 0) [.row 0 (os.map tV) 1 true]=some (VI (o:Int)):=Iw HJ ho
   have f4:∀s:Nat,cQ 0 1 (.ptr 0 0 (i+k) 0) (VI (s:Int)) [.row 0 (os.map tV) 1 true]=some [.row 0 ((os.set (i+k) s).map tV) 1 true]:=fun s=>MW (by omega)
   have AA:x*y≤999999999*999999999:=Nat.mul_le_mul (by omega) (by omega)
   have w5:IntKind.i64.wrap ((x:Int)*(y:Int))=((x*y:Nat):Int):=wrapN _ (by simp) (by omega)
   have w6:IntKind.i64.wrap ((o:Int)+((x*y:Nat):Int))=((o+x*y:Nat):Int):=wrapN _ (by omega) (by omega)
   have w7:IntKind.i64.wrap (((o+x*y:Nat):Int)+(c:Int))=((o+x*y+c:Nat):Int):=wrapN _ (by omega) (by omega)
   have wk:IntKind.i64.wrap ((k:Int)+1)=((k+1:Nat):Int):=wrapN (k+1) (by omega) (by omega)
   have r1:=KF (o+x*y+c)
   have q1:=Lw (o+x*y+c) (by omega)
   simp only[pM,k0,k1,k5,k6,k7,FH,U2,k22,k23,hkn,e1,f1,f2,f3,f4,w1,w5,w6,w7,wk,r1,q1,VX,Nat.reduceEqDiff,Nat.reduceAdd]
   have hq:(o+x*y+c) / 1000000000<1000000000:=Nat.div_lt_of_lt_mul (by omega)
   refine⟨(k+1,os.set (i+k) ((o+x*y+c) % 1000000000),(o+x*y+c) / 1000000000),by simp only;omega,by omega,rfl,by rw[List.length_set];exact L8,kB Mu (Nat.mod_lt _ (by decide)),hq,?_,fun j hj => ?_,by (repeat' apply And.intro)<;>first | rfl | trivial⟩
   ·have h1:=Nat.mod_add_div (o+x*y+c) 1000000000
    rw[show o+x*y+c=c+(x*y+o) by omega] at h1 ⊢
    rw[←Nat.add_assoc,dN (by omega),aU VA,aU hy,Nat.pow_succ]
    rw[Nat.pow_add] at J7 ⊢
    exact Pa J7 h1
   ·rw[List.getElem?_set_ne (by omega)]
    exact DN j (by omega)
  ·have hke:k=ys.length:=by omega
   subst hke
   rw[List.take_length,vb,hv] at J7
   have w1:IntKind.i64.wrap ((i:Int)+(ys.length:Int))=((i+ys.length:Nat):Int):=wrapN _ (by omega) (by omega)
   have Cw:os[i+ys.length]? = some 0:=by rw[DN _ (Nat.le_refl _)];exact hzr _ (Nat.le_refl _) (by omega)
   have f2:bE 1 (.ref 0 0 0 N N) (VI ((i+ys.length:Nat):Int)) [.row 0 (os.map tV) 1 true]=some (.ptr 0 0 (i+ys.length) 0):=adT (by omega)
   have f3:dV false 1 (.ptr 0 0 (i+ys.length) 0) [.row 0 (os.map tV) 1 true]=some (VI ((0:Nat):Int)):=Iw HJ Cw
   have f4:∀s:Nat,cQ 0 1 (.ptr 0 0 (i+ys.length) 0) (VI (s:Int)) [.row 0 (os.map tV) 1 true]=some [.row 0 ((os.set (i+ys.length) s).map tV) 1 true]:=fun s=>MW (by omega)
   have w2:IntKind.i64.wrap (((0:Nat):Int)+(c:Int))=(c:Int):=wrapN _ (by omega) (by omega)
   simp only[pM,k0,k1,k5,k6,k7,FH,U2,k22,k23,hkn,dP,f2,f3,f4,w1,w2,wi,VX,Nat.reduceEqDiff,Nat.reduceAdd]
   refine⟨(i+1,os.set (i+ys.length) c),by simp only;omega,by omega,rfl,by rw[List.length_set];exact L8,kB Mu hc,?_,fun j hj UQ => ?_,by (repeat' apply And.intro)<;>first | rfl | trivial⟩
   ·rw[show i+1+ys.length=i+ys.length+1 by omega,dN (by omega),J7,aU hx,Nat.add_mul,Nat.mul_assoc]
   ·rw[List.getElem?_set_ne (by omega),DN j (by omega)]
    exact hzr j (by omega) UQ
 ·have rI:i=xs.length:=by omega
  subst rI
  rw[hN,List.take_length,va,List.take_of_length_le (by omega)] at hv
  simp only[qO,g0,g1,g5,g17,g18,dA,VX,Nat.reduceEqDiff,Nat.reduceAdd]
  refine FT (m:=a*b) jQ iF.symm (by omega) hv ?_
  simp only[VX,Nat.reduceEqDiff,Nat.reduceAdd]
  exact NC _
theorem AF (a:Nat) (ha:(aC 1000000000 a).length≤17592186044416):TC 236 [bM a] (if (aC 1000000000 a).length≤2 then .eO [VI a,VB true] else .eO [VI 0,VB false]):=by
 refine TC.walk ⟨true,false⟩ Hh rfl (Nat.le_of_ble_eq_true rfl) (by simp[aJ,bU]) (by split<;>rfl) ?_
 by_cases h2:(aC 1000000000 a).length≤2
 ·rw[if_pos h2]
  have h3:¬(2:Int)<((aC 1000000000 a).length:Int):=by omega
  have c0:TC 225 [bM a,VI 0] (VI ((a % 1000000000:Nat):Int)):=by have:=Bn a 0;rwa [Nat.pow_zero,Nat.div_one] at this
  have c1:TC 225 [bM a,VI 1] (VI ((a / 1000000000 % 1000000000:Nat):Int)):=by have:=Bn a 1;rwa [Nat.pow_one] at this
  have aX:=fO (b:=1000000000) (by decide) a
  have hp:1000000000^(aC 1000000000 a).length≤1000000000^2:=Nat.pow_le_pow_right (by decide) h2
  have hm:a / 1000000000<1000000000:=Nat.div_lt_of_lt_mul (by omega)
  rw[Nat.mod_eq_of_lt hm] at c1
  have hmd:=Nat.mod_add_div a 1000000000
  have w1:IntKind.i64.wrap (1000000000*((a / 1000000000:Nat):Int))=((1000000000*(a / 1000000000):Nat):Int):=wrapN _ (by omega) (by omega)
  have w2:IntKind.i64.wrap (((a % 1000000000:Nat):Int)+((1000000000*(a / 1000000000):Nat):Int))=(a:Int):=wrapN _ (by omega) (by omega)
  simp only[xS,tD,cK,h3,c0,c1,w1,w2,VX,Nat.reduceEqDiff,Nat.reduceAdd]
  exact aH rfl
 ·rw[if_neg h2]
  have h3:(2:Int)<((aC 1000000000 a).length:Int):=by omega
  simp only[xS,tD,cK,h3,VX,Nat.reduceEqDiff,Nat.reduceAdd]
  exact aH rfl
theorem Vv {outs:List Nat} {n cap x:Nat} (hn:n=outs.length) (hc:n<cap):gE 0 1 8 (.ref 0 0 0 n cap) [VI (x:Int)] [.row 0 ((outs++List.replicate (cap-n) 0).map tV) 1 true]=some (.ref 0 0 0 (n+1) cap,[.row 0 (((outs++[x])++List.replicate (cap-(n+1)) 0).map tV) 1 true]):=by
 subst hn
 simp only[gE,bT,List.length_map,List.length_append,List.length_replicate,List.length_cons,List.length_nil,Nat.zero_add]
 rw[if_pos ⟨by decide,by decide⟩,if_pos ⟨trivial,Nat.le_refl _,by omega⟩,if_pos (by omega),if_neg (by omega),if_pos (by omega)]
 congr 3
 have e:List.replicate (cap-outs.length) 0=(0:Nat)::List.replicate (cap-(outs.length+1)) 0:=by
  rw[show cap-outs.length=(cap-(outs.length+1))+1 by omega,List.replicate_succ]
 simp only[cL,List.set_cons_zero,e,List.map_append,List.map_cons,List.length_cons,List.length_nil,List.map_nil]
 congr 1
 rw[List.take_left' (by simp),←List.drop_drop,List.drop_left' (by simp)]
 simp
theorem vH (a d:Nat) (Br:0<d) (hd:d<1000000000) (ha:(aC 1000000000 a).length<17592186044416):TC 238 [bM a,VI (d:Int)] (bM (a*d)):=by
 refine TC.walk ⟨true,false⟩ Ds rfl (Nat.le_of_ble_eq_true rfl) (by simp[aJ,bU];rfl) (lF _) ?_
 have w0:IntKind.i64.wrap (((aC 1000000000 a).length:Int)+1)=(((aC 1000000000 a).length+1:Nat):Int):=wrapN _ (by omega) (by omega)
 have mk:yW [.int .i64 0] 8 (VI 0) (VI (((aC 1000000000 a).length+1:Nat):Int)) []=some (.ref 0 0 0 0 ((aC 1000000000 a).length+1),[.row 0 ((([]:List Nat)++List.replicate ((aC 1000000000 a).length+1-0) 0).map tV) 1 true]):=by
  simp only[yW]
  rw[if_pos ⟨by omega,by omega,by omega,by omega⟩]
  simp
  rfl
 simp only[zG,vY,cK,w0,mk,VX,Nat.reduceEqDiff,Nat.reduceAdd]
 refine aY (fun(s:Nat×List Nat×Nat) ρ H=>s.1=s.2.1.length∧s.1≤(aC 1000000000 a).length∧H=[.row 0 ((s.2.1++List.replicate ((aC 1000000000 a).length+1-s.1) 0).map tV) 1 true]∧s.2.2<d∧aC 1000000000 (a*d)=s.2.1++aC 1000000000 (a / 1000000000^s.1*d+s.2.2) ∧
  ρ 1=VI d∧ρ 5 = .ref 0 0 0 s.1 ((aC 1000000000 a).length+1)∧ρ 6=VI s.2.2∧ρ 14=bM a∧ρ 15=VI (aC 1000000000 a).length∧ρ 16=VI s.1) (fun s=>(aC 1000000000 a).length-s.1) (0,[],0) ⟨rfl,Nat.zero_le _,rfl,Br,by simp,rfl,rfl,rfl,rfl,rfl,rfl⟩ ?_
 rintro⟨i,outs,c⟩ ρ H ⟨hi,HC,rfl,hc,hv,g1,g5,g6,g14,g15,g16⟩
 simp only at hi HC hc hv g5 g6 g16
 by_cases dA:(i:Int)<((aC 1000000000 a).length:Int)
 ·have hx:=HT (b:=1000000000) (by decide) (n:=a) (i:=i) (by omega)
  have hA:=(Ct (b:=1000000000) (by decide) (n:=a) (i:=i)).1 (by omega)
  have e1:∀H,bE 1 (bM a) (VI i) H=some (.cO (tV (a / 1000000000^i % 1000000000)) 0):=fun H=>aM (f:=tV) (t := .op) (size:=1) (k := .i64) hx rfl
  have lx:=Nat.mod_lt (a / 1000000000^i) (show 0<1000000000 by decide)
  have eX:a / 1000000000^i*d+c≠0:=by
   have:=Nat.mul_ne_zero hA (show d≠0 by omega)
   omega
  rw[TX (by decide) eX,←pR] at hv
  generalize a / 1000000000^i % 1000000000=x at *
  have hxd:x*d≤999999999*999999999:=Nat.mul_le_mul (by omega) (by omega)
  have w1:IntKind.i64.wrap ((x:Int)*(d:Int))=((x*d:Nat):Int):=wrapN _ (by simp) (by omega)
  have w2:IntKind.i64.wrap (((x*d:Nat):Int)+(c:Int))=((x*d+c:Nat):Int):=wrapN _ (by omega) (by omega)
  have wi:IntKind.i64.wrap ((i:Int)+1)=((i+1:Nat):Int):=wrapN (i+1) (by omega) (by omega)
  have r1:=KF (x*d+c)
  have q1:=Lw (x*d+c) (by omega)
  have a1:=Vv (outs:=outs) (n:=i) (cap:=(aC 1000000000 a).length+1) (x:=(x*d+c) % 1000000000) hi (by omega)
  have hq:(x*d+c) / 1000000000<d:=by
   rw[Nat.div_lt_iff_lt_mul (by decide)]
   have h1:x*d≤999999999*d:=Nat.mul_le_mul_right _ (by omega)
   omega
  simp only[jR,g1,g5,g6,g14,g15,g16,dA,e1,w1,w2,wi,r1,q1,qG,sI,a1,VX,Nat.reduceEqDiff,Nat.reduceAdd]
  refine⟨(i+1,outs++[(x*d+c) % 1000000000],(x*d+c) / 1000000000),by simp only;omega,by simp;omega,by simp only;omega,rfl,hq,by rw[hv,List.append_assoc];rfl,?_⟩
  try (repeat' apply And.intro)<;>first | rfl | trivial
 ·have rI:i=(aC 1000000000 a).length:=by omega
  have hz:a / 1000000000^i=0:=by
   have:=mt (Ct (b:=1000000000) (by decide) (n:=a) (i:=i)).2
   omega
  rw[hz,Nat.zero_mul,Nat.zero_add] at hv
  by_cases hcp:(0:Int)<(c:Int)
  ·rw[BO (b:=1000000000) (by decide) (show c≠0 by omega) (show c<1000000000 by omega)] at hv
   have a1:=Vv (outs:=outs) (n:=i) (cap:=(aC 1000000000 a).length+1) (x:=c) hi (by omega)
   simp only[jR,g1,g5,g6,g14,g15,g16,dA,hcp,qG,sI,a1,VX,Nat.reduceEqDiff,Nat.reduceAdd]
   rw[bM,hv]
   rw[HK bT (by simp;omega) (by omega) (dQ fun _=>rfl)]
   rw[List.map_append,List.take_left' (by simp;omega)]
  ·have hc0:c=0:=by omega
   rw[hc0,bR,List.append_nil] at hv
   simp only[jR,g1,g5,g6,g14,g15,g16,dA,hcp,VX,Nat.reduceEqDiff,Nat.reduceAdd]
   rw[bM,hv]
   rw[HK bT (by simp;omega) (by omega) (dQ fun _=>rfl)]
   rw[List.map_append,List.take_left' (by simp;omega)]
theorem HI (a b:Nat) (ha:a≤9223372036854775807) (hb:0<b):cX .quo (.int .i64 (a:Int)) (.int .i64 (b:Int))=some (.int .i64 ((a / b:Nat):Int)):=by
 have h1:¬((b:Int)=0):=by omega
 have h2:(a:Int).tdiv (b:Int)=((a / b:Nat):Int):=by rw[Int.tdiv_eq_ediv_of_nonneg (by omega)];simp
 have h3:a / b≤a:=Nat.div_le_self _ _
 simp only[cX,if_true,h1,if_false,h2]
 generalize a / b=q at *
 rw[wrap64 (by omega) (by omega)]
theorem Ik (a b:Nat) (hb:0<b):cX .rem (.int .i64 (a:Int)) (.int .i64 (b:Int))=some (.int .i64 ((a % b:Nat):Int)):=by
 have h1:¬((b:Int)=0):=by omega
 have h2:(a:Int).tmod (b:Int)=((a % b:Nat):Int):=by rw[Int.tmod_eq_emod_of_nonneg (by omega)];simp
 simp only[cX,if_true,h1,if_false,h2]
theorem XE {r d x:Nat} (hr:r<d) (hd:d<1000000000) (hx:x<1000000000):r*1000000000+x≤9223372036854775807:=by omega
theorem acJ {r d x:Nat} (Br:0<d) (hr:r<d) (hx:x<1000000000):(r*1000000000+x) / d<1000000000:=by
 rw[Nat.div_lt_iff_lt_mul Br]
 omega
theorem uY (a d:Nat) (Br:0<d) (hdT:d<1000000000) (ha:(aC 1000000000 a).length≤17592186044416):TC 237 [bM a,VI (d:Int)] (.eO [bM (a / d),VI ((a % d:Nat):Int)]):=by
 refine TC.walk ⟨true,false⟩ Dm rfl (Nat.le_of_ble_eq_true rfl) (by simp[aJ,bU];rfl) (by simp[gJ,pJ,lF,lR]) ?_
 have va:=bW (b:=1000000000) (by decide) a
 have la:=eG (b:=1000000000) (by decide) a
 unfold bM
 generalize aC 1000000000 a=xs at *
 have w0:IntKind.i64.wrap ((xs.length:Int)-1)=(xs.length:Int)-1:=wrap64 (by omega) (by omega)
 simp only[zA,vL,dP,w0,MS xs.length (by omega),VX,Nat.reduceEqDiff,Nat.reduceAdd]
 refine aY (fun(s:Nat×List Nat×Nat) ρ H=>s.1≤xs.length∧H=[.row 0 (s.2.1.map tV) 1 true]∧s.2.1.length=xs.length∧(∀d∈s.2.1,d<1000000000)∧s.2.2<d∧val 1000000000 (s.2.1.drop s.1)*d+s.2.2=val 1000000000 (xs.drop s.1) ∧
  ρ 0=gC xs∧ρ 1=VI d∧ρ 6 = .ref 0 0 0 xs.length xs.length∧ρ 7=VI s.2.2∧ρ 8=VI ((s.1:Int)-1)) (fun s=>s.1) (xs.length,List.replicate xs.length 0,0) ⟨Nat.le_refl _,rfl,by simp,xU (by decide) _,Br,by simp[val,List.drop_replicate],rfl,rfl,rfl,rfl,rfl⟩ ?_
 rintro⟨j,outs,r⟩ ρ H ⟨hj,rfl,iF,jQ,hr,hv,g0,g1,g6,g7,g8⟩
 simp only at hj iF jQ hr hv g7 g8
 by_cases hz:(0:Int)≤(j:Int)-1
 ·obtain⟨i,rfl⟩:∃i,j=i+1:=⟨j-1,by omega⟩
  obtain⟨x,hx⟩:∃x,xs[i]? = some x:=⟨_,List.getElem?_eq_getElem (by omega)⟩
  have lx:=la x (List.mem_of_getElem? hx)
  have J0:((i+1:Nat):Int)-1=(i:Int):=by omega
  rw[J0] at g8 hz
  have e1:=aM (f:=tV) (t := .op) (H:=[.row 0 (outs.map tV) 1 true]) (size:=1) (k := .i64) hx rfl
  have e3:bE 1 (.ref 0 0 0 xs.length xs.length) (VI i) [.row 0 (outs.map tV) 1 true]=some (.ptr 0 0 i 0):=adT (by omega)
  have e4:∀s:Nat,cQ 0 1 (.ptr 0 0 i 0) (VI (s:Int)) [.row 0 (outs.map tV) 1 true]=some [.row 0 ((outs.set i s).map tV) 1 true]:=fun s=>MW (by omega)
  have w2:IntKind.i64.wrap ((i:Int)-1)=(i:Int)-1:=wrap64 (by omega) (by omega)
  have w4:IntKind.i64.wrap ((r:Int)*1000000000)=((r*1000000000:Nat):Int):=wrapN _ (by omega) (by omega)
  have w5:IntKind.i64.wrap (((r*1000000000:Nat):Int)+(x:Int))=((r*1000000000+x:Nat):Int):=wrapN _ (by omega) (by omega)
  have Cy:r*1000000000+x≤9223372036854775807:=XE hr hdT lx
  have q1:=HI (r*1000000000+x) d Cy Br
  have q2:=Ik (r*1000000000+x) d Br
  have hq:(r*1000000000+x) / d<1000000000:=acJ Br hr lx
  simp only[nR,g0,g1,g6,g7,g8,hz,e1,e3,e4,w2,w4,w5,q1,q2,VX,Nat.reduceEqDiff,Nat.reduceAdd]
  refine⟨(i,outs.set i ((r*1000000000+x) / d),(r*1000000000+x) % d),by simp only;omega,by omega,rfl,by rw[List.length_set];exact iF,kB jQ hq,Nat.mod_lt _ Br,?_,by (repeat' apply And.intro)<;>first | rfl | trivial⟩
  have h1:=Nat.mod_add_div (r*1000000000+x) d
  rw[set_drop (by omega),qD,qP hx,←hv]
  exact Pj h1
 ·have Qv:j=0:=by omega
  subst Qv
  rw[List.drop_zero,List.drop_zero,va] at hv
  have h1:a / d=val 1000000000 outs:=by
   rw[←hv,Nat.mul_comm,Nat.mul_add_div Br,Nat.div_eq_of_lt hr,Nat.add_zero]
  have h2:a % d=r:=by
   rw[←hv,Nat.mul_comm,Nat.mul_add_mod,Nat.mod_eq_of_lt hr]
  simp only[nR,g0,g1,g6,g7,g8,hz,VX,Nat.reduceEqDiff,Nat.reduceAdd]
  refine FT (m:=a / d) jQ iF.symm (by omega) h1.symm ?_
  simp only[g7,VX,Nat.reduceEqDiff,Nat.reduceAdd]
  rw[h2]
  exact aH (by simp[aR,aJ,uM,bM,lR])
end Go.PM
namespace Go.PM
section
variable {H:aA} {b g o i lo d:Nat} {L R:List VV} {low:List Nat}
theorem Vw (hr:aQ H b g=some (L++low.map tV++R,1,true)) (ho:L.length=o) (hi:low[i]? = some d):dV false 1 (.ptr b g (o+i) 0) H=some (VI (d:Int)):=by
 have aX:=(List.getElem?_eq_some_iff.1 hi).1
 rw[Mv hr (x:=tV d) (by rw[M6 ho (by simpa using aX)];simp[hi])]
 rfl
theorem Vm (hr:aQ H b g=some (L++low.map tV++R,1,true)) (ho:L.length=o) (hi:i<low.length) (gF:lo≤b):cQ lo 1 (.ptr b g (o+i) 0) (VI (d:Int)) H=some (H.set b (.row g (L++(low.set i d).map tV++R) 1 true)):=by
 rw[kP hr (by simp only[List.length_append,List.length_map];omega) gF rfl rfl,SX ho (by simpa using hi),List.map_set]
theorem Q9 {n:Nat} {z:Int} (hr:aQ H b g=some (L++low.map tV++VI z::R,1,true)) (ho:L.length=o) (hn:low.length=n):dV false 1 (.ptr b g (o+n) 0) H=some (VI z):=by
 rw[Mv hr (x:=VI z) (by rw[List.getElem?_append_right (by simp;omega)];simp[ho,hn])]
 rfl
theorem Wa {n:Nat} {z z':Int} (hr:aQ H b g=some (L++low.map tV++VI z::R,1,true)) (ho:L.length=o) (hn:low.length=n) (gF:lo≤b):cQ lo 1 (.ptr b g (o+n) 0) (VI z') H=some (H.set b (.row g (L++low.map tV++VI z'::R) 1 true)):=by
 rw[kP hr (by simp only[List.length_append,List.length_map,List.length_cons];omega) gF rfl rfl,List.set_append_right _ _ (by simp;omega)]
 congr 5
 simp[ho,hn]
end
theorem MU {P A N B c u x t r k m q T:Nat} (h:A+P*c=N+t*B) (h1:r+m+c=u+T*k) (h2:m+T*q=x*t):(A+P*u)+P*T*(q+k)=(N+P*r)+t*(B+P*x):=by
 have e1:P*(r+m+c)=P*(u+T*k):=by rw[h1]
 have e2:P*(m+T*q)=P*(x*t):=by rw[h2]
 grind
theorem WO {x t:Nat} (hx:x<1000000000) (ht:t<1000000000):x*t≤999999998000000001∧x*t / 1000000000≤999999998:=by
 have h:x*t≤999999999*999999999:=Nat.mul_le_mul (by omega) (by omega)
 omega
theorem Uz {H:aA} {lo b g o n N t top:Nat} {L R:List VV} {low vs:List Nat} (hr:aQ H b g=some (L++low.map tV++VI (top:Int)::R,1,true)) (gF:lo≤b) (ho:L.length=o) (hl:low.length=n) (C1:vs.length=n) (hN:o+n<N) (A3:N≤70368744177664)
  (Xc:∀d∈low,d<1000000000) (EL:∀d∈vs,d<1000000000) (ht:t<1000000000) (W4:top<1000000000) :
  qT 239 [.ref b g 0 N N,gC vs,VI (o:Int),VI (t:Int)] lo H fun r H'=>∃(yT:List Nat) (c:Nat),H'=H.set b (.row g (L++yT.map tV++VI ((top:Int)-(c:Int))::R) 1 true)∧yT.length=n∧(∀d∈yT,d<1000000000)∧c≤1000000000 ∧
   r=VB (decide ((top:Int)-(c:Int)<0))∧val 1000000000 low+1000000000^n*c=val 1000000000 yT+t*val 1000000000 vs:=by
 refine qT.walk ⟨true,false⟩ DS (Nat.le_of_ble_eq_true rfl) ?_
 have rd:∀(s:List Nat) (z:Int),aQ (H.set b (.row g (L++s.map tV++VI z::R) 1 true)) b g=some (L++s.map tV++VI z::R,1,true):=fun s z=>lK hr
 have ad:∀(K:aA) (es:List VV) (i:Nat),aQ K b g=some (es,1,true)→i≤n→bE 1 (.ref b g 0 N N) (VI ((o+i:Nat):Int)) K=some (.ptr b g (o+i) 0):=fun K es i h hi=>by rw[bB h (by omega),Nat.zero_add]
 simp only[Az,xK,dP,VX,Nat.reduceEqDiff,Nat.reduceAdd]
 refine aY (fun(u:Nat×List Nat×Nat) ρ K=>u.1≤n∧K=H.set b (.row g (L++u.2.1.map tV++VI (top:Int)::R) 1 true)∧u.2.1.length=n∧(∀d∈u.2.1,d<1000000000)∧u.2.2≤1000000000∧val 1000000000 (low.take u.1)+1000000000^u.1*u.2.2=val 1000000000 (u.2.1.take u.1)+t*val 1000000000 (vs.take u.1)∧(∀j,u.1≤j→u.2.1[j]? = low[j]?) ∧
  ρ 0 = .ref b g 0 N N∧ρ 1=gC vs∧ρ 2=VI o∧ρ 3=VI t∧ρ 9=VI u.2.2∧ρ 13=gC vs∧ρ 14=VI vs.length∧ρ 15=VI u.1) (fun u=>n-u.1) (0,low,0) ⟨Nat.zero_le _,(tN hr).symm,hl,Xc,by simp,by simp[val],fun _ _=>rfl,by (repeat' apply And.intro)<;>first | rfl | trivial⟩ ?_
 rintro⟨i,outs,c⟩ ρ K ⟨hi,rfl,iF,jQ,hc,hv,DN,k0,k1,k2,k3,k9,zJ,AN,HL⟩
 simp only at hi iF jQ hc hv DN k9 HL
 by_cases dA:(i:Int)<(vs.length:Int)
 ·obtain⟨u,hu⟩:∃u,outs[i]? = some u:=⟨_,List.getElem?_eq_getElem (by omega)⟩
  have lu:=jQ u (List.mem_of_getElem? hu)
  have hu':low[i]? = some u:=by rw[←DN i (Nat.le_refl _)];exact hu
  obtain⟨x,hx⟩:∃x,vs[i]? = some x:=⟨_,List.getElem?_eq_getElem (by omega)⟩
  have lx:=EL x (List.mem_of_getElem? hx)
  obtain⟨xt1,xt2⟩:=WO lx ht
  have e1:bE 1 (gC vs) (VI i) (H.set b (.row g (L++outs.map tV++VI (top:Int)::R) 1 true))=some (.cO (tV x) 0):=aM (f:=tV) (t := .op) (size:=1) (k := .i64) hx rfl
  have w1:IntKind.i64.wrap ((o:Int)+(i:Int))=((o+i:Nat):Int):=wrapN _ (by omega) (by omega)
  have e2:=ad _ _ i (rd outs top) (by omega)
  have e3:=Vw (rd outs top) ho hu
  have e4:∀d:Nat,cQ lo 1 (.ptr b g (o+i) 0) (VI (d:Int)) (H.set b (.row g (L++outs.map tV++VI (top:Int)::R) 1 true))=some (H.set b (.row g (L++(outs.set i d).map tV++VI (top:Int)::R) 1 true)):=fun d=>by rw[Vm (rd outs top) ho (by omega) gF,kL]
  have w2:IntKind.i64.wrap ((x:Int)*(t:Int))=((x*t:Nat):Int):=wrapN _ (by simp) (by omega)
  have r1:=KF (x*t)
  have q1:=Lw (x*t) (by omega)
  have hm:=Nat.mod_lt (x*t) (show 0<1000000000 by decide)
  have hdv:=Nat.mod_add_div (x*t) 1000000000
  have wi:IntKind.i64.wrap ((i:Int)+1)=((i+1:Nat):Int):=wrapN (i+1) (by omega) (by omega)
  generalize hmq:x*t % 1000000000=m at *
  generalize hqq:x*t / 1000000000=q at *
  have w3:IntKind.i64.wrap ((u:Int)-(m:Int))=(u:Int)-(m:Int):=wrap64 (by omega) (by omega)
  have w4:IntKind.i64.wrap ((u:Int)-(m:Int)-(c:Int))=(u:Int)-(m:Int)-(c:Int):=wrap64 (by omega) (by omega)
  have step:∀r k:Nat,r<1000000000→r+m+c=u+1000000000*k→val 1000000000 (low.take (i+1))+1000000000^(i+1)*(q+k)=val 1000000000 ((outs.set i r).take (i+1))+t*val 1000000000 (vs.take (i+1))∧(∀d∈outs.set i r,d<1000000000)∧(∀j,i+1≤j→(outs.set i r)[j]? = low[j]?)∧(outs.set i r).length=n:=by
   intro r k hr hk
   refine⟨?_,kB jQ hr,fun j hj=>by rw[List.getElem?_set_ne (by omega)];exact DN j (by omega),by rw[List.length_set];exact iF⟩
   rw[aU hu',aU hx,dN (by omega),Nat.pow_succ]
   exact MU hv hk hdv
  by_cases h1:(u:Int)-(m:Int)-(c:Int)<0
  ·have w5:IntKind.i64.wrap ((u:Int)-(m:Int)-(c:Int)+1000000000)=(u:Int)-(m:Int)-(c:Int)+1000000000:=wrap64 (by omega) (by omega)
   have w6:IntKind.i64.wrap ((q:Int)+1)=((q+1:Nat):Int):=wrapN _ (by omega) (by omega)
   by_cases h2:(u:Int)-(m:Int)-(c:Int)+1000000000<0
   ·obtain⟨r,hr⟩:∃r:Nat,r+m+c=u+1000000000*2:=⟨u+1000000000*2-m-c,by omega⟩
    have w7:IntKind.i64.wrap ((u:Int)-(m:Int)-(c:Int)+1000000000+1000000000)=(r:Int):=wrapN r (by omega) (by omega)
    have w8:IntKind.i64.wrap (((q+1:Nat):Int)+1)=((q+2:Nat):Int):=wrapN _ (by omega) (by omega)
    obtain⟨s1,s2,s3,s4⟩:=step r 2 (by omega) hr
    simp only[iV,k0,k1,k2,k3,k9,zJ,AN,HL,dA,e1,e2,e3,e4,w1,w2,w3,w4,w5,w6,w7,w8,wi,r1,q1,h1,h2,VX,Nat.reduceEqDiff,Nat.reduceAdd]
    refine⟨(i+1,outs.set i r,q+2),by simp only;omega,by omega,rfl,s4,s2,by simp only;omega,s1,s3,?_⟩
    try (repeat' apply And.intro)<;>first | rfl | trivial
   ·obtain⟨r,hr⟩:∃r:Nat,r+m+c=u+1000000000*1:=⟨u+1000000000*1-m-c,by omega⟩
    have w7:IntKind.i64.wrap ((u:Int)-(m:Int)-(c:Int)+1000000000)=(r:Int):=wrapN r (by omega) (by omega)
    have h3:¬(r:Int)<0:=by omega
    obtain⟨s1,s2,s3,s4⟩:=step r 1 (by omega) hr
    simp only[iV,k0,k1,k2,k3,k9,zJ,AN,HL,dA,e1,e2,e3,e4,w1,w2,w3,w4,w6,w7,wi,r1,q1,h1,h3,VX,Nat.reduceEqDiff,Nat.reduceAdd]
    refine⟨(i+1,outs.set i r,q+1),by simp only;omega,by omega,rfl,s4,s2,by simp only;omega,s1,s3,?_⟩
    try (repeat' apply And.intro)<;>first | rfl | trivial
  ·obtain⟨r,hr⟩:∃r:Nat,r+m+c=u+1000000000*0:=⟨u-m-c,by omega⟩
   have w7:IntKind.i64.wrap ((u:Int)-(m:Int)-(c:Int))=(r:Int):=wrapN r (by omega) (by omega)
   have h3:¬(r:Int)<0:=by omega
   obtain⟨s1,s2,s3,s4⟩:=step r 0 (by omega) hr
   simp only[iV,k0,k1,k2,k3,k9,zJ,AN,HL,dA,e1,e2,e3,e4,w1,w2,w3,w7,wi,r1,q1,h3,VX,Nat.reduceEqDiff,Nat.reduceAdd]
   refine⟨(i+1,outs.set i r,q),by simp only;omega,by omega,rfl,s4,s2,by simp only;omega,s1,s3,?_⟩
   try (repeat' apply And.intro)<;>first | rfl | trivial
 ·have rI:i=n:=by omega
  subst rI
  rw[List.take_of_length_le (by omega),List.take_of_length_le (by omega),List.take_of_length_le (by omega)] at hv
  have w1:IntKind.i64.wrap ((o:Int)+(vs.length:Int))=((o+i:Nat):Int):=wrapN _ (by omega) (by omega)
  have e2:=ad _ _ i (rd outs top) (by omega)
  have e2':=ad _ _ i (rd outs ((top:Int)-(c:Int))) (by omega)
  have e3:=Q9 (rd outs top) ho iF
  have e3':=Q9 (rd outs ((top:Int)-(c:Int))) ho iF
  have e4:cQ lo 1 (.ptr b g (o+i) 0) (VI ((top:Int)-(c:Int))) (H.set b (.row g (L++outs.map tV++VI (top:Int)::R) 1 true))=some (H.set b (.row g (L++outs.map tV++VI ((top:Int)-(c:Int))::R) 1 true)):=by rw[Wa (rd outs top) ho iF gF,kL]
  have w2:IntKind.i64.wrap ((top:Int)-(c:Int))=(top:Int)-(c:Int):=wrap64 (by omega) (by omega)
  simp only[iV,k0,k1,k2,k3,k9,zJ,AN,HL,dA,dP,w1,w2,e2,e2',e3,e3',e4,VX,Nat.reduceEqDiff,Nat.reduceAdd]
  refine⟨outs,c,rfl,iF,jQ,hc,?_,hv⟩
  try rfl
theorem SZ {H:aA} {lo b g o n N:Nat} {z:Int} {L R:List VV} {low vs:List Nat} (hr:aQ H b g=some (L++low.map tV++VI z::R,1,true)) (gF:lo≤b) (ho:L.length=o) (hl:low.length=n) (C1:vs.length=n) (hN:o+n<N) (A3:N≤70368744177664)
  (Xc:∀d∈low,d<1000000000) (EL:∀d∈vs,d<1000000000) (hz : -1000000000≤z) (PU:z≤1000000000) :
  qT 240 [.ref b g 0 N N,gC vs,VI (o:Int)] lo H fun r H'=>∃(yT:List Nat) (c:Nat),H'=H.set b (.row g (L++yT.map tV++VI (z+(c:Int))::R) 1 true)∧yT.length=n∧(∀d∈yT,d<1000000000)∧c≤1 ∧
   val 1000000000 low+val 1000000000 vs=val 1000000000 yT+1000000000^n*c:=by
 refine qT.walk ⟨true,false⟩ EC (Nat.le_of_ble_eq_true rfl) ?_
 have rd:∀(s:List Nat) (z:Int),aQ (H.set b (.row g (L++s.map tV++VI z::R) 1 true)) b g=some (L++s.map tV++VI z::R,1,true):=fun s z=>lK hr
 have ad:∀(K:aA) (es:List VV) (i:Nat),aQ K b g=some (es,1,true)→i≤n→bE 1 (.ref b g 0 N N) (VI ((o+i:Nat):Int)) K=some (.ptr b g (o+i) 0):=fun K es i h hi=>by rw[bB h (by omega),Nat.zero_add]
 simp only[AI,xE,dP,VX,Nat.reduceEqDiff,Nat.reduceAdd]
 refine aY (fun(u:Nat×List Nat×Nat) ρ K=>u.1≤n∧K=H.set b (.row g (L++u.2.1.map tV++VI z::R) 1 true)∧u.2.1.length=n∧(∀d∈u.2.1,d<1000000000)∧u.2.2≤1∧val 1000000000 (low.take u.1)+val 1000000000 (vs.take u.1)=val 1000000000 (u.2.1.take u.1)+1000000000^u.1*u.2.2∧(∀j,u.1≤j→u.2.1[j]? = low[j]?) ∧
  ρ 0 = .ref b g 0 N N∧ρ 1=gC vs∧ρ 2=VI o∧ρ 6=VI u.2.2∧ρ 10=gC vs∧ρ 11=VI vs.length∧ρ 12=VI u.1) (fun u=>n-u.1) (0,low,0) ⟨Nat.zero_le _,(tN hr).symm,hl,Xc,by simp,by simp[val],fun _ _=>rfl,by (repeat' apply And.intro)<;>first | rfl | trivial⟩ ?_
 rintro⟨i,outs,c⟩ ρ K ⟨hi,rfl,iF,jQ,hc,hv,DN,k0,k1,k2,k6,U4,SM,Gr⟩
 simp only at hi iF jQ hc hv DN k6 Gr
 by_cases dA:(i:Int)<(vs.length:Int)
 ·obtain⟨u,hu⟩:∃u,outs[i]? = some u:=⟨_,List.getElem?_eq_getElem (by omega)⟩
  have lu:=jQ u (List.mem_of_getElem? hu)
  have hu':low[i]? = some u:=by rw[←DN i (Nat.le_refl _)];exact hu
  obtain⟨x,hx⟩:∃x,vs[i]? = some x:=⟨_,List.getElem?_eq_getElem (by omega)⟩
  have lx:=EL x (List.mem_of_getElem? hx)
  have e1:bE 1 (gC vs) (VI i) (H.set b (.row g (L++outs.map tV++VI z::R) 1 true))=some (.cO (tV x) 0):=aM (f:=tV) (t := .op) (size:=1) (k := .i64) hx rfl
  have w1:IntKind.i64.wrap ((o:Int)+(i:Int))=((o+i:Nat):Int):=wrapN _ (by omega) (by omega)
  have e2:=ad _ _ i (rd outs z) (by omega)
  have e3:=Vw (rd outs z) ho hu
  have e4:∀d:Nat,cQ lo 1 (.ptr b g (o+i) 0) (VI (d:Int)) (H.set b (.row g (L++outs.map tV++VI z::R) 1 true))=some (H.set b (.row g (L++(outs.set i d).map tV++VI z::R) 1 true)):=fun d=>by rw[Vm (rd outs z) ho (by omega) gF,kL]
  have w2:IntKind.i64.wrap ((u:Int)+(x:Int))=((u+x:Nat):Int):=wrapN _ (by omega) (by omega)
  have w3:IntKind.i64.wrap (((u+x:Nat):Int)+(c:Int))=((u+x+c:Nat):Int):=wrapN _ (by omega) (by omega)
  have r1:=KF (u+x+c)
  have q1:=Lw (u+x+c) (by omega)
  have wi:IntKind.i64.wrap ((i:Int)+1)=((i+1:Nat):Int):=wrapN (i+1) (by omega) (by omega)
  simp only[oY,k0,k1,k2,k6,U4,SM,Gr,dA,e1,e2,e3,e4,w1,w2,w3,wi,r1,q1,VX,Nat.reduceEqDiff,Nat.reduceAdd]
  refine⟨(i+1,outs.set i ((u+x+c) % 1000000000),(u+x+c) / 1000000000),by simp only;omega,by omega,rfl,by rw[List.length_set];exact iF,kB jQ (Nat.mod_lt _ (by decide)),by simp only;omega,?_,fun j hj=>by rw[List.getElem?_set_ne (by omega)];exact DN j (by omega),?_⟩
  ·simp only
   rw[aU hu',aU hx,dN (by omega),Nat.pow_succ]
   exact Dw hv (show c+u+x=u+x+c by omega) (Nat.mod_add_div _ _)
  ·try (repeat' apply And.intro)<;>first | rfl | trivial
 ·have rI:i=n:=by omega
  subst rI
  rw[List.take_of_length_le (by omega),List.take_of_length_le (by omega),List.take_of_length_le (by omega)] at hv
  have w1:IntKind.i64.wrap ((o:Int)+(vs.length:Int))=((o+i:Nat):Int):=wrapN _ (by omega) (by omega)
  have e2:=ad _ _ i (rd outs z) (by omega)
  have e3:=Q9 (rd outs z) ho iF
  have e4:cQ lo 1 (.ptr b g (o+i) 0) (VI (z+(c:Int))) (H.set b (.row g (L++outs.map tV++VI z::R) 1 true))=some (H.set b (.row g (L++outs.map tV++VI (z+(c:Int))::R) 1 true)):=by rw[Wa (rd outs z) ho iF gF,kL]
  have w2:IntKind.i64.wrap (z+(c:Int))=z+(c:Int):=wrap64 (by omega) (by omega)
  simp only[oY,k0,k1,k2,k6,U4,SM,Gr,dA,dP,w1,w2,e2,e3,e4,VX,Nat.reduceEqDiff,Nat.reduceAdd]
  exact⟨outs,c,rfl,iF,jQ,hc,hv⟩
end Go.PM
namespace Go.PM
abbrev H2 (us os:List Nat):aA:=[.row 0 (us.map tV) 1 true,.row 0 (os.map tV) 1 true]
theorem Qo {us os:List Nat}:aQ (H2 us os) 0 0=some (us.map tV,1,true):=rfl
theorem afI {us os:List Nat}:aQ (H2 us os) 1 0=some (os.map tV,1,true):=rfl
theorem YQ {P a Z:Nat} {y:Int} (h:(a:Int)+(P:Int)*y=(Z:Int)) (ha:a<P) (hZ:Z<P):y=0∧a=Z:=by
 have hy:y=0:=by
  rcases Int.lt_trichotomy y 0 with h1 | h1 | h1
  ·have:(P:Int)*y≤(P:Int)*(-1):=Int.mul_le_mul_of_nonneg_left (by omega) (by omega)
   omega
  ·exact h1
  ·have:(P:Int)*1≤(P:Int)*y:=Int.mul_le_mul_of_nonneg_left (by omega) (by omega)
   omega
 subst hy
 rw[Int.mul_zero] at h
 exact⟨rfl,by omega⟩
theorem P9 {us:List Nat} {i n N V:Nat} (hN:us.length=N) (dA:i+n<N) (hd:∀d∈us,d<1000000000) (hV:V<1000000000^n) (AK:val 1000000000 (us.drop (i+1))<V) :
  us=us.take i++(us.drop i).take (n+1)++us.drop (i+(n+1))∧(us.take i).length=i∧((us.drop i).take (n+1)).length=n+1∧val 1000000000 ((us.drop i).take (n+1))<1000000000*V∧val 1000000000 (us.drop i)=val 1000000000 ((us.drop i).take (n+1))∧val 1000000000 (us.drop (i+(n+1)))=0∧∀j,j<n+1→((us.drop i).take (n+1))[j]? = us[i+j]? := by
 obtain⟨x,hx⟩:∃x,us[i]? = some x:=⟨_,List.getElem?_eq_getElem (by omega)⟩
 have lx:=hd x (List.mem_of_getElem? hx)
 have h1:=qP (b:=1000000000) hx
 have h2:val 1000000000 (us.drop i)<1000000000*V:=by
  have:1000000000*(val 1000000000 (us.drop (i+1))+1)≤1000000000*V:=Nat.mul_le_mul_left _ AK
  omega
 have h3:=nM (b:=1000000000) (us.drop i) (n+1)
 have h4:((us.drop i).take (n+1)).length=n+1:=by rw[List.length_take,List.length_drop];omega
 rw[h4,List.drop_drop] at h3
 have h5:val 1000000000 (us.drop (i+(n+1)))=0:=by
  rcases Nat.eq_zero_or_pos (val 1000000000 (us.drop (i+(n+1)))) with h | h
  ·exact h
  ·have h6:1000000000^(n+1)*1≤1000000000^(n+1)*val 1000000000 (us.drop (i+(n+1))):=Nat.mul_le_mul_left _ h
   have h7:1000000000*V≤1000000000^(n+1):=by rw[Nat.pow_succ,Nat.mul_comm];exact Nat.mul_le_mul_right _ (by omega)
   omega
 rw[h5,Nat.mul_zero,Nat.add_zero] at h3
 refine⟨?_,by rw[List.length_take];omega,h4,by omega,h3,h5,fun j hj => ?_⟩
 ·rw[List.append_assoc,←List.drop_drop,List.take_append_drop,List.take_append_drop]
 ·rw[List.getElem?_take_of_lt hj,List.getElem?_drop]
theorem leT {g:Nat} (h:(1000000000:Int)≤(g:Int)):1000000000≤g:=by omega
theorem Vk {g:Nat} (h:¬(1000000000:Int)≤(g:Int)):g<1000000000:=by omega
theorem ltC {a b:Nat} (h:(a:Int)<(b:Int)):a<b:=by omega
theorem aoF {a b:Nat} (h:¬(a:Int)<(b:Int)):b≤a:=by omega
theorem LD {a:Nat} (h:a*1000000000≤9223372036854775807):IntKind.i64.wrap ((a:Int)*1000000000)=((a*1000000000:Nat):Int):=wrapN _ (by omega) h
theorem KQ {a b:Nat} (h:a+b≤9223372036854775807):IntKind.i64.wrap ((a:Int)+(b:Int))=((a+b:Nat):Int):=wrapN _ (by omega) h
theorem TD {a b:Nat} (h:a*b≤9223372036854775807):IntKind.i64.wrap ((a:Int)*(b:Int))=((a*b:Nat):Int):=wrapN _ (by simp) h
theorem x17 {a:Nat} (h:a<1000000000):a*1000000000≤9223372036854775807:=by omega
theorem x18 {a b:Nat} (h:a<1000000000) (hb:b<1000000000):a*1000000000+b≤1000000000000000000:=by omega
theorem Oo {gH vs us os:List Nat} {n u2 u1 u0 v1 v0 N i g left:Nat} (G:tG 1000000000 gH vs n u2 u1 u0 v1 v0) {ρ:cR} {Q:VQ} (hN:us.length=N) (hiN:i+(n+2)<N) (A3:N≤70368744177664) (Zu:us[i+n]? = some u0)
  (g13:ρ 13 = .ref 0 0 0 N N) (g14:ρ 14=gC vs) (g15:ρ 15=VI ((n+2:Nat):Int)) (g17:ρ 17=VI i) (g19:ρ 19=VI g) (g20:ρ 20=VI left) (hh:u2*1000000000+u1=g*v1+left) (hq:val 1000000000 gH / val 1000000000 vs≤g) (hl:left<1000000000) (hgb:g≤1000000000000000000)
  (hQ:∀(aW:cR) (g':Nat),val 1000000000 gH / val 1000000000 vs≤g'→g'≤val 1000000000 gH / val 1000000000 vs+1→g'<1000000000→aW 19=VI g'→aW 12=ρ 12→aW 13=ρ 13→aW 14=ρ 14→aW 15=ρ 15→aW 16=ρ 16→aW 17=ρ 17→Q (.exit 2) aW (H2 us os)) :
  VW ⟨true,false⟩ 0 (.loop fC) Q ρ (H2 us os):=by
 have lv1:=G.R7
 have lv0:=G.WR
 have lu0:=G.ZQ
 have qlt:=G.YL
 have jN:=G.pos
 have C1:=G.Ie
 refine aY (fun(t:Nat×Nat) aW H=>H=H2 us os∧u2*1000000000+u1=t.1*v1+t.2∧val 1000000000 gH / val 1000000000 vs≤t.1∧t.2<1000000000∧t.1≤1000000000000000000 ∧
  aW 13 = .ref 0 0 0 N N∧aW 14=gC vs∧aW 15=VI ((n+2:Nat):Int)∧aW 17=VI i∧aW 19=VI t.1∧aW 20=VI t.2∧aW 12=ρ 12∧aW 16=ρ 16) (fun t=>1000000000-t.2) (g,left) ⟨rfl,hh,hq,hl,hgb,g13,g14,g15,g17,g19,g20,rfl,rfl⟩ ?_
 rintro⟨g,left⟩ KC H ⟨rfl,hh,hq,hl,hgb,zJ,AN,HL,FH,X6,k20,Gr,X4⟩
 simp only at hh hq hl hgb X6 k20
 have f1:bE 1 (gC vs) (VI ((n+1:Nat):Int)) (H2 us os)=some (.cO (tV v1) 0):=aM (f:=tV) (t := .op) (size:=1) (k := .i64) G.f1 rfl
 have f0:bE 1 (gC vs) (VI (n:Int)) (H2 us os)=some (.cO (tV v0) 0):=aM (f:=tV) (t := .op) (size:=1) (k := .i64) G.f0 rfl
 have wn2:IntKind.i64.wrap (((n+2:Nat):Int)-2)=(n:Int):=wrapN _ (by omega) (by omega)
 have wn1:IntKind.i64.wrap (((n+2:Nat):Int)-1)=((n+1:Nat):Int):=wrapN _ (by omega) (by omega)
 have wi:IntKind.i64.wrap ((i:Int)+((n+2:Nat):Int))=((i+(n+2):Nat):Int):=wrapN _ (by omega) (by omega)
 have wi2:IntKind.i64.wrap (((i+(n+2):Nat):Int)-2)=((i+n:Nat):Int):=wrapN _ (by omega) (by omega)
 have e1:bE 1 (.ref 0 0 0 N N) (VI ((i+n:Nat):Int)) (H2 us os)=some (.ptr 0 0 (i+n) 0):=by rw[bB Qo (by omega),Nat.zero_add]
 have e2:dV false 1 (.ptr 0 0 (i+n) 0) (H2 us os)=some (VI (u0:Int)):=Iw Qo Zu
 have wl:IntKind.i64.wrap ((left:Int)+(v1:Int))=((left+v1:Nat):Int):=wrapN _ (by omega) (by omega)
 have down:val 1000000000 gH / val 1000000000 vs<g→∃g',g=g'+1∧IntKind.i64.wrap ((g:Int)-1)=(g':Int)∧u2*1000000000+u1=g'*v1+(left+v1)∧val 1000000000 gH / val 1000000000 vs≤g':=by
  intro h
  have Z3:1≤g:=Nat.lt_of_le_of_lt (Nat.zero_le _) h
  obtain⟨g',rfl⟩:∃g',g=g'+1:=⟨g-1,by omega⟩
  refine⟨g',rfl,wrapN _ (by omega) (by omega),?_,by omega⟩
  rw[hh,Nat.add_mul]
  omega
 have hmu:∀g':Nat,left+v1<1000000000→1000000000-(g',left+v1).2<1000000000-(g,left).2:=fun g' h=>by
  show 1000000000-(left+v1)<1000000000-left
  omega
 have hle:∀g':Nat,g=g'+1→g'≤1000000000000000000:=fun g' h=>by
  omega
 have anD:left*1000000000+u0≤9223372036854775807:=Nat.le_trans (x18 hl lu0) (by decide)
 have aoR:left*1000000000≤9223372036854775807:=x17 hl
 have ws:IntKind.i64.wrap ((left:Int)*1000000000)=((left*1000000000:Nat):Int):=LD aoR
 have wa:IntKind.i64.wrap (((left*1000000000:Nat):Int)+(u0:Int))=((left*1000000000+u0:Nat):Int):=KQ anD
 obtain⟨s13,s14,s15,s17⟩:KC 13=ρ 13∧KC 14=ρ 14∧KC 15=ρ 15∧KC 17=ρ 17:=⟨by rw[zJ,g13],by rw[AN,g14],by rw[HL,g15],by rw[FH,g17]⟩
 by_cases hA:(1000000000:Int)≤(g:Int)
 ·have hA':=leT hA
  obtain⟨g',XS,wg,Q5,Kg⟩:=down (Nat.lt_of_lt_of_le qlt hA')
  by_cases hB:(1000000000:Int)≤((left+v1:Nat):Int)
  ·obtain⟨c1,c2⟩:=G.broken Q5 (leT hB)
   simp only[fC,zJ,AN,HL,FH,X6,k20,hA,hB,f1,wn1,wg,wl,VX,Nat.reduceEqDiff,Nat.reduceAdd]
   exact hQ _ g' Kg (G.TI Q5 (Nat.le_of_lt c1) c2) c1 rfl Gr s13 s14 s15 X4 s17
  ·simp only[fC,zJ,AN,HL,FH,X6,k20,hA,hB,f1,wn1,wg,wl,VX,Nat.reduceEqDiff,Nat.reduceAdd]
   refine⟨(g',left+v1),hmu g' (Vk hB),Q5,Kg,Vk hB,hle g' XS,?_⟩
   exact⟨rfl,rfl,Gr,X4⟩
 ·have hA':=Vk hA
  have hgv:g*v0≤999999999*999999999:=Nat.mul_le_mul (Nat.le_of_lt_succ hA') (Nat.le_of_lt_succ lv0)
  have wm:IntKind.i64.wrap ((g:Int)*(v0:Int))=((g*v0:Nat):Int):=TD (Nat.le_trans hgv (by decide))
  by_cases hT:((left*1000000000+u0:Nat):Int)<((g*v0:Nat):Int)
  ·obtain⟨g',XS,wg,Q5,Kg⟩:=down (G.too hh (ltC hT))
   by_cases hB:(1000000000:Int)≤((left+v1:Nat):Int)
   ·obtain⟨c1,c2⟩:=G.broken Q5 (leT hB)
    simp only[fC,zJ,AN,HL,FH,X6,k20,hA,hB,hT,f1,f0,e1,e2,wn1,wn2,wi,wi2,ws,wa,wm,wg,wl,VX,Nat.reduceEqDiff,Nat.reduceAdd]
    exact hQ _ g' Kg (G.TI Q5 (Nat.le_of_lt c1) c2) c1 rfl Gr s13 s14 s15 X4 s17
   ·simp only[fC,zJ,AN,HL,FH,X6,k20,hA,hB,hT,f1,f0,e1,e2,wn1,wn2,wi,wi2,ws,wa,wm,wg,wl,VX,Nat.reduceEqDiff,Nat.reduceAdd]
    refine⟨(g',left+v1),hmu g' (Vk hB),Q5,Kg,Vk hB,hle g' XS,?_⟩
    exact⟨rfl,rfl,Gr,X4⟩
  ·simp only[fC,zJ,AN,HL,FH,X6,k20,hA,hT,f0,e1,e2,wn2,wi,wi2,ws,wa,wm,VX,Nat.reduceEqDiff,Nat.reduceAdd]
   exact hQ _ g hq (G.TI hh (Nat.le_of_lt hA') (aoF hT)) hA' X6 Gr s13 s14 s15 X4 s17
theorem KM {CB UR vs:List Nat} {N m n v1 v0 A s:Nat} {ρ:cR} {Q:VQ} (hN:CB.length=N) (hm:m+(n+2)=N) (A3:N≤70368744177664) (Gn:∀d∈CB,d<1000000000) (C1:vs.length=n+2) (EL:∀d∈vs,d<1000000000) (f1:vs[n+1]? = some v1) (f0:vs[n]? = some v0) (jN:1≤v1)
  (hA:val 1000000000 CB=A) (AK:val 1000000000 (CB.drop m)<val 1000000000 vs) (iF:UR.length=m) (jQ:∀d∈UR,d<1000000000)
  (g12:ρ 12=VI s) (g13:ρ 13 = .ref 0 0 0 N N) (g14:ρ 14=gC vs) (g15:ρ 15=VI ((n+2:Nat):Int)) (g16:ρ 16 = .ref 1 0 0 m m) (g17:ρ 17=VI ((m:Int)-1))
  (hQ:∀(aW:cR) (us os:List Nat),aW 12=VI s→aW 13 = .ref 0 0 0 N N→aW 16 = .ref 1 0 0 m m→us.length=N→(∀d∈us,d<1000000000)→os.length=m→(∀d∈os,d<1000000000)→val 1000000000 us+val 1000000000 vs*val 1000000000 os=A→val 1000000000 us<val 1000000000 vs→Q (.exit 0) aW (H2 us os)) :
  VW ⟨true,false⟩ 0 (.loop gV) Q ρ (H2 CB UR):=by
 have hVb:=mZ EL
 rw[C1] at hVb
 refine aY (fun(t:Nat×List Nat×List Nat) aW H=>t.1≤m∧H=H2 t.2.1 t.2.2∧t.2.1.length=N∧(∀d∈t.2.1,d<1000000000)∧t.2.2.length=m∧(∀d∈t.2.2,d<1000000000)∧val 1000000000 (t.2.1.drop t.1)<val 1000000000 vs∧val 1000000000 t.2.1+1000000000^t.1*val 1000000000 vs*val 1000000000 (t.2.2.drop t.1)=A ∧
  aW 12=VI s∧aW 13 = .ref 0 0 0 N N∧aW 14=gC vs∧aW 15=VI ((n+2:Nat):Int)∧aW 16 = .ref 1 0 0 m m∧aW 17=VI ((t.1:Int)-1)) (fun t=>t.1) (m,CB,UR) ⟨Nat.le_refl _,rfl,hN,Gn,iF,jQ,AK,by rw[List.drop_of_length_le (by simp only;omega)];simpa[val] using hA,g12,g13,g14,g15,g16,g17⟩ ?_
 rintro⟨j,us,os⟩ KC H ⟨hj,rfl,Nb,Gn,iF,jQ,aX,hv,Gr,zJ,AN,HL,X4,FH⟩
 simp only at hj Nb Gn iF jQ aX hv FH
 by_cases hz:(0:Int)≤(j:Int)-1
 ·obtain⟨i,rfl⟩:∃i,j=i+1:=⟨j-1,by omega⟩
  have J0:((i+1:Nat):Int)-1=(i:Int):=by omega
  rw[J0] at FH hz
  obtain⟨P7,AP,L8,hsW,U5,Wc,wL⟩:=P9 (n:=n+2) Nb (by omega) Gn hVb aX
  generalize Uh:(us.drop i).take (n+2+1)=gH at *
  have Mu:∀d∈gH,d<1000000000:=fun d hd=>by rw[←Uh] at hd;exact Gn d (List.mem_of_mem_drop (List.mem_of_mem_take hd))
  obtain⟨u2,ZZ⟩:∃u2,us[i+(n+2)]? = some u2:=⟨_,List.getElem?_eq_getElem (by omega)⟩
  obtain⟨u1,X7⟩:∃u1,us[i+(n+1)]? = some u1:=⟨_,List.getElem?_eq_getElem (by omega)⟩
  obtain⟨u0,Zu⟩:∃u0,us[i+n]? = some u0:=⟨_,List.getElem?_eq_getElem (by omega)⟩
  have G:tG 1000000000 gH vs n u2 u1 u0 v1 v0:=⟨by decide,Mu,EL,L8,C1,by rw[wL _ (by omega)];exact ZZ,by rw[wL _ (by omega)];exact X7,by rw[wL _ (by omega)];exact Zu,f1,f0,jN,hsW⟩
  have lu2:=G.Z6
  have lu1:=G.Vb
  have lv1:=G.R7
  have qlt:=G.YL
  have E4:=G.E4
  have w1:IntKind.i64.wrap ((i:Int)+((n+2:Nat):Int))=((i+(n+2):Nat):Int):=wrapN _ (by omega) (by omega)
  have w2:IntKind.i64.wrap (((i+(n+2):Nat):Int)-1)=((i+(n+1):Nat):Int):=wrapN _ (by omega) (by omega)
  have wn1:IntKind.i64.wrap (((n+2:Nat):Int)-1)=((n+1:Nat):Int):=wrapN _ (by omega) (by omega)
  have ev1:bE 1 (gC vs) (VI ((n+1:Nat):Int)) (H2 us os)=some (.cO (tV v1) 0):=aM (f:=tV) (t := .op) (size:=1) (k := .i64) f1 rfl
  have e2:bE 1 (.ref 0 0 0 N N) (VI ((i+(n+2):Nat):Int)) (H2 us os)=some (.ptr 0 0 (i+(n+2)) 0):=by rw[bB Qo (by omega),Nat.zero_add]
  have e1:bE 1 (.ref 0 0 0 N N) (VI ((i+(n+1):Nat):Int)) (H2 us os)=some (.ptr 0 0 (i+(n+1)) 0):=by rw[bB Qo (by omega),Nat.zero_add]
  have l2:dV false 1 (.ptr 0 0 (i+(n+2)) 0) (H2 us os)=some (VI (u2:Int)):=Iw Qo ZZ
  have l1:dV false 1 (.ptr 0 0 (i+(n+1)) 0) (H2 us os)=some (VI (u1:Int)):=Iw Qo X7
  have amE:u2*1000000000+u1≤1000000000000000000:=x18 lu2 lu1
  have amT:u2*1000000000≤9223372036854775807:=x17 lu2
  have afG:u2*1000000000+u1≤9223372036854775807:=Nat.le_trans amE (by decide)
  have ws2:IntKind.i64.wrap ((u2:Int)*1000000000)=((u2*1000000000:Nat):Int):=LD amT
  have wa:IntKind.i64.wrap (((u2*1000000000:Nat):Int)+(u1:Int))=((u2*1000000000+u1:Nat):Int):=KQ afG
  have q1:=HI (u2*1000000000+u1) v1 afG jN
  have q2:=Ik (u2*1000000000+u1) v1 jN
  simp only[gV,Gr,zJ,AN,HL,X4,FH,hz,w1,w2,wn1,ev1,e1,e2,l1,l2,ws2,wa,q1,q2,VX,Nat.reduceEqDiff,Nat.reduceAdd]
  clear ws2 wa q1 q2 e1 e2 l1 l2 ev1 w1 w2 wn1
  have hh:=Nat.mod_add_div (u2*1000000000+u1) v1
  have hml:=Nat.mod_lt (u2*1000000000+u1) jN
  have hdl:(u2*1000000000+u1) / v1≤u2*1000000000+u1:=Nat.div_le_self _ _
  have JJ:val 1000000000 gH / val 1000000000 vs≤(u2*1000000000+u1) / v1:=by
   have t1:=(A7 (n:=n+1) (xs:=gH) Mu (by omega) (by rw[wL _ (by omega)];exact ZZ) (by rw[wL _ (by omega)];exact X7)).2
   have t2:=(xB (n:=n+1) EL C1 f1).1
   rw[Nat.le_div_iff_mul_le jN]
   have t3:val 1000000000 gH / val 1000000000 vs*(v1*1000000000^(n+1))≤val 1000000000 gH / val 1000000000 vs*val 1000000000 vs:=Nat.mul_le_mul_left _ t2
   have t4:=Nat.div_mul_le_self (val 1000000000 gH) (val 1000000000 vs)
   have t5:val 1000000000 gH / val 1000000000 vs*v1*1000000000^(n+1)<(u2*1000000000+u1+1)*1000000000^(n+1):=by rw[Nat.mul_assoc];omega
   have:=Nat.lt_of_mul_lt_mul_right t5
   omega
  generalize hQ1:(u2*1000000000+u1) / v1=g0 at *
  generalize hQ2:(u2*1000000000+u1) % v1=l0 at *
  refine Oo (i:=i) G Nb (by omega) A3 Zu zJ AN HL FH (by rfl) (by rfl) (by rw[Nat.mul_comm g0];omega) JJ (by omega) (by omega) ?_
  intro Rs g' hq Kg hgW r19 ZY Yl r14 r15 r16 r17
  have N4:Rs 12=VI s:=ZY.trans Gr
  have O4:Rs 13 = .ref 0 0 0 N N:=Yl.trans zJ
  have OT:Rs 14=gC vs:=r14.trans AN
  have PH:Rs 15=VI ((n+2:Nat):Int):=r15.trans HL
  have Y6:Rs 16 = .ref 1 0 0 m m:=r16.trans X4
  have YV:Rs 17=VI i:=r17.trans FH
  simp only[N4,O4,OT,PH,Y6,YV,r19,VX,Nat.reduceEqDiff,Nat.reduceAdd]
  have wJ:g'*val 1000000000 vs≤val 1000000000 gH+val 1000000000 vs:=by
   have:=Nat.mul_le_mul_right (val 1000000000 vs) Kg
   rw[Nat.add_mul,Nat.one_mul] at this
   have:=Nat.div_mul_le_self (val 1000000000 gH) (val 1000000000 vs)
   omega
  obtain⟨low,acO⟩:∃low,low=gH.take (n+2):=⟨_,rfl⟩
  have hll:low.length=n+2:=by rw[acO,List.length_take];omega
  have Xc:∀d∈low,d<1000000000:=fun d hd=>Mu d (by rw[acO] at hd;exact List.mem_of_mem_take hd)
  have hsg:gH=low++[u2]:=by
   have h1:gH[n+2]? = some u2:=by rw[wL _ (by omega)];exact ZZ
   have h2:=List.take_append_drop (n+2) gH
   have h3:=(List.getElem?_eq_some_iff.1 h1)
   rw[List.drop_eq_getElem_cons h3.1,h3.2,List.drop_of_length_le (by omega),←acO] at h2
   exact h2.symm
  have M9:val 1000000000 gH=val 1000000000 low+1000000000^(n+2)*u2:=by rw[hsg,qI,hll]
  have Fq:∀(lw:List Nat) (t:Nat),(us.take i).map tV++lw.map tV++VI (t:Int)::(us.drop (i+(n+2+1))).map tV=(us.take i++(lw++[t])++us.drop (i+(n+2+1))).map tV:=fun lw t=>by simp
  have M8:aQ (H2 us os) 0 0=some ((us.take i).map tV++low.map tV++VI (u2:Int)::(us.drop (i+(n+2+1))).map tV,1,true):=by
   rw[Fq,←hsg,←P7]
   rfl
  refine nK rfl ((Uz (o:=i) (n:=n+2) M8 (Nat.zero_le _) (by simpa using AP) hll C1 (by omega) A3 Xc EL hgW lu2).mono ?_)
  rintro r H' ⟨yT,c,rfl,A8,Wb,hc,hr,hE⟩
  have aqO:val 1000000000 low<1000000000^(n+2):=by have:=mZ Xc;rwa [hll] at this
  have apB:val 1000000000 yT<1000000000^(n+2):=by have:=mZ Wb;rwa [A8] at this
  have rows:∀(lw:List Nat) (t q:Nat),lw.length=n+2→(∀d∈lw,d<1000000000)→t<1000000000→q=val 1000000000 gH / val 1000000000 vs→val 1000000000 lw+1000000000^(n+2)*t=val 1000000000 gH % val 1000000000 vs →
    ((us.take i++(lw++[t])++us.drop (i+(n+2+1))).length=N∧(∀d∈us.take i++(lw++[t])++us.drop (i+(n+2+1)),d<1000000000)∧val 1000000000 ((us.take i++(lw++[t])++us.drop (i+(n+2+1))).drop i)<val 1000000000 vs∧val 1000000000 (us.take i++(lw++[t])++us.drop (i+(n+2+1)))+1000000000^i*val 1000000000 vs*val 1000000000 ((os.set i q).drop i)=A):=by
   intro lw t q hlw alL ht PT Ya
   have aaJ:val 1000000000 (lw++[t])=val 1000000000 gH % val 1000000000 vs:=by rw[qI,hlw];exact Ya
   have alG:(lw++[t]).length=n+3:=by rw[List.length_append,hlw];rfl
   have amF:∀d∈lw++[t],d<1000000000:=fun d hd=>by
    rcases List.mem_append.1 hd with h | h
    ·exact alL d h
    ·rw[List.mem_singleton.1 h];exact ht
   generalize lw++[t]=oT at *
   have YO:=Nat.mod_lt (val 1000000000 gH) E4
   have Rl:(us.take i++oT++us.drop (i+(n+2+1))).drop i=oT++us.drop (i+(n+2+1)):=by rw[List.append_assoc,List.drop_append,List.drop_of_length_le (by omega),AP];simp
   have QD:(us.take i++oT++us.drop (i+(n+2+1))).take i=us.take i:=by rw[List.append_assoc,List.take_append_of_le_length (by omega),List.take_of_length_le (by omega)]
   have NV:val 1000000000 ((us.take i++oT++us.drop (i+(n+2+1))).drop i)=val 1000000000 oT:=by rw[Rl,vK,Wc,Nat.mul_zero,Nat.add_zero]
   refine⟨by rw[List.length_append,List.length_append,AP,alG,List.length_drop];omega,fun d hd => ?_,by rw[NV,aaJ];exact YO,?_⟩
   ·rw[List.mem_append,List.mem_append] at hd
    rcases hd with(hd | hd) | hd
    ·exact Gn d (List.mem_of_mem_take hd)
    ·exact amF d hd
    ·exact Gn d (List.mem_of_mem_drop hd)
   ·have h1:=Nat.div_add_mod (val 1000000000 gH) (val 1000000000 vs)
    rw[←PT,←aaJ,Nat.mul_comm] at h1
    have h2:=nM (b:=1000000000) us i
    have h3:=nM (b:=1000000000) (us.take i++oT++us.drop (i+(n+2+1))) i
    rw[QD,AP,NV] at h3
    rw[AP,U5] at h2
    rw[set_drop (by omega),qD,h3]
    rw[h2,Nat.pow_succ] at hv
    exact Jl h1.symm hv
  have e3:∀(Dl:List Nat) (d:Nat),bE 1 (.ref 1 0 0 m m) (VI i) (H2 Dl os)=some (.ptr 1 0 i 0)∧cQ 0 1 (.ptr 1 0 i 0) (VI (d:Int)) (H2 Dl os)=some (H2 Dl (os.set i d)):=fun Dl d=>by
   refine⟨by rw[bB afI (by omega),Nat.zero_add],?_⟩
   rw[show VI (d:Int)=tV d from rfl,fD (f:=tV) (e:=1) afI (by omega) (Nat.zero_le _) rfl rfl]
   rfl
  have wi:IntKind.i64.wrap ((i:Int)-1)=(i:Int)-1:=wrap64 (by omega) (by omega)
  have hdm:=Nat.div_add_mod (val 1000000000 gH) (val 1000000000 vs)
  have YO:=Nat.mod_lt (val 1000000000 gH) E4
  generalize hPP:1000000000^(n+2)=P at *
  by_cases lQ:(u2:Int)-(c:Int)<0
  ·
   rw[decide_eq_true lQ] at hr
   subst hr
   have hgt:val 1000000000 gH<g'*val 1000000000 vs:=by
    have h1:P*(u2+1)≤P*c:=Nat.mul_le_mul_left _ (by omega)
    rw[Nat.mul_add,Nat.mul_one] at h1
    omega
   have PT:g'=val 1000000000 gH / val 1000000000 vs+1:=by
    rcases Nat.lt_or_ge (val 1000000000 gH / val 1000000000 vs) g' with h | h
    ·omega
    ·have h1:g'*val 1000000000 vs≤val 1000000000 gH / val 1000000000 vs*val 1000000000 vs:=Nat.mul_le_mul_right _ h
     have:=Nat.div_mul_le_self (val 1000000000 gH) (val 1000000000 vs)
     omega
   have Z3:1≤g':=by rw[PT];exact Nat.le_add_left 1 _
   have wg:IntKind.i64.wrap ((g':Int)-1)=((g'-1:Nat):Int):=wrapN _ (by omega) (by omega)
   simp only[N4,O4,OT,PH,Y6,YV,r19,wg,VX,Nat.reduceEqDiff,Nat.reduceAdd]
   have M7:aQ ((H2 us os).set 0 (.row 0 ((us.take i).map tV++yT.map tV++VI ((u2:Int)-(c:Int))::(us.drop (i+(n+2+1))).map tV) 1 true)) 0 0=some ((us.take i).map tV++yT.map tV++VI ((u2:Int)-(c:Int))::(us.drop (i+(n+2+1))).map tV,1,true):=rfl
   refine nK rfl ((SZ (o:=i) (n:=n+2) M7 (Nat.zero_le _) (by simpa using AP) A8 C1 (by omega) A3 Wb EL (by omega) (by omega)).mono ?_)
   rintro r H' ⟨QA,c2,rfl,Gx,hd2,Yh,hE2⟩
   rw[hPP] at hE2
   have acX:val 1000000000 QA<P:=by have:=mZ hd2;rwa [Gx,hPP] at this
   obtain⟨hy,hZ⟩:(u2:Int)-(c:Int)+(c2:Int)=0∧val 1000000000 QA=val 1000000000 gH % val 1000000000 vs:=by
    refine YQ (P:=P) ?_ acX (by omega)
    have i1:(P:Int)*((u2:Int)-(c:Int)+(c2:Int))=(P:Int)*u2-(P:Int)*c+(P:Int)*c2:=by rw[Int.mul_add,Int.mul_sub]
    have i2:((P*u2:Nat):Int)=(P:Int)*u2:=by simp
    have i3:((P*c:Nat):Int)=(P:Int)*c:=by simp
    have i4:((P*c2:Nat):Int)=(P:Int)*c2:=by simp
    rw[i1,←i2,←i3,←i4]
    have i5:g'*val 1000000000 vs=val 1000000000 vs*(val 1000000000 gH / val 1000000000 vs)+val 1000000000 vs:=by rw[PT,Nat.add_mul,Nat.one_mul,Nat.mul_comm (val 1000000000 vs)]
    omega
   have Fy:((H2 us os).set 0 (.row 0 ((us.take i).map tV++yT.map tV++VI ((u2:Int)-(c:Int))::(us.drop (i+(n+2+1))).map tV) 1 true)).set 0 (.row 0 ((us.take i).map tV++QA.map tV++VI ((u2:Int)-(c:Int)+(c2:Int))::(us.drop (i+(n+2+1))).map tV) 1 true)=H2 (us.take i++(QA++[0])++us.drop (i+(n+2+1))) os:=by
    rw[hy]
    rw[show (0:Int)=((0:Nat):Int) from rfl,Fq]
    rfl
   rw[Fy]
   obtain⟨x1,x2⟩:=e3 (us.take i++(QA++[0])++us.drop (i+(n+2+1))) (g'-1)
   obtain⟨y1,y2,y3,y4⟩:=rows QA 0 (g'-1) Gx hd2 (by decide) (by rw[PT,Nat.add_sub_cancel]) (by rw[Nat.mul_zero,Nat.add_zero];exact hZ)
   simp only[N4,O4,OT,PH,Y6,YV,x1,x2,wi,VX,Nat.reduceEqDiff,Nat.reduceAdd]
   refine⟨(i,us.take i++(QA++[0])++us.drop (i+(n+2+1)),os.set i (g'-1)),by simp only;omega,by omega,rfl,y1,y2,by rw[List.length_set];exact iF,kB jQ (by omega),y3,y4,?_⟩
   try (repeat' apply And.intro)<;>first | rfl | trivial
  ·rw[decide_eq_false lQ] at hr
   subst hr
   obtain⟨t',YA⟩:∃t':Nat,(u2:Int)-(c:Int)=(t':Int):=⟨u2-c,by omega⟩
   have hP1:P*u2=P*c+P*t':=by rw[←Nat.mul_add];congr 1;omega
   have Cx:g'*val 1000000000 vs≤val 1000000000 gH:=by omega
   have PT:g'=val 1000000000 gH / val 1000000000 vs:=by
    have:=(Nat.le_div_iff_mul_le E4).2 Cx
    omega
   have Fy:(H2 us os).set 0 (.row 0 ((us.take i).map tV++yT.map tV++VI ((u2:Int)-(c:Int))::(us.drop (i+(n+2+1))).map tV) 1 true)=H2 (us.take i++(yT++[t'])++us.drop (i+(n+2+1))) os:=by
    rw[YA,Fq]
    rfl
   rw[Fy]
   obtain⟨x1,x2⟩:=e3 (us.take i++(yT++[t'])++us.drop (i+(n+2+1))) g'
   have Ya:val 1000000000 yT+P*t'=val 1000000000 gH % val 1000000000 vs:=by
    rw[←PT,Nat.mul_comm] at hdm
    omega
   obtain⟨y1,y2,y3,y4⟩:=rows yT t' g' A8 Wb (by omega) PT Ya
   simp only[N4,O4,OT,PH,Y6,YV,r19,x1,x2,wi,VX,Nat.reduceEqDiff,Nat.reduceAdd]
   refine⟨(i,us.take i++(yT++[t'])++us.drop (i+(n+2+1)),os.set i g'),by simp only;omega,by omega,rfl,y1,y2,by rw[List.length_set];exact iF,kB jQ (by omega),y3,y4,?_⟩
   try (repeat' apply And.intro)<;>first | rfl | trivial
 ·have Qv:j=0:=by omega
  subst Qv
  rw[Nat.pow_zero,Nat.one_mul,List.drop_zero] at hv
  rw[List.drop_zero] at aX
  simp only[gV,Gr,zJ,AN,HL,X4,FH,hz,VX,Nat.reduceEqDiff,Nat.reduceAdd]
  exact hQ _ us os Gr zJ X4 Nb Gn iF jQ hv aX
end Go.PM
namespace Go.PM
theorem LB {ds:List Nat} {H:aA}:eW 1 (gC ds) H=some (ds.map tV):=by
 have:((ds.map tV).all fun x=>(aB x).length == 1&&(aB x).all cH)=true:=by
  rw[List.all_eq_true]
  intro x hx
  obtain⟨d,_,rfl⟩:=List.mem_map.1 hx
  rfl
 simp only[eW,gC,bK,this,if_true]
theorem Ch (n:Nat) {H:aA}:eW 1 (bM n) H=some ((aC 1000000000 n).map tV):=LB
theorem FK {a n:Nat} (hn:(aC 1000000000 a).length=n+1):∃d,(aC 1000000000 a)[n]? = some d∧d≠0∧d<1000000000:=by
 obtain⟨d,hd⟩:∃d,(aC 1000000000 a)[n]? = some d:=⟨_,List.getElem?_eq_getElem (by omega)⟩
 refine⟨d,hd,fun h0 => ?_,eG (by decide) a d (List.mem_of_getElem? hd)⟩
 have:=Ks (b:=1000000000) (by decide) a
 rw[List.getLast?_eq_getElem?,hn,Nat.add_sub_cancel,hd,h0] at this
 exact this rfl
theorem Ug {a d:Nat} (h:aC 1000000000 a=[d]):a=d∧0<d∧d<1000000000:=by
 have h1:=bW (b:=1000000000) (by decide) a
 rw[h,val_one] at h1
 obtain⟨e,h2,h3,h4⟩:=FK (a:=a) (n:=0) (by rw[h];rfl)
 rw[h] at h2
 cases h2
 exact⟨h1.symm,by omega,h4⟩
theorem aaL {a:Nat} (h:(aC 1000000000 a).length≤2):a<1000000000000000000:=by
 have h1:=fO (b:=1000000000) (by decide) a
 have h2:1000000000^(aC 1000000000 a).length≤1000000000^2:=Nat.pow_le_pow_right (by decide) h
 omega
theorem Xq {H:aA} {u v:VV} (hu:aR u=true) (hv:aR v=true):fz depth H (.eO [u,v])=some (.eO [u,v]):=aH (by simp only[aR,aJ,hu,hv,Bool.and_self])
theorem aeY {X N:Nat} (h:(aC 1000000000 X).length≤N):Km 0 1 (.ref 0 0 0 N N) (bM X) [.row 0 ((List.replicate N 0).map tV) 1 true]=some (VI ((aC 1000000000 X).length:Int),[.row 0 ((aC 1000000000 X++List.replicate (N-(aC 1000000000 X).length) 0).map tV) 1 true]):=by
 have e:((aC 1000000000 X).map tV).take N=(aC 1000000000 X).map tV:=List.take_of_length_le (by simpa using h)
 simp only[Km,bM,LB,bT,e,List.length_map,List.length_replicate,Nat.zero_add]
 rw[if_pos ⟨trivial,Nat.le_refl _,h⟩]
 simp only[cL,List.set_cons_zero,List.take_zero,List.nil_append,Nat.zero_add,List.length_map,List.map_append,List.map_replicate,List.drop_replicate]
theorem rK (a b:Nat) (hb:b≠0) (ha:(aC 1000000000 a).length<17592186044416) (sU:(aC 1000000000 b).length<17592186044416):TC 214 [bM a,bM b] (.eO [bM (a / b),bM (a % b)]):=by
 refine TC.walk ⟨true,false⟩ E1 rfl (Nat.le_of_ble_eq_true rfl) (by simp[aJ,bU]) (by simp[gJ,pJ,lF]) ?_
 have s1:=AF a (by omega)
 have s2:=AF b (by omega)
 have fin:∀ {H:aA},fz depth H (.eO [bM (a / b),bM (a % b)])=some (.eO [bM (a / b),bM (a % b)]):=Xq (bU _) (bU _)
 by_cases Yj:(aC 1000000000 a).length≤2∧(aC 1000000000 b).length≤2
 ·rw[if_pos Yj.1] at s1
  rw[if_pos Yj.2] at s2
  have la:=aaL Yj.1
  have q1:=HI a b (by omega) (by omega)
  have q2:=Ik a b (by omega)
  have hdl:a / b≤a:=Nat.div_le_self _ _
  have hml:a % b≤a:=Nat.mod_le _ _
  have n1:TC 161 [VI ((a / b:Nat):Int)] (bM (a / b)):=nZ ((a / b:Nat):Int) (Int.ofNat_le.2 (show a / b≤9223372036854775807 from Nat.le_trans hdl (by omega)))
  have n2:TC 161 [VI ((a % b:Nat):Int)] (bM (a % b)):=nZ ((a % b:Nat):Int) (Int.ofNat_le.2 (show a % b≤9223372036854775807 from Nat.le_trans hml (by omega)))
  simp only[dZ,cW,s1,s2,q1,q2,n1,n2,VX,Nat.reduceEqDiff,Nat.reduceAdd]
  exact fin
 have c1:=sD a b (by omega) (by omega)
 obtain⟨x1,t1,JP⟩:∃(x:Int) (t:Bool),(if (aC 1000000000 a).length≤2 then VV.eO [VI a,VB true] else .eO [VI 0,VB false]) = .eO [VI x,VB t]:=by split<;>exact⟨_,_,rfl⟩
 have hs2:∃(x:Int) (t:Bool),(if (aC 1000000000 b).length≤2 then VV.eO [VI b,VB true] else .eO [VI 0,VB false]) = .eO [VI x,VB t]∧(t1=true→t=false):=by
  by_cases h:(aC 1000000000 b).length≤2
  ·rw[if_pos h]
   refine⟨_,_,rfl,fun ht => ?_⟩
   rw[if_neg (fun h'=>Yj ⟨h',h⟩)] at JP
   injection JP with JP
   injection JP with _ JP
   injection JP with JP _
   injection JP with JP
   injection JP with JP
   subst ht
   cases JP
  ·rw[if_neg h]
   exact⟨_,_,rfl,fun _=>rfl⟩
 obtain⟨x2,t2,hs2,ht⟩:=hs2
 rw[JP] at s1
 rw[hs2] at s2
 by_cases DO:eE a b<0
 ·have aX:a<b:=tY.1 DO
  have e0:∀lr,rC lr [.int .i64 0] 0 [] []=some (.ref 0 0 0 0 0,[.row 0 [] 1 true]):=fun lr=>oC (H:=[]) rfl
  have e1:∀lr,rC lr [.int .i64 0] 0 [] [.row 0 [] 1 true]=some (.ref 1 0 0 0 0,[.row 0 [] 1 true,.row 0 [] 1 true]):=fun lr=>oC (H:=[.row 0 [] 1 true]) rfl
  rw[Nat.div_eq_of_lt aX,Nat.mod_eq_of_lt aX]
  have hz:fz (6+1) [.row 0 [] 1 true,.row 0 [] 1 true] (.ref 0 0 0 0 0)=some (bM 0):=by rw[E2];rfl
  by_cases XZ:a=0
  ·subst XZ
   have ap:gE 0 1 8 (.ref 1 0 0 0 0) ((aC 1000000000 0).map tV) [.row 0 [] 1 true,.row 0 [] 1 true]=some (.ref 1 0 0 0 0,[.row 0 [] 1 true,.row 0 [] 1 true]):=by
    rw[bR];rfl
   have E3:fz (6+1) [.row 0 [] 1 true,.row 0 [] 1 true] (.ref 1 0 0 0 0)=some (bM 0):=by rw[E2];rfl
   cases t1 with
   |
    false =>
    simp only[dZ,cW,s1,s2,c1,DO,e0,e1,ap,Ch,VX,Nat.reduceEqDiff,Nat.reduceAdd]
    exact bG (d:=6) hz E3
   |
    true =>
    rw[ht rfl] at s2
    simp only[dZ,cW,s1,s2,c1,DO,e0,e1,ap,Ch,VX,Nat.reduceEqDiff,Nat.reduceAdd]
    exact bG (d:=6) hz E3
  ·have hln:(aC 1000000000 a).length≠0:=fun h=>XZ ((jW (b:=1000000000) (by decide)).1 (List.length_eq_zero_iff.1 h))
   have ap:gE 0 1 8 (.ref 1 0 0 0 0) ((aC 1000000000 a).map tV) [.row 0 [] 1 true,.row 0 [] 1 true]=some (.ref 1 1 0 (aC 1000000000 a).length (aC 1000000000 a).length,[.row 0 [] 1 true,.row 1 ((aC 1000000000 a).map tV) 1 true]):=by
    have hr:aQ [.row 0 [] 1 true,.row 0 [] 1 true] 1 0=some ([],1,true):=rfl
    simp only[gE,hr,List.length_map,Nat.zero_add,List.length_nil,Nat.add_zero]
    rw[if_pos ⟨by decide,by decide⟩,if_pos ⟨trivial,Nat.zero_le _,Nat.le_refl _⟩,if_neg (by omega),if_pos (by omega)]
    simp
   have Cw:fz (6+1) [.row 0 [] 1 true,.row 1 ((aC 1000000000 a).map tV) 1 true] (.ref 0 0 0 0 0)=some (bM 0):=by rw[E2];rfl
   have E3:fz (6+1) [.row 0 [] 1 true,.row 1 ((aC 1000000000 a).map tV) 1 true] (.ref 1 1 0 (aC 1000000000 a).length (aC 1000000000 a).length)=some (bM a):=by
    have:aR (.ref 1 1 0 (aC 1000000000 a).length (aC 1000000000 a).length)=false:=rfl
    have hr:aQ [.row 0 [] 1 true,.row 1 ((aC 1000000000 a).map tV) 1 true] 1 1=some ((aC 1000000000 a).map tV,1,true):=rfl
    unfold fz
    simp only[this,hr,Bool.false_eq_true,if_false]
    rw[if_pos ⟨by simp,Nat.le_refl _⟩,List.drop_zero,List.take_of_length_le (by simp),mapM_pure (n:=5) (dQ fun _=>rfl)]
    rfl
   cases t1 with
   |
    false =>
    simp only[dZ,cW,s1,s2,c1,DO,e0,e1,ap,Ch,VX,Nat.reduceEqDiff,Nat.reduceAdd]
    exact bG (d:=6) Cw E3
   |
    true =>
    rw[ht rfl] at s2
    simp only[dZ,cW,s1,s2,c1,DO,e0,e1,ap,Ch,VX,Nat.reduceEqDiff,Nat.reduceAdd]
    exact bG (d:=6) Cw E3
 have Cx:b≤a:=by have := @tY a b;omega
 have hbn:(aC 1000000000 b).length≠0:=fun h=>hb ((jW (b:=1000000000) (by decide)).1 (List.length_eq_zero_iff.1 h))
 by_cases h1:(((aC 1000000000 b).length:Nat):Int)=1
 ·obtain⟨d,hd⟩:∃d,aC 1000000000 b=[d]:=List.length_eq_one_iff.1 (by omega)
  obtain⟨X9,Br,hdT⟩:=Ug hd
  have e1:bE 1 (bM b) (VI 0) []=some (.cO (tV d) 0):=by
   rw[bM,hd]
   exact aM (f:=tV) (t := .op) (H:=[]) (size:=1) (k := .i64) (xs:=[d]) (i:=0) rfl rfl
  have c2:=uY a d Br hdT (by omega)
  rw[←X9] at c2
  have QC:a % b≤b:=Nat.le_of_lt (Nat.mod_lt _ (by omega))
  have n2:TC 161 [VI ((a % b:Nat):Int)] (bM (a % b)):=nZ ((a % b:Nat):Int) (Int.ofNat_le.2 (show a % b≤9223372036854775807 from Nat.le_trans QC (by omega)))
  have e2:tV d=tV b:=by rw[X9]
  rw[e2] at e1
  cases t1 with
  |
   false =>
   simp only[dZ,cW,s1,s2,c1,DO,cK,h1,e1,c2,n2,VX,Nat.reduceEqDiff,Nat.reduceAdd]
   exact fin
  |
   true =>
   rw[ht rfl] at s2
   simp only[dZ,cW,s1,s2,c1,DO,cK,h1,e1,c2,n2,VX,Nat.reduceEqDiff,Nat.reduceAdd]
   exact fin
 obtain⟨n,hn⟩:∃n,(aC 1000000000 b).length=n+2:=⟨(aC 1000000000 b).length-2,by omega⟩
 obtain⟨t,htd,ht0,htT⟩:=FK (a:=b) (n:=n+1) hn
 obtain⟨s,hs⟩:∃s,s=1000000000 / (t+1):=⟨_,rfl⟩
 have N5:1≤s:=by rw[hs];exact(Nat.le_div_iff_mul_le (by omega)).2 (by omega)
 have hsT:s<1000000000:=by rw[hs];exact Nat.div_lt_self (by decide) (by omega)
 have EZ:(t+1)*s≤1000000000:=by rw[hs];exact Nat.mul_div_le _ _
 have hla:=dG (b:=1000000000) (by decide) Cx
 have w0:IntKind.i64.wrap (((n+2:Nat):Int)-1)=((n+1:Nat):Int):=wrapN _ (by omega) (by omega)
 have w1:IntKind.i64.wrap ((t:Int)+1)=((t+1:Nat):Int):=wrapN _ (by omega) (by omega)
 have q0:cX .quo (.int .i64 1000000000) (.int .i64 ((t+1:Nat):Int))=some (.int .i64 (s:Int)):=by rw[hs];exact HI 1000000000 (t+1) (by decide) (by omega)
 have et:∀H,bE 1 (bM b) (VI ((n+1:Nat):Int)) H=some (.cO (tV t) 0):=fun H=>aM (f:=tV) (t := .op) (size:=1) (k := .i64) htd rfl
 have Ua:¬(((n+2:Nat):Int)=1):=by omega
 obtain⟨N,hN⟩:∃N,N=(aC 1000000000 a).length+1:=⟨_,rfl⟩
 have wN:IntKind.i64.wrap (((aC 1000000000 a).length:Int)+1)=(N:Int):=wrapN _ (by omega) (by omega)
 have mkN:=MS N (by omega)
 have c3:=vH a s N5 hsT ha
 have c4:=vH b s N5 hsT sU
 have adO:b*s<1000000000^(n+2):=by
  have h2:=(xB (n:=n+1) (eG (b:=1000000000) (by decide) b) hn htd).2
  rw[bW (by decide)] at h2
  have h3:b*s<(t+1)*1000000000^(n+1)*s:=Nat.mul_lt_mul_of_pos_right h2 N5
  have h4:(t+1)*1000000000^(n+1)*s=(t+1)*s*1000000000^(n+1):=by grind
  have h9:(t+1)*s*1000000000^(n+1)≤1000000000*1000000000^(n+1):=Nat.mul_le_mul_right _ EZ
  have h10:1000000000*1000000000^(n+1)=1000000000^(n+2):=by rw[Nat.pow_succ 1000000000 (n+1)];exact Nat.mul_comm _ _
  rw[h4] at h3
  rw[h10] at h9
  exact Nat.lt_of_lt_of_le h3 h9
 have ZX:(aC 1000000000 (b*s)).length=n+2:=by
  have h2:=kK (b:=1000000000) (by decide) adO
  have h3:b≤b*s:=Nat.le_mul_of_pos_right b N5
  have h4:=dG (b:=1000000000) (by decide) h3
  omega
 have hAl:(aC 1000000000 (a*s)).length≤N:=by
  have h2:=Mi (b:=1000000000) (by decide) a s
  have h3:(aC 1000000000 s).length≤1:=kK (by decide) (by rw[Nat.pow_one];exact hsT)
  omega
 have cp:=aeY hAl
 obtain⟨m,hm⟩:∃m,m+(n+2)=N:=⟨N-(n+2),by omega⟩
 have wm:IntKind.i64.wrap ((N:Int)-((n+2:Nat):Int))=(m:Int):=wrapN _ (by omega) (by omega)
 have wm1:IntKind.i64.wrap ((m:Int)-1)=(m:Int)-1:=wrap64 (by omega) (by omega)
 obtain⟨CB,Zh⟩:∃CB,CB=aC 1000000000 (a*s)++List.replicate (N-(aC 1000000000 (a*s)).length) 0:=⟨_,rfl⟩
 rw[←Zh] at cp
 have mkm:yW [.int .i64 0] 8 (VI (m:Int)) (VI (m:Int)) [.row 0 (CB.map tV) 1 true]=some (.ref 1 0 0 m m,[.row 0 (CB.map tV) 1 true]++[.row 0 ((List.replicate m 0).map tV) 1 true]):=uD (f:=tV) (x:=0) (H:=[.row 0 (CB.map tV) 1 true]) rfl (by omega) (by omega)
 have lN:∀K,aQ K 0 0=some (CB.map tV,1,true)→oB (.ref 0 0 0 N N) K=some (VI (N:Int)):=fun K h=>gK h
 have l1:=lN [.row 0 (CB.map tV) 1 true] rfl
 have l2:=lN (H2 CB (List.replicate m 0)) rfl
 have adH:CB.length=N:=by rw[Zh,List.length_append,List.length_replicate];omega
 have afN:∀d∈CB,d<1000000000:=fun d hd=>by
  rw[Zh] at hd
  rcases List.mem_append.1 hd with h | h
  ·exact eG (by decide) _ d h
  ·rw[List.eq_of_mem_replicate h];decide
 have aaS:val 1000000000 CB=a*s:=by rw[Zh,vK,oW,Nat.mul_zero,Nat.add_zero,bW (by decide)]
 generalize M9:aC 1000000000 (b*s)=vs at *
 have EL:∀d∈vs,d<1000000000:=by rw[←M9];exact eG (by decide) _
 have J7:val 1000000000 vs=b*s:=by rw[←M9];exact bW (by decide) _
 have lV:∀H,oB (bM (b*s)) H=some (VI ((n+2:Nat):Int)):=fun H=>by rw[cK,M9,ZX]
 obtain⟨v1,f1⟩:∃v1,vs[n+1]? = some v1:=⟨_,List.getElem?_eq_getElem (by omega)⟩
 obtain⟨v0,f0⟩:∃v0,vs[n]? = some v0:=⟨_,List.getElem?_eq_getElem (by omega)⟩
 have ZV:1≤v1:=by
  obtain⟨d,hd,Br,_⟩:=FK (a:=b*s) (n:=n+1) (by rw[M9];exact ZX)
  rw[M9,f1] at hd
  cases hd
  omega
 have AK:val 1000000000 (CB.drop m)<val 1000000000 vs:=by
  have h2:=nM (b:=1000000000) CB m
  rw[List.length_take,adH,Nat.min_eq_left (by omega),aaS] at h2
  have h3:a<b*1000000000^m:=by
   have y1:=fO (b:=1000000000) (by decide) a
   have y2:=HF (b:=1000000000) (by decide) hb
   rw[hn] at y2
   have y3:1000000000^(n+2-1)*1000000000^m≤b*1000000000^m:=Nat.mul_le_mul_right _ y2
   rw[←Nat.pow_add,show n+2-1+m=(aC 1000000000 a).length by omega] at y3
   exact Nat.lt_of_lt_of_le y1 y3
  have h4:a*s<b*1000000000^m*s:=Nat.mul_lt_mul_of_pos_right h3 N5
  have h5:b*1000000000^m*s=1000000000^m*(b*s):=by grind
  rw[J7]
  have h6:1000000000^m*val 1000000000 (CB.drop m)<1000000000^m*(b*s):=by
   rw[←h5]
   exact Nat.lt_of_le_of_lt (by rw[h2];exact Nat.le_add_left _ _) h4
  exact Nat.lt_of_mul_lt_mul_left h6
 have body:VW ⟨true,false⟩ 0 (.loop gV)=VW ⟨true,false⟩ 0 (.loop gV):=rfl
 have tail:∀(us os:List Nat),us.length=N→(∀d∈us,d<1000000000)→os.length=m→(∀d∈os,d<1000000000)→val 1000000000 us+val 1000000000 vs*val 1000000000 os=a*s→val 1000000000 us<val 1000000000 vs →
   (∀lo K,dE 211 [.ref 0 0 0 N N] lo (H2 us os) K=K (bM (a % b*s)) (cJ (H2 us os) [0])) ∧
   (∀lo K,dE 211 [.ref 1 0 0 m m] lo (cJ (H2 us os) [0]) K=K (bM (a / b)) (cJ (cJ (H2 us os) [0]) [1]))∧TC 237 [bM (a % b*s),VI (s:Int)] (.eO [bM (a % b),VI ((a % b*s % s:Nat):Int)]):=by
  intro us os Nb Gn iF jQ hv aX
  rw[J7] at hv aX
  have hq:val 1000000000 os=a / b:=by
   rw[←Nat.mul_div_mul_right a b N5,←hv,Nat.add_mul_div_left _ _ (Nat.lt_of_le_of_lt (Nat.zero_le _) aX),Nat.div_eq_of_lt aX,Nat.zero_add]
  have hr:val 1000000000 us=a % b*s:=by
   rw[←Nat.mul_mod_mul_right,←hv,Nat.add_mul_mod_self_left,Nat.mod_eq_of_lt aX]
  refine⟨fun lo K => ?_,fun lo K => ?_,?_⟩
  ·have h:=pX us Gn (by omega)
   rw[hr] at h
   exact TC.Yp (f:=tV) h Qo Nb.symm (Nat.le_refl _) Dt (fun _=>rfl) rfl rfl lo K
  ·have h:=pX os jQ (by omega)
   rw[hq] at h
   have Fq:aQ (cJ (H2 us os) [0]) 1 0=some (os.map tV,1,true):=rfl
   exact TC.Yp (f:=tV) h Fq iF.symm (Nat.le_refl _) Dt (fun _=>rfl) rfl rfl lo K
  ·have h:=uY (a % b*s) s N5 hsT (by
    have h2:=dG (b:=1000000000) (by decide) (Nat.le_trans (Nat.le_of_lt aX) (show b*s≤b*s from Nat.le_refl _))
    rw[hr,M9] at h2
    omega)
   rwa [Nat.mul_div_cancel _ N5] at h
 clear body
 have nV:bM (b*s)=gC vs:=by rw[bM,M9]
 cases t1 with
 |
  false =>
  simp only[dZ,cW,s1,s2,c1,DO,cK,hn,Ua,w0,w1,q0,et,wN,mkN,c3,c4,cp,lV,l1,l2,wm,wm1,mkm,List.cons_append,List.nil_append,VX,Nat.reduceEqDiff,Nat.reduceAdd]
  refine KM (CB:=CB) (UR:=List.replicate m 0) (vs:=vs) (N:=N) (m:=m) (n:=n) (A:=a*s) (s:=s) adH hm (by omega) afN ZX EL f1 f0 ZV aaS AK (by simp) (xU (by decide) _) (by rfl) (by rfl) (by simp only[VX,Nat.reduceEqDiff,Nat.reduceAdd];exact nV) (by rfl) (by rfl) (by rfl) ?_
  intro uE us os ZY Yl r16 Nb Gn iF jQ hv aX
  obtain⟨x1,x2,x3⟩:=tail us os Nb Gn iF jQ hv aX
  simp only[ZY,Yl,r16,x1,x2,x3,VX,Nat.reduceEqDiff,Nat.reduceAdd]
  exact fin
 |
  true =>
  rw[ht rfl] at s2
  simp only[dZ,cW,s1,s2,c1,DO,cK,hn,Ua,w0,w1,q0,et,wN,mkN,c3,c4,cp,lV,l1,l2,wm,wm1,mkm,List.cons_append,List.nil_append,VX,Nat.reduceEqDiff,Nat.reduceAdd]
  refine KM (CB:=CB) (UR:=List.replicate m 0) (vs:=vs) (N:=N) (m:=m) (n:=n) (A:=a*s) (s:=s) adH hm (by omega) afN ZX EL f1 f0 ZV aaS AK (by simp) (xU (by decide) _) (by rfl) (by rfl) (by simp only[VX,Nat.reduceEqDiff,Nat.reduceAdd];exact nV) (by rfl) (by rfl) (by rfl) ?_
  intro uE us os ZY Yl r16 Nb Gn iF jQ hv aX
  obtain⟨x1,x2,x3⟩:=tail us os Nb Gn iF jQ hv aX
  simp only[ZY,Yl,r16,x1,x2,x3,VX,Nat.reduceEqDiff,Nat.reduceAdd]
  exact fin
end Go.PM
namespace Go.PM
theorem wF {n:Nat}:(0:Int)<((aC 1000000000 n).length:Int)↔n≠0:=by
 constructor
 ·intro h h0
  subst h0
  rw[bR] at h
  simp at h
 ·intro h
  have:=(jW (b:=1000000000) (by decide) (n:=n))
  have h2:aC 1000000000 n≠[]:=fun hx=>h (this.1 hx)
  have:=List.length_pos_iff.2 h2
  omega
theorem mM {n:Nat} (h:bl n≤4398046511104):(aC 1000000000 n).length<17592186044416:=by
 have:=ZP n
 omega
theorem CQ (a b:Nat) (ha:(aC 1000000000 a).length<17592186044416) (hb:(aC 1000000000 b).length<17592186044416):TC 213 [bM a,bM b] (bM (Nat.gcd a b)):=by
 refine TC.walk ⟨true,false⟩ Ka rfl (Nat.le_of_ble_eq_true rfl) (by simp[aJ,bU]) (lF _) ?_
 simp only[GX,CF,VX,Nat.reduceEqDiff,Nat.reduceAdd]
 refine aY (fun(t:Nat×Nat) ρ H=>H=[]∧Nat.gcd t.1 t.2=Nat.gcd a b∧(aC 1000000000 t.1).length<17592186044416∧(aC 1000000000 t.2).length<17592186044416∧ρ 0=bM t.1∧ρ 1=bM t.2) (fun t=>t.2) (a,b) ⟨rfl,rfl,ha,hb,rfl,rfl⟩ ?_
 rintro⟨x,y⟩ ρ H ⟨rfl,hg,hx,hy,g0,g1⟩
 simp only at hg hx hy g0 g1
 by_cases YT:y=0
 ·subst YT
  have hl:¬(0:Int)<((aC 1000000000 0).length:Int):=by rw[wF];omega
  rw[Nat.gcd_zero_right] at hg
  simp only[vZ,g0,g1,cK,hl,VX,Nat.reduceEqDiff,Nat.reduceAdd]
  rw[hg]
  exact aH (bU _)
 ·have hl:(0:Int)<((aC 1000000000 y).length:Int):=wF.2 YT
  have c3:=rK x y YT hx hy
  have hm:=Nat.mod_lt x (show 0<y by omega)
  simp only[vZ,g0,g1,cK,hl,c3,VX,Nat.reduceEqDiff,Nat.reduceAdd]
  refine⟨(y,x % y),hm,?_,hy,?_,rfl,rfl⟩
  ·simp only
   rw[←hg,Nat.gcd_comm x y,Nat.gcd_rec y x,Nat.gcd_comm]
  ·simp only
   have:=dG (b:=1000000000) (by decide) (Nat.le_of_lt hm)
   omega
def cF (q:Rat):VV := .agg [VB (decide (q.num<0)),bM q.num.natAbs,bM q.den]
theorem uG (q:Rat):aR (cF q)=true:=by simp[cF,aR,aJ,bU,lR]
theorem yY (q:Rat):gJ (cF q)=true:=by simp[cF,gJ,pJ,lF,lR]
theorem Mz {q:Rat} {neg:Bool} {t b:Nat} (h0:q.num<0↔neg=true) (h1:q.num.natAbs=t) (h2:q.den=b):cF q = .agg [VB neg,bM t,bM b]:=by
 subst h1 h2
 unfold cF
 congr 4
 cases neg<;>simp_all
theorem aK (n:Nat):cH (bM n)=true:=rfl
theorem aT (n:Nat):isAny (bM n)=false:=rfl
theorem aP (n:Nat):aB (bM n)=[bM n]:=rfl
theorem dF (q:Rat):isAny (cF q)=false:=rfl
theorem bP (q:Rat):aB (cF q)=[VB (decide (q.num<0)),bM q.num.natAbs,bM q.den]:=rfl
theorem gT (q:Rat):dX true 3 (cF q) 0=some (cF q):=rfl
theorem jV (q:Rat):dX false 1 (cF q) 0=some (VB (decide (q.num<0))):=rfl
theorem mR (q:Rat):dX false 1 (cF q) 1=some (bM q.num.natAbs):=rfl
theorem mO (q:Rat):dX false 1 (cF q) 2=some (bM q.den):=rfl
theorem uF {H:aA} {neg:Bool} {t b:Nat}:fz depth H (.agg [VB neg,bM t,bM b])=some (.agg [VB neg,bM t,bM b]):=aH (by simp[aR,aJ,bU,lR])
theorem Cp {H:aA} (q:Rat):fz depth H (cF q)=some (cF q):=aH (uG q)
theorem VC (n:Int):cF (n:Rat) = .agg [VB (decide (n<0)),bM n.natAbs,bM 1]:=Mz (by simp) (by simp) (by simp)
theorem HG {n lo:Nat} {H:aA} {K:VV→aA→Prop} (h:(aC 1000000000 n).length≤17592186044416):dE 178 [bM n,.tree [VI 1] (.cl 1)] lo H K=K (VI (eE n 1)) H:=by
 have c:=sD n 1 h (by rw[BO (by decide) (by decide) (by decide)];simp)
 have e:bM 1 = .tree [VI 1] .op:=by rw[bM,BO (by decide) (by decide) (by decide)];rfl
 rw[e] at c
 exact TC.args c rfl (by simp only[aJ,bU];rfl) (fz2 (aH (bU n)) (Z8 rfl)) (by simp only[List.flatMap_cons,List.flatMap_nil,Dv (bU n),VO (es:=[VI 1]) rfl,List.append_nil]) lo K
theorem dC {d:Int} {H:aA}:rC false [.int .i64 0] 1 [(0,VI d)] H=some (.tree [VI d] (.cl 1),H):=qG
theorem eV {e:Nat} {es:List VV}:cH (.tree es (.cl e))=true:=rfl
theorem dB {k:TK} {es:List VV}:aB (.tree es k)=[.tree es k]:=rfl
theorem eU {k:TK} {es:List VV}:isAny (.tree es k)=false:=rfl
theorem MJ {d:Nat} {H:aA}:fz (d+2) H (.tree [VI 1] (.cl 1))=some (bM 1):=by
 rw[Wr]
 unfold fz
 have:aR (.tree [VI 1] (.cl 1))=false:=by simp[aR]
 simp only[this,Bool.false_eq_true,if_false]
 rfl
theorem pT (neg:Bool) (t b:Nat) (hb:b≠0) (ht:bl t≤4398046511104) (sU:bl b≤4398046511104):TC 164 [VB neg,bM t,bM b] (cF (mkRat (iZ neg t) b)):=by
 refine TC.walk ⟨true,false⟩ H6 rfl (Nat.le_of_ble_eq_true rfl) (by simp[aJ,bU,aR,lR]) (yY _) ?_
 have hg0:Nat.gcd t b≠0:=Nat.gcd_ne_zero_right hb
 have Vr:bl (Nat.gcd t b)≤4398046511104:=Nat.le_trans (jG (Nat.gcd_le_right t (by omega))) sU
 have c1:=CQ t b (mM ht) (mM sU)
 have c2:=rK t _ hg0 (mM ht) (mM Vr)
 have c3:=rK b _ hg0 (mM sU) (mM Vr)
 have c4:∀lo H K,_:=fun lo H K=>HG (n:=Nat.gcd t b) (lo:=lo) (H:=H) (K:=K) (Nat.le_of_lt (mM Vr))
 have Qg:cF (mkRat (iZ neg t) b) = .agg [VB (neg&&decide (t / Nat.gcd t b≠0)),bM (t / Nat.gcd t b),bM (b / Nat.gcd t b)]:=by
  refine Mz ?_ (by rw[Di hb,mF]) (MD hb)
  rw[Di hb,L3,Bool.and_eq_true,decide_eq_true_eq]
 rw[Qg]
 by_cases h1:eE (Nat.gcd t b) 1=0
 ·have Z3:=uH.1 h1
  have e1:t / Nat.gcd t b=t:=by rw[Z3,Nat.div_one]
  have e2:b / Nat.gcd t b=b:=by rw[Z3,Nat.div_one]
  rw[e1,e2]
  cases neg with
  |
   false =>
   simp only[kS,iO,c1,c4,h1,dC,aK,aT,aP,iA,Nat.reduceLeDiff,Nat.reduceLT,Nat.reduceSub,VX,Nat.reduceEqDiff,Nat.reduceAdd]
   exact uF
  |
   true =>
   by_cases h0:t=0
   ·have hl:¬(0:Int)<((aC 1000000000 t).length:Int):=by rw[wF];omega
    simp only[kS,iO,c1,c4,h1,hl,cK,dC,aK,aT,aP,iA,Nat.reduceLeDiff,Nat.reduceLT,Nat.reduceSub,VX,Nat.reduceEqDiff,Nat.reduceAdd]
    rw[h0]
    exact uF
   ·have hl:(0:Int)<((aC 1000000000 t).length:Int):=wF.2 h0
    simp only[kS,iO,c1,c4,h1,hl,cK,dC,aK,aT,aP,iA,Nat.reduceLeDiff,Nat.reduceLT,Nat.reduceSub,VX,Nat.reduceEqDiff,Nat.reduceAdd]
    rw[decide_eq_true h0]
    exact uF
 ·cases neg with
  |
   false =>
   simp only[kS,iO,c1,c2,c3,c4,h1,dC,aK,aT,aP,iA,Nat.reduceLeDiff,Nat.reduceLT,Nat.reduceSub,VX,Nat.reduceEqDiff,Nat.reduceAdd]
   exact uF
  |
   true =>
   generalize t / Nat.gcd t b=t' at *
   by_cases h0:t'=0
   ·have hl:¬(0:Int)<((aC 1000000000 t').length:Int):=by rw[wF];omega
    simp only[kS,iO,c1,c2,c3,c4,h1,hl,cK,dC,aK,aT,aP,iA,Nat.reduceLeDiff,Nat.reduceLT,Nat.reduceSub,VX,Nat.reduceEqDiff,Nat.reduceAdd]
    rw[h0]
    exact uF
   ·have hl:(0:Int)<((aC 1000000000 t').length:Int):=wF.2 h0
    simp only[kS,iO,c1,c2,c3,c4,h1,hl,cK,dC,aK,aT,aP,iA,Nat.reduceLeDiff,Nat.reduceLT,Nat.reduceSub,VX,Nat.reduceEqDiff,Nat.reduceAdd]
    rw[decide_eq_true h0]
    exact uF
theorem xR (n:Int) (h0 : -9223372036854775808<n) (h1:n≤9223372036854775807):TC 166 [VI n] (cF (n:Rat)):=by
 refine TC.walk ⟨true,false⟩ J5 rfl (Nat.le_of_ble_eq_true rfl) rfl (yY _) ?_
 rw[VC]
 by_cases h:n<0
 ·have w:IntKind.i64.wrap (0-n)=(n.natAbs:Int):=wrapN _ (by omega) (by omega)
  have c1:TC 161 [VI (n.natAbs:Int)] (bM n.natAbs):=nZ (n.natAbs:Int) (by omega)
  rw[decide_eq_true h]
  simp only[BM,xN,h,w,c1,dC,aK,aT,aP,eV,dB,eU,iA,Nat.reduceLeDiff,Nat.reduceLT,Nat.reduceSub,VX,Nat.reduceEqDiff,Nat.reduceAdd]
  exact oK (d:=6) (Wh rfl) (aG (bU _)) (MJ (d:=5))
 ·have c1:TC 161 [VI n] (bM n.natAbs):=by
   have:=nZ n h1
   rwa [show n.toNat=n.natAbs by omega] at this
  rw[decide_eq_false h]
  simp only[BM,xN,h,c1,dC,aK,aT,aP,eV,dB,eU,iA,Nat.reduceLeDiff,Nat.reduceLT,Nat.reduceSub,VX,Nat.reduceEqDiff,Nat.reduceAdd]
  exact oK (d:=6) (Wh rfl) (aG (bU _)) (MJ (d:=5))
theorem C9:TC 124 [] (cF 1):=by
 refine TC.walk ⟨true,false⟩ JU rfl (Nat.le_of_ble_eq_true rfl) rfl (yY _) ?_
 have c1:TC 166 [VI 1] (cF 1):=xR 1 (by decide) (by decide)
 simp only[GH,CM,c1,bP,gT,dF,aK,iA,Nat.reduceLeDiff,Nat.reduceLT,Nat.reduceSub,VX,Nat.reduceEqDiff,Nat.reduceAdd]
 exact Cp _
theorem Bx:TC 136 [] (cF 0):=by
 refine TC.walk ⟨true,false⟩ IT rfl (Nat.le_of_ble_eq_true rfl) rfl (yY _) ?_
 have c1:TC 166 [VI 0] (cF 0):=xR 0 (by decide) (by decide)
 simp only[EM,Bl,c1,bP,gT,dF,aK,iA,Nat.reduceLeDiff,Nat.reduceLT,Nat.reduceSub,VX,Nat.reduceEqDiff,Nat.reduceAdd]
 exact Cp _
theorem CO (a b:Rat) (Oq:cE a≤1099511627776) (Kc:cE b≤1099511627776):TC 94 [cF a,cF b] (cF (a+b)):=by
 refine TC.walk ⟨true,false⟩ Kj rfl (Nat.le_of_ble_eq_true rfl) (by simp[aJ,uG]) (yY _) ?_
 have la:=rJ Oq
 have lb:=rJ Kc
 have lda:=rE Oq
 have ldb:=rE Kc
 have Ye:=Nat.mul_ne_zero a.den_nz b.den_nz
 have m1:=fX a.num.natAbs b.den (Nat.le_of_lt (mM (by omega))) (Nat.le_of_lt (mM (by omega)))
 have m2:=fX b.num.natAbs a.den (Nat.le_of_lt (mM (by omega))) (Nat.le_of_lt (mM (by omega)))
 have m3:=fX a.den b.den (Nat.le_of_lt (mM (by omega))) (Nat.le_of_lt (mM (by omega)))
 have ea:mkRat (iZ (decide (a.num<0)) (a.num.natAbs*b.den)) (a.den*b.den)=a:=B7 a b.den_nz
 have eb:mkRat (iZ (decide (b.num<0)) (b.num.natAbs*a.den)) (a.den*b.den)=b:=by rw[Nat.mul_comm a.den];exact B7 b a.den_nz
 have k1:=lO a.num.natAbs b.den
 have k2:=lO b.num.natAbs a.den
 have k3:=lO a.den b.den
 obtain⟨p1,p2,p3⟩:=E0 Ye ea eb
 have hX:bl (a.num.natAbs*b.den)≤2199023255552:=by omega
 have hY:bl (b.num.natAbs*a.den)≤2199023255552:=by omega
 have hB:bl (a.den*b.den)≤4398046511104:=by omega
 generalize a.num.natAbs*b.den=X at *
 generalize b.num.natAbs*a.den=Y at *
 generalize a.den*b.den=B at *
 have f1:=Fw X Y (mM (by omega)) (mM (by omega))
 have f2:=sD X Y (Nat.le_of_lt (mM (by omega))) (Nat.le_of_lt (mM (by omega)))
 have hS:bl (X+Y)≤4398046511104:=Nat.le_trans (PZ hX hY) (by decide)
 have hD1:bl (X-Y)≤4398046511104:=Nat.le_trans (jG (Nat.sub_le _ _)) (by omega)
 have hD2:bl (Y-X)≤4398046511104:=Nat.le_trans (jG (Nat.sub_le _ _)) (by omega)
 have f5:=fun neg=>pT neg (X+Y) B Ye hS hB
 have f6:=fun neg=>pT neg (X-Y) B Ye hD1 hB
 have f7:=fun neg=>pT neg (Y-X) B Ye hD2 hB
 by_cases hn:decide (a.num<0)=decide (b.num<0)
 ·have PS:(decide (a.num<0) == decide (b.num<0))=true:=by simpa using hn
  rw[←p1 hn]
  simp only[xJ,sA,m1,m2,m3,f1,f5,rA,vX,PS,bP,gT,jV,mR,mO,dF,aK,aT,aP,iA,Nat.reduceLeDiff,Nat.reduceLT,Nat.reduceSub,VX,Nat.reduceEqDiff,Nat.reduceAdd]
  exact Cp _
 ·have PS:(decide (a.num<0) == decide (b.num<0))=false:=by simpa using hn
  by_cases hx:(0:Int)≤eE X Y
  ·have hle:Y≤X:=by have := @tY X Y;omega
   have c3:=wQ X Y hle (Nat.le_of_lt (mM (by omega)))
   rw[←p2 hn hle]
   simp only[xJ,sA,m1,m2,m3,f2,c3,f6,hx,rA,vX,PS,bP,gT,jV,mR,mO,dF,aK,aT,aP,iA,Nat.reduceLeDiff,Nat.reduceLT,Nat.reduceSub,VX,Nat.reduceEqDiff,Nat.reduceAdd]
   exact Cp _
  ·have hle:X≤Y:=by have := @tY X Y;omega
   have c3:=wQ Y X hle (Nat.le_of_lt (mM (by omega)))
   rw[←p3 hn hle]
   simp only[xJ,sA,m1,m2,m3,f2,c3,f7,hx,rA,vX,PS,bP,gT,jV,mR,mO,dF,aK,aT,aP,iA,Nat.reduceLeDiff,Nat.reduceLT,Nat.reduceSub,VX,Nat.reduceEqDiff,Nat.reduceAdd]
   exact Cp _
theorem Zg (a b:Int):iZ (decide (a<0) != decide (b<0)) (a.natAbs*b.natAbs)=a*b:=by
 rcases Int.lt_trichotomy a 0 with h1 | h1 | h1<;>rcases Int.lt_trichotomy b 0 with h2 | h2 | h2
 ·rw[decide_eq_true h1,decide_eq_true h2]
  simp only[iZ,bne_self_eq_false,Bool.false_eq_true,if_false,Int.natCast_mul]
  rw[show (a.natAbs:Int) = -a by omega,show (b.natAbs:Int) = -b by omega,Int.neg_mul_neg]
 ·subst h2;simp[vA]
 ·rw[decide_eq_true h1,decide_eq_false (show ¬b<0 by omega)]
  simp only[iZ,Bool.true_bne,Bool.not_false,if_true,Int.natCast_mul]
  rw[show (a.natAbs:Int) = -a by omega,show (b.natAbs:Int)=b by omega,Int.neg_mul,Int.neg_neg]
 ·subst h1;simp[vA]
 ·subst h1;simp[vA]
 ·subst h1;simp[vA]
 ·rw[decide_eq_false (show ¬a<0 by omega),decide_eq_true h2]
  simp only[iZ,Bool.false_bne,if_true,Int.natCast_mul]
  rw[show (a.natAbs:Int)=a by omega,show (b.natAbs:Int) = -b by omega,Int.mul_neg,Int.neg_neg]
 ·subst h2;simp[vA]
 ·rw[decide_eq_false (show ¬a<0 by omega),decide_eq_false (show ¬b<0 by omega)]
  simp only[iZ,bne_self_eq_false,Bool.false_eq_true,if_false,Int.natCast_mul]
  rw[show (a.natAbs:Int)=a by omega,show (b.natAbs:Int)=b by omega]
theorem As (a b:Rat) (Oq:cE a≤1099511627776) (Kc:cE b≤1099511627776):TC 137 [cF a,cF b] (cF (a*b)):=by
 refine TC.walk ⟨true,false⟩ Hy rfl (Nat.le_of_ble_eq_true rfl) (by simp[aJ,uG]) (yY _) ?_
 have la:=rJ Oq
 have lb:=rJ Kc
 have lda:=rE Oq
 have ldb:=rE Kc
 have k1:=lO a.num.natAbs b.num.natAbs
 have k3:=lO a.den b.den
 have m1:=fX a.num.natAbs b.num.natAbs (Nat.le_of_lt (mM (by omega))) (Nat.le_of_lt (mM (by omega)))
 have m3:=fX a.den b.den (Nat.le_of_lt (mM (by omega))) (Nat.le_of_lt (mM (by omega)))
 have c1:=pT (decide (a.num<0) != decide (b.num<0)) (a.num.natAbs*b.num.natAbs) (a.den*b.den) (Nat.mul_ne_zero a.den_nz b.den_nz) (by omega) (by omega)
 rw[Zg,←Rat.mul_def'] at c1
 simp only[CL,AM,m1,m3,c1,vX,bP,gT,jV,mR,mO,dF,aK,aT,aP,iA,Nat.reduceLeDiff,Nat.reduceLT,Nat.reduceSub,VX,Nat.reduceEqDiff,Nat.reduceAdd]
 exact Cp _
end Go.PM