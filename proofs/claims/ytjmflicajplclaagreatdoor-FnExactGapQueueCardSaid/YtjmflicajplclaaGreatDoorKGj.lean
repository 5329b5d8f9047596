/- Texts of a claim, in one: part 10. -/
import Derived.Lib.Bytealg
import Derived.Lib.ParseIntB
import Derived.Test.YtjmflicajplclaaGreatDoorKGi
set_option linter.unusedSimpArgs false
set_option linter.unusedVariables false
namespace Go.PM
open Go.Lib
def bK (q:Rat):VV := .agg [VB (decide (q.num<0)),bM q.num.natAbs,bM q.den]
theorem kZ (q:Rat):aN (bK q)=true:=by simp[bK,aN,aL,bO,kE]
theorem Dj (q:Rat):gZ (bK q)=true:=by simp[bK,gZ,qZ,pT,kE]
theorem JS {q:Rat} {neg:Bool} {t b:Nat} (h0:q.num<0↔neg=true) (h1:q.num.natAbs=t) (h2:q.den=b):bK q = .agg [VB neg,bM t,bM b]:=by
 subst h1 h2
 unfold bK
 congr 4
 cases neg<;>simp_all
theorem agF {neg:Bool} {t b:Nat} (hb:b≠0) (ht:t≠0):bK (mkRat (pJ neg t) b) = .agg [VB neg,bM (t / Nat.gcd t b),bM (b / Nat.gcd t b)]:=by
 refine JS ?_ ?_ (Ut hb)
 ·rw[Ku hb,UY]
  have h1:t / Nat.gcd t b≠0:=by
   have:=Nat.div_pos (Nat.le_of_dvd (by omega) (Nat.gcd_dvd_left t b)) (Nat.gcd_pos_of_pos_left b (by omega))
   omega
  simp[h1]
 ·rw[Ku hb,zJ]
theorem Wp:bK 0 = .agg [VB false,.tree [] .op,bM 1]:=by
 rw[JS (q:=0) (neg:=false) (t:=0) (b:=1) (by simp) rfl rfl,DS]
theorem bF (n:Nat):bP (bM n)=true:=rfl
theorem bE (n:Nat):isAny (bM n)=false:=rfl
theorem aT (n:Nat):aB (bM n)=[bM n]:=rfl
theorem dN (q:Rat):isAny (bK q)=false:=rfl
theorem aK (q:Rat):aB (bK q)=[VB (decide (q.num<0)),bM q.num.natAbs,bM q.den]:=rfl
theorem fD (q:Rat):dA true 3 (bK q) 0=some (bK q):=rfl
theorem nH (q:Rat):dA false 1 (bK q) 0=some (VB (decide (q.num<0))):=rfl
theorem nO (q:Rat):dA false 1 (bK q) 1=some (bM q.num.natAbs):=rfl
theorem sI (q:Rat):dA false 1 (bK q) 2=some (bM q.den):=rfl
theorem qB {d:Nat} {H:aA} {u u' v v' w w':VV} (h1:fz (d+1) H u=some u') (h2:fz (d+1) H v=some v') (h3:fz (d+1) H w=some w'):fz (d+2) H (.agg [u,v,w])=some (.agg [u',v',w']):=by
 have e:fz (d+2) H (.agg [u,v,w])=if aN (.agg [u,v,w])=true then some (.agg [u,v,w]) else ([u,v,w].mapM (fz (d+1) H)).map .agg:=rfl
 rw[e]
 by_cases hp:aN (.agg [u,v,w])=true
 ·rw[if_pos hp]
  simp only[aN,aL,Bool.and_eq_true,and_true] at hp
  rw[aJ hp.1] at h1
  rw[aJ hp.2.1] at h2
  rw[aJ hp.2.2] at h3
  cases h1
  cases h2
  cases h3
  rfl
 ·rw[if_neg hp,List.mapM_cons,h1,List.mapM_cons,h2,List.mapM_cons,h3]
  rfl
theorem acP {d:Nat} {H:aA} {v:Value} (h:kE v=true):fz (d+1) H (.sc v)=some (.sc v):=aJ h
theorem Gv {H:aA} {neg:Bool} {t b:Nat}:fz depth H (.agg [VB neg,bM t,bM b])=some (.agg [VB neg,bM t,bM b]):=aF (by simp[aN,aL,bO,kE])
theorem yW {H:aA} (q:Rat):fz depth H (bK q)=some (bK q):=aF (kZ q)
theorem aqH {n:Nat} (h:bl n≤2199023255552):(aC 4294967296 n).length≤68719476736:=by
 have:=ahP n
 omega
theorem gF {n:Nat} (h:bl n≤4398046511104):(aC 4294967296 n).length≤17592186044416:=by
 have:=ahP n
 omega
theorem zS (neg:Bool) (t b:Nat) (hb:b≠0) (ht:bl t≤4398046511104) (sS:bl b≤4398046511104):TC 144 [VB neg,bM t,bM b] (bK (mkRat (pJ neg t) b)):=by
 refine TC.walk ⟨true,false⟩ Ms rfl (Nat.le_of_ble_eq_true rfl) (by simp[aL,bO,aN,kE]) (Dj _) ?_
 by_cases h0:t=0
 ·subst h0
  have hl:(((aC 4294967296 0).length:Nat):Int)=0:=by rw[bY];rfl
  have c1:TC 139 [.sc (.int .u64 1)] (bM 1):=mB 1 (by decide)
  rw[St,Rat.zero_mkRat,Wp,←DS]
  simp only[uM,pP,dS,hl,c1,bF,bE,aT,kQ,Nat.reduceLeDiff,Nat.reduceLT,Nat.reduceSub,VX,Nat.reduceEqDiff,Nat.reduceAdd]
  exact qB (acP rfl) vW (aJ (bO _))
 ·have hl:¬(((aC 4294967296 t).length:Nat):Int)=0:=by have:=vY.2 h0;omega
  have c1:=CC t b (gF ht) (gF sS)
  have hg0:Nat.gcd t b≠0:=Nat.gcd_ne_zero_right hb
  have hgl:bl (Nat.gcd t b)≤4398046511104:=Nat.le_trans (nA (Nat.gcd_le_right t (by omega))) sS
  have c2:=yB t _ hg0 (gF ht) (gF hgl)
  have c3:=yB b _ hg0 (gF sS) (gF hgl)
  rw[agF hb h0]
  by_cases h1:((aC 4294967296 (Nat.gcd t b)).length:Int)=1
  ·obtain⟨d,hd⟩:∃d,aC 4294967296 (Nat.gcd t b)=[d]:=List.length_eq_one_iff.1 (by omega)
   obtain⟨hgd,_,_⟩:=Qv hd
   have e1:bH 1 (bM (Nat.gcd t b)) (.sc (.int .i64 0)) [.row 0 [.agg [VB false,.tree [] .nil,.tree [] .nil]] 3 true]=some (.cV (uV d) 0):=aI (f:=uV) (xs:=aC 4294967296 (Nat.gcd t b)) (i:=0) (k := .i64) (by rw[hd];rfl) rfl
   by_cases h2:(d:Int)=1
   ·have hg1:Nat.gcd t b=1:=by omega
    simp only[uM,pP,dS,hl,c1,h1,h2,e1,bF,bE,aT,kQ,Nat.reduceLeDiff,Nat.reduceLT,Nat.reduceSub,VX,Nat.reduceEqDiff,Nat.reduceAdd]
    rw[hg1,Nat.div_one,Nat.div_one]
    exact Gv
   ·simp only[uM,pP,dS,hl,c1,c2,c3,h1,h2,e1,bF,bE,aT,kQ,Nat.reduceLeDiff,Nat.reduceLT,Nat.reduceSub,VX,Nat.reduceEqDiff,Nat.reduceAdd]
    exact Gv
  ·simp only[uM,pP,dS,hl,c1,c2,c3,h1,bF,bE,aT,kQ,Nat.reduceLeDiff,Nat.reduceLT,Nat.reduceSub,VX,Nat.reduceEqDiff,Nat.reduceAdd]
   exact Gv
theorem Xu {n:Int} (h0 : -9223372036854775808≤n) (h:n<0):IntKind.u64.wrap (0-IntKind.u64.wrap n)=(n.natAbs:Int):=by
 rw[wrap_u64,wrap_u64]
 omega
theorem HE (n:Int) (h0 : -9223372036854775808≤n) (h1:n≤9223372036854775807):TC 140 [VI n] (VK .u64 (n.natAbs:Int)):=by
 refine TC.walk ⟨true,false⟩ Hf rfl (Nat.le_of_ble_eq_true rfl) rfl rfl ?_
 by_cases h:n<0
 ·simp only[wQ,tE,h,Xu h0 h,VX,Nat.reduceEqDiff,Nat.reduceAdd]
  exact aF rfl
 ·have w:IntKind.u64.wrap n=(n.natAbs:Int):=by rw[wrap_u64];omega
  simp only[wQ,tE,h,w,VX,Nat.reduceEqDiff,Nat.reduceAdd]
  exact aF rfl
theorem aaC (n:Int):bK (n:Rat) = .agg [VB (decide (n<0)),bM n.natAbs,bM 1]:=JS (by simp) (by simp) (by simp)
theorem Be (n:Int) (h0 : -9223372036854775808≤n) (h1:n≤9223372036854775807):TC 64 [VI n] (bK (n:Rat)):=by
 refine TC.walk ⟨true,false⟩ Pr rfl (Nat.le_of_ble_eq_true rfl) rfl (Dj _) ?_
 have c1:=HE n h0 h1
 have c2:=mB n.natAbs (by omega)
 have c3:TC 139 [.sc (.int .u64 1)] (bM 1):=mB 1 (by decide)
 rw[aaC]
 simp only[Kq,F9,c1,c2,c3,bF,bE,aT,kQ,Nat.reduceLeDiff,Nat.reduceLT,Nat.reduceSub,VX,Nat.reduceEqDiff,Nat.reduceAdd]
 exact Gv
theorem U7 {q:Rat}:(((aC 4294967296 q.num.natAbs).length:Nat):Int)=0↔q.num=0:=by
 have:=vY (n:=q.num.natAbs)
 omega
theorem mJ (q:Rat):TC 68 [bK q] (VI (lG q)):=by
 refine TC.walk ⟨true,false⟩ FY rfl (Nat.le_of_ble_eq_true rfl) (by simp[aL,kZ]) rfl ?_
 unfold lG
 by_cases h0:q.num=0
 ·have hl:=U7.2 h0
  rw[if_pos h0]
  simp only[pY,nJ,dS,hl,aK,nH,nO,bF,bE,aT,kQ,Nat.reduceLeDiff,Nat.reduceLT,Nat.reduceSub,VX,Nat.reduceEqDiff,Nat.reduceAdd]
  exact aF rfl
 ·have hl:¬(((aC 4294967296 q.num.natAbs).length:Nat):Int)=0:=fun h=>h0 (U7.1 h)
  rw[if_neg h0]
  by_cases h1:q.num<0
  ·simp only[pY,nJ,dS,hl,h1,aK,nH,nO,bF,bE,aT,kQ,Nat.reduceLeDiff,Nat.reduceLT,Nat.reduceSub,VX,Nat.reduceEqDiff,Nat.reduceAdd]
   exact aF rfl
  ·simp only[pY,nJ,dS,hl,h1,aK,nH,nO,bF,bE,aT,kQ,Nat.reduceLeDiff,Nat.reduceLT,Nat.reduceSub,VX,Nat.reduceEqDiff,Nat.reduceAdd]
   exact aF rfl
end Go.PM
namespace Go.PM
open Go.Lib
theorem uW (a b:Bool):MO false (.bool a) (.bool b)=some (.bool (a == b)):=by
 show some (Value.bool ((a == b) != false))=_
 rw[Bool.bne_false]
theorem BJ (a b:Bool):MO true (.bool a) (.bool b)=some (.bool (a != b)):=by
 show some (Value.bool ((a == b) != true))=_
 cases a<;>cases b<;>rfl
theorem BC {q:Rat} {k:Nat} (h:aZ q≤k):bl q.num.natAbs≤k:=Nat.le_trans qU h
theorem Bn {q:Rat} {k:Nat} (h:aZ q≤k):bl q.den≤k:=Nat.le_trans oZ h
theorem HF {X Y B:Nat} {a b:Rat} (hB:B≠0) (ha:mkRat (pJ (decide (a.num<0)) X) B=a) (hb:mkRat (pJ (decide (b.num<0)) Y) B=b) :
  ((decide (a.num<0))=(decide (b.num<0))→mkRat (pJ (decide (a.num<0)) (X+Y)) B=a+b) ∧
  ((decide (a.num<0))≠(decide (b.num<0))→Y≤X→mkRat (pJ (decide (a.num<0)) (X-Y)) B=a+b) ∧
  ((decide (a.num<0))≠(decide (b.num<0))→X≤Y→mkRat (pJ (decide (b.num<0)) (Y-X)) B=a+b):=by
 refine⟨fun h => ?_,fun h hx => ?_,fun h hx => ?_⟩
 ·conv=>rhs;rw[←ha,←hb,CO _ _ hB,←h,OH]
 ·conv=>rhs;rw[←ha,←hb,CO _ _ hB,Tr h hx]
 ·conv=>rhs;rw[←ha,←hb,CO _ _ hB,T1 h hx]
theorem CR (a b:Rat) (Ze:aZ a≤1099511627776) (T3:aZ b≤1099511627776):TC 69 [bK a,bK b] (bK (a+b)):=by
 refine TC.walk ⟨true,false⟩ HP rfl (Nat.le_of_ble_eq_true rfl) (by simp[aL,kZ]) (Dj _) ?_
 have ca:=mJ a
 have cb:=mJ b
 by_cases ha0:a.num=0
 ·have:a=0:=Rat.num_eq_zero.1 ha0
  rw[lX ha0] at ca
  rw[this,Rat.zero_add,←this]
  simp only[fY,eI,ca,cb,aK,fD,dN,bF,bE,aT,kQ,Nat.reduceLeDiff,Nat.reduceLT,Nat.reduceSub,VX,Nat.reduceEqDiff,Nat.reduceAdd]
  exact yW _
 have hsa:¬lG a=0:=fun h=>ha0 (Rat.num_eq_zero.2 (Lg.1 h))
 by_cases hb0:b.num=0
 ·have:b=0:=Rat.num_eq_zero.1 hb0
  rw[lX hb0] at cb
  rw[this,Rat.add_zero,←this]
  simp only[fY,eI,ca,cb,hsa,aK,fD,dN,bF,bE,aT,kQ,Nat.reduceLeDiff,Nat.reduceLT,Nat.reduceSub,VX,Nat.reduceEqDiff,Nat.reduceAdd]
  exact yW _
 have hsb:¬lG b=0:=fun h=>hb0 (Rat.num_eq_zero.2 (Lg.1 h))
 have la:=BC Ze
 have lb:=BC T3
 have lda:=Bn Ze
 have ldb:=Bn T3
 have fin:∀(X Y B:Nat),bl X≤2199023255552→bl Y≤2199023255552→bl B≤2199023255552→B≠0→mkRat (pJ (decide (a.num<0)) X) B=a→mkRat (pJ (decide (b.num<0)) Y) B=b →
   TC 145 [bM X,bM Y] (bM (X+Y))∧TC 142 [bM X,bM Y] (VI (eZ X Y)) ∧
   (Y≤X→TC 146 [bM X,bM Y] (bM (X-Y)))∧(X≤Y→TC 146 [bM Y,bM X] (bM (Y-X))) ∧
   (∀neg,TC 144 [VB neg,bM (X+Y),bM B] (bK (mkRat (pJ neg (X+Y)) B))) ∧
   (∀neg,TC 144 [VB neg,bM (X-Y),bM B] (bK (mkRat (pJ neg (X-Y)) B))) ∧
   (∀neg,TC 144 [VB neg,bM (Y-X),bM B] (bK (mkRat (pJ neg (Y-X)) B))):=by
  intro X Y B hX hY hB hB0 _ _
  refine⟨CX X Y (gF (by omega)) (gF (by omega)),jE X Y (gF (by omega)) (gF (by omega)),fun h=>Cs X Y h (gF (by omega)),fun h=>Cs Y X h (gF (by omega)),fun neg=>zS neg _ _ hB0 ?_ (by omega),fun neg=>zS neg _ _ hB0 ?_ (by omega),fun neg=>zS neg _ _ hB0 ?_ (by omega)⟩
  ·exact Nat.le_trans (Uj hX hY) (by omega)
  ·exact Nat.le_trans (nA (Nat.sub_le _ _)) (by omega)
  ·exact Nat.le_trans (nA (Nat.sub_le _ _)) (by omega)
 by_cases hd:a.den=b.den
 ·have hBn:=a.den_nz
  have cc:=jE a.den b.den (gF (by omega)) (gF (by omega))
  rw[show eZ a.den b.den=0 from wE.2 hd] at cc
  have eb:mkRat (pJ (decide (b.num<0)) b.num.natAbs) a.den=b:=by rw[hd,JW]
  obtain⟨f1,f2,f3,f4,f5,f6,f7⟩:=fin a.num.natAbs b.num.natAbs a.den (by omega) (by omega) (by omega) hBn (JW a) eb
  obtain⟨p1,p2,p3⟩:=HF hBn (JW a) eb
  by_cases hn:decide (a.num<0)=decide (b.num<0)
  ·have QZ:(decide (a.num<0) == decide (b.num<0))=true:=by simpa using hn
   rw[←p1 hn]
   simp only[fY,eI,ca,cb,hsa,hsb,cc,f1,f5,uW,BJ,QZ,aK,fD,nH,nO,sI,dN,bF,bE,aT,kQ,Nat.reduceLeDiff,Nat.reduceLT,Nat.reduceSub,VX,Nat.reduceEqDiff,Nat.reduceAdd]
   exact yW _
  ·have QZ:(decide (a.num<0) == decide (b.num<0))=false:=by simpa using hn
   by_cases hx:(0:Int)≤eZ a.num.natAbs b.num.natAbs
   ·have hle:b.num.natAbs≤a.num.natAbs:=by have := @vL a.num.natAbs b.num.natAbs;omega
    have c3:=f3 hle
    rw[←p2 hn hle]
    simp only[fY,eI,ca,cb,hsa,hsb,cc,f2,c3,f6,hx,uW,BJ,QZ,aK,fD,nH,nO,sI,dN,bF,bE,aT,kQ,Nat.reduceLeDiff,Nat.reduceLT,Nat.reduceSub,VX,Nat.reduceEqDiff,Nat.reduceAdd]
    exact yW _
   ·have hle:a.num.natAbs≤b.num.natAbs:=by have := @vL a.num.natAbs b.num.natAbs;omega
    have c3:=f4 hle
    rw[←p3 hn hle]
    simp only[fY,eI,ca,cb,hsa,hsb,cc,f2,c3,f7,hx,uW,BJ,QZ,aK,fD,nH,nO,sI,dN,bF,bE,aT,kQ,Nat.reduceLeDiff,Nat.reduceLT,Nat.reduceSub,VX,Nat.reduceEqDiff,Nat.reduceAdd]
    exact yW _
 ·have hBn:=Nat.mul_ne_zero a.den_nz b.den_nz
  have cc:=jE a.den b.den (gF (by omega)) (gF (by omega))
  have PU:¬eZ a.den b.den=0:=fun h=>hd (wE.1 h)
  have m1:=kT a.num.natAbs b.den (gF (by omega)) (gF (by omega))
  have m2:=kT b.num.natAbs a.den (gF (by omega)) (gF (by omega))
  have m3:=kT a.den b.den (gF (by omega)) (gF (by omega))
  have ea:mkRat (pJ (decide (a.num<0)) (a.num.natAbs*b.den)) (a.den*b.den)=a:=DV a b.den_nz
  have eb:mkRat (pJ (decide (b.num<0)) (b.num.natAbs*a.den)) (a.den*b.den)=b:=by rw[Nat.mul_comm a.den];exact DV b a.den_nz
  have k1:=pG a.num.natAbs b.den
  have k2:=pG b.num.natAbs a.den
  have k3:=pG a.den b.den
  obtain⟨f1,f2,f3,f4,f5,f6,f7⟩:=fin _ _ _ (by omega) (by omega) (by omega) hBn ea eb
  obtain⟨p1,p2,p3⟩:=HF hBn ea eb
  by_cases hn:decide (a.num<0)=decide (b.num<0)
  ·have QZ:(decide (a.num<0) == decide (b.num<0))=true:=by simpa using hn
   rw[←p1 hn]
   simp only[fY,eI,ca,cb,hsa,hsb,cc,PU,m1,m2,m3,f1,f5,uW,BJ,QZ,aK,fD,nH,nO,sI,dN,bF,bE,aT,kQ,Nat.reduceLeDiff,Nat.reduceLT,Nat.reduceSub,VX,Nat.reduceEqDiff,Nat.reduceAdd]
   exact yW _
  ·have QZ:(decide (a.num<0) == decide (b.num<0))=false:=by simpa using hn
   by_cases hx:(0:Int)≤eZ (a.num.natAbs*b.den) (b.num.natAbs*a.den)
   ·have hle:b.num.natAbs*a.den≤a.num.natAbs*b.den:=by have := @vL (a.num.natAbs*b.den) (b.num.natAbs*a.den);omega
    have c3:=f3 hle
    rw[←p2 hn hle]
    simp only[fY,eI,ca,cb,hsa,hsb,cc,PU,m1,m2,m3,f2,c3,f6,hx,uW,BJ,QZ,aK,fD,nH,nO,sI,dN,bF,bE,aT,kQ,Nat.reduceLeDiff,Nat.reduceLT,Nat.reduceSub,VX,Nat.reduceEqDiff,Nat.reduceAdd]
    exact yW _
   ·have hle:a.num.natAbs*b.den≤b.num.natAbs*a.den:=by have := @vL (a.num.natAbs*b.den) (b.num.natAbs*a.den);omega
    have c3:=f4 hle
    rw[←p3 hn hle]
    simp only[fY,eI,ca,cb,hsa,hsb,cc,PU,m1,m2,m3,f2,c3,f7,hx,uW,BJ,QZ,aK,fD,nH,nO,sI,dN,bF,bE,aT,kQ,Nat.reduceLeDiff,Nat.reduceLT,Nat.reduceSub,VX,Nat.reduceEqDiff,Nat.reduceAdd]
    exact yW _
theorem Io (q:Rat) : -1≤lG q∧lG q≤1:=by
 rcases Int.lt_trichotomy q.num 0 with h | h | h
 ·rw[oN h];omega
 ·rw[lX h];omega
 ·rw[oU h];omega
theorem Ub (m n:Nat) : -1≤eZ m n∧eZ m n≤1:=by
 rcases Nat.lt_trichotomy m n with h | h | h
 ·rw[eZ,if_pos h];omega
 ·subst h;rw[eZ,if_neg (by omega),if_pos rfl];omega
 ·rw[eZ,if_neg (by omega),if_neg (by omega)];omega
theorem K8 (a b:Rat) (Ze:aZ a≤1099511627776) (T3:aZ b≤1099511627776):TC 148 [bK a,bK b] (VI (Mv a b)):=by
 refine TC.walk ⟨true,false⟩ Hr rfl (Nat.le_of_ble_eq_true rfl) (by simp[aL,kZ]) rfl ?_
 have ca:=mJ a
 have cb:=mJ b
 have la:=BC Ze
 have lb:=BC T3
 have lda:=Bn Ze
 have ldb:=Bn T3
 have k1:=pG a.num.natAbs b.den
 have k2:=pG b.num.natAbs a.den
 have m1:=kT a.num.natAbs b.den (gF (by omega)) (gF (by omega))
 have m2:=kT b.num.natAbs a.den (gF (by omega)) (gF (by omega))
 have c1:=jE (a.num.natAbs*b.den) (b.num.natAbs*a.den) (gF (by omega)) (gF (by omega))
 have ra:=Io a
 have rb:=Io b
 have rc:=Ub (a.num.natAbs*b.den) (b.num.natAbs*a.den)
 unfold Mv
 by_cases hs:lG a=lG b
 ·rw[if_pos hs]
  have w:IntKind.i64.wrap (0-eZ (a.num.natAbs*b.den) (b.num.natAbs*a.den)) = -eZ (a.num.natAbs*b.den) (b.num.natAbs*a.den):=by rw[wrap64 (by omega) (by omega)];omega
  by_cases hn:a.num<0
  ·rw[if_pos hn]
   simp only[rP,oQ,ca,cb,hs,m1,m2,c1,hn,w,aK,fD,nH,nO,sI,dN,bF,bE,aT,kQ,Nat.reduceLeDiff,Nat.reduceLT,Nat.reduceSub,VX,Nat.reduceEqDiff,Nat.reduceAdd]
   exact aF rfl
  ·rw[if_neg hn]
   simp only[rP,oQ,ca,cb,hs,m1,m2,c1,hn,aK,fD,nH,nO,sI,dN,bF,bE,aT,kQ,Nat.reduceLeDiff,Nat.reduceLT,Nat.reduceSub,VX,Nat.reduceEqDiff,Nat.reduceAdd]
   exact aF rfl
 ·rw[if_neg hs]
  have w:IntKind.i64.wrap (lG a-lG b)=lG a-lG b:=wrap64 (by omega) (by omega)
  simp only[rP,oQ,ca,cb,hs,w,aK,fD,nH,nO,sI,dN,bF,bE,aT,kQ,Nat.reduceLeDiff,Nat.reduceLT,Nat.reduceSub,VX,Nat.reduceEqDiff,Nat.reduceAdd]
  exact aF rfl
theorem HB (a:Rat) (Ze:aZ a≤1099511627776):TC 161 [bK a] (VB (decide (a=1))):=by
 refine TC.walk ⟨true,false⟩ EV rfl (Nat.le_of_ble_eq_true rfl) (by simp[aL,kZ]) rfl ?_
 have c1:=K8 a 1 Ze (by rw[HM];decide)
 have c2:TC 64 [VI 1] (bK 1):=Be 1 (by decide) (by decide)
 by_cases h:Mv a 1=0
 ·rw[decide_eq_true (Od.1 h)]
  simp only[tC,qL,c1,c2,h,aK,fD,dN,bF,bE,aT,kQ,Nat.reduceLeDiff,Nat.reduceLT,Nat.reduceSub,VX,Nat.reduceEqDiff,Nat.reduceAdd]
  exact aF rfl
 ·rw[decide_eq_false (mt Od.2 h)]
  simp only[tC,qL,c1,c2,h,aK,fD,dN,bF,bE,aT,kQ,Nat.reduceLeDiff,Nat.reduceLT,Nat.reduceSub,VX,Nat.reduceEqDiff,Nat.reduceAdd]
  exact aF rfl
end Go.PM
namespace Go.PM
theorem xK {n:Nat}:(0:Int)<((aC 1000000000 n).length:Int)↔n≠0:=by
 constructor
 ·intro h h0
  subst h0
  rw[bY] at h
  simp at h
 ·intro h
  have:=(kU (b:=1000000000) (by decide) (n:=n))
  have h2:aC 1000000000 n≠[]:=fun hx=>h (this.1 hx)
  have:=List.length_pos_iff.2 h2
  omega
theorem qM {n:Nat} (h:bl n≤4398046511104):(aC 1000000000 n).length<17592186044416:=by
 have:=ahJ n
 omega
theorem Eo (a b:Nat) (ha:(aC 1000000000 a).length<17592186044416) (hb:(aC 1000000000 b).length<17592186044416):TC 170 [bS a,bS b] (bS (Nat.gcd a b)):=by
 refine TC.walk ⟨true,false⟩ MY rfl (Nat.le_of_ble_eq_true rfl) (by simp[aL,cA]) (mM _) ?_
 simp only[Jb,EK,VX,Nat.reduceEqDiff,Nat.reduceAdd]
 refine aQ (fun(t:Nat×Nat) ρ H=>H=[]∧Nat.gcd t.1 t.2=Nat.gcd a b∧(aC 1000000000 t.1).length<17592186044416∧(aC 1000000000 t.2).length<17592186044416∧ρ 0=bS t.1∧ρ 1=bS t.2) (fun t=>t.2) (a,b) ⟨rfl,rfl,ha,hb,rfl,rfl⟩ ?_
 rintro⟨x,y⟩ ρ H ⟨rfl,hg,hx,hy,g0,g1⟩
 simp only at hg hx hy g0 g1
 by_cases hy0:y=0
 ·subst hy0
  have hl:¬(0:Int)<((aC 1000000000 0).length:Int):=by rw[xK];omega
  rw[Nat.gcd_zero_right] at hg
  simp only[yF,g0,g1,cZ,hl,VX,Nat.reduceEqDiff,Nat.reduceAdd]
  rw[hg]
  exact aF (cA _)
 ·have hl:(0:Int)<((aC 1000000000 y).length:Int):=xK.2 hy0
  have c3:=sX x y hy0 hx hy
  have hm:=Nat.mod_lt x (show 0<y by omega)
  simp only[yF,g0,g1,cZ,hl,c3,VX,Nat.reduceEqDiff,Nat.reduceAdd]
  refine⟨(y,x % y),hm,?_,hy,?_,rfl,rfl⟩
  ·simp only
   rw[←hg,Nat.gcd_comm x y,Nat.gcd_rec y x,Nat.gcd_comm]
  ·simp only
   have:=dU (b:=1000000000) (by decide) (Nat.le_of_lt hm)
   omega
def bZ (q:Rat):VV := .agg [VB (decide (q.num<0)),bS q.num.natAbs,bS q.den]
theorem A3 (q:Rat):aN (bZ q)=true:=by simp[bZ,aN,aL,cA,kE]
theorem Cz (q:Rat):gZ (bZ q)=true:=by simp[bZ,gZ,qZ,mM,kE]
theorem O5 {q:Rat} {neg:Bool} {t b:Nat} (h0:q.num<0↔neg=true) (h1:q.num.natAbs=t) (h2:q.den=b):bZ q = .agg [VB neg,bS t,bS b]:=by
 subst h1 h2
 unfold bZ
 congr 4
 cases neg<;>simp_all
theorem aP (n:Nat):bP (bS n)=true:=rfl
theorem bL (n:Nat):isAny (bS n)=false:=rfl
theorem bD (n:Nat):aB (bS n)=[bS n]:=rfl
theorem kD (q:Rat):isAny (bZ q)=false:=rfl
theorem dF (q:Rat):aB (bZ q)=[VB (decide (q.num<0)),bS q.num.natAbs,bS q.den]:=rfl
theorem jX (q:Rat):dA true 3 (bZ q) 0=some (bZ q):=rfl
theorem mO (q:Rat):dA false 1 (bZ q) 0=some (VB (decide (q.num<0))):=rfl
theorem pR (q:Rat):dA false 1 (bZ q) 1=some (bS q.num.natAbs):=rfl
theorem pU (q:Rat):dA false 1 (bZ q) 2=some (bS q.den):=rfl
theorem wG {H:aA} {neg:Bool} {t b:Nat}:fz depth H (.agg [VB neg,bS t,bS b])=some (.agg [VB neg,bS t,bS b]):=aF (by simp[aN,aL,cA,kE])
theorem GI {H:aA} (q:Rat):fz depth H (bZ q)=some (bZ q):=aF (A3 q)
theorem aaN (n:Int):bZ (n:Rat) = .agg [VB (decide (n<0)),bS n.natAbs,bS 1]:=O5 (by simp) (by simp) (by simp)
theorem JQ {n lo:Nat} {H:aA} {K:VV→aA→Prop} (h:(aC 1000000000 n).length≤17592186044416):cT 155 [bS n,.tree [VI 1] (.cl 1)] lo H K=K (VI (eZ n 1)) H:=by
 have c:=uA n 1 h (by rw[C0 (by decide) (by decide) (by decide)];simp)
 have e:bS 1 = .tree [VI 1] .op:=by rw[bS,C0 (by decide) (by decide) (by decide)];rfl
 rw[e] at c
 exact TC.args c rfl (by simp only[aL,cA];rfl) (fz2 (aF (cA n)) (aiG rfl)) (by simp only[List.flatMap_cons,List.flatMap_nil,EY (cA n),Zk (es:=[VI 1]) rfl,List.append_nil]) lo K
theorem dP {d:Int} {H:aA}:mF false [.int .i64 0] 1 [(0,VI d)] H=some (.tree [VI d] (.cl 1),H):=sF
theorem fI {e:Nat} {es:List VV}:bP (.tree es (.cl e))=true:=rfl
theorem dO {k:TK} {es:List VV}:aB (.tree es k)=[.tree es k]:=rfl
theorem fH {k:TK} {es:List VV}:isAny (.tree es k)=false:=rfl
theorem Pt {d:Nat} {H:aA}:fz (d+2) H (.tree [VI 1] (.cl 1))=some (bS 1):=by
 rw[Y6]
 unfold fz
 have:aN (.tree [VI 1] (.cl 1))=false:=by simp[aN]
 simp only[this,Bool.false_eq_true,if_false]
 rfl
theorem yH (neg:Bool) (t b:Nat) (hb:b≠0) (ht:bl t≤4398046511104) (sS:bl b≤4398046511104):TC 153 [VB neg,bS t,bS b] (bZ (mkRat (pJ neg t) b)):=by
 refine TC.walk ⟨true,false⟩ K7 rfl (Nat.le_of_ble_eq_true rfl) (by simp[aL,cA,aN,kE]) (Cz _) ?_
 have hg0:Nat.gcd t b≠0:=Nat.gcd_ne_zero_right hb
 have hgl:bl (Nat.gcd t b)≤4398046511104:=Nat.le_trans (nA (Nat.gcd_le_right t (by omega))) sS
 have c1:=Eo t b (qM ht) (qM sS)
 have c2:=sX t _ hg0 (qM ht) (qM hgl)
 have c3:=sX b _ hg0 (qM sS) (qM hgl)
 have c4:∀lo H K,_:=fun lo H K=>JQ (n:=Nat.gcd t b) (lo:=lo) (H:=H) (K:=K) (Nat.le_of_lt (qM hgl))
 have Ti:bZ (mkRat (pJ neg t) b) = .agg [VB (neg&&decide (t / Nat.gcd t b≠0)),bS (t / Nat.gcd t b),bS (b / Nat.gcd t b)]:=by
  refine O5 ?_ (by rw[Ku hb,zJ]) (Ut hb)
  rw[Ku hb,UY,Bool.and_eq_true,decide_eq_true_eq]
 rw[Ti]
 by_cases h1:eZ (Nat.gcd t b) 1=0
 ·have hg1:=wE.1 h1
  have e1:t / Nat.gcd t b=t:=by rw[hg1,Nat.div_one]
  have e2:b / Nat.gcd t b=b:=by rw[hg1,Nat.div_one]
  rw[e1,e2]
  cases neg with
  |
   false =>
   simp only[mE,jL,c1,c4,h1,dP,aP,bL,bD,kQ,Nat.reduceLeDiff,Nat.reduceLT,Nat.reduceSub,VX,Nat.reduceEqDiff,Nat.reduceAdd]
   exact wG
  |
   true =>
   by_cases h0:t=0
   ·have hl:¬(0:Int)<((aC 1000000000 t).length:Int):=by rw[xK];omega
    simp only[mE,jL,c1,c4,h1,hl,cZ,dP,aP,bL,bD,kQ,Nat.reduceLeDiff,Nat.reduceLT,Nat.reduceSub,VX,Nat.reduceEqDiff,Nat.reduceAdd]
    rw[h0]
    exact wG
   ·have hl:(0:Int)<((aC 1000000000 t).length:Int):=xK.2 h0
    simp only[mE,jL,c1,c4,h1,hl,cZ,dP,aP,bL,bD,kQ,Nat.reduceLeDiff,Nat.reduceLT,Nat.reduceSub,VX,Nat.reduceEqDiff,Nat.reduceAdd]
    rw[decide_eq_true h0]
    exact wG
 ·cases neg with
  |
   false =>
   simp only[mE,jL,c1,c2,c3,c4,h1,dP,aP,bL,bD,kQ,Nat.reduceLeDiff,Nat.reduceLT,Nat.reduceSub,VX,Nat.reduceEqDiff,Nat.reduceAdd]
   exact wG
  |
   true =>
   generalize t / Nat.gcd t b=t' at *
   by_cases h0:t'=0
   ·have hl:¬(0:Int)<((aC 1000000000 t').length:Int):=by rw[xK];omega
    simp only[mE,jL,c1,c2,c3,c4,h1,hl,cZ,dP,aP,bL,bD,kQ,Nat.reduceLeDiff,Nat.reduceLT,Nat.reduceSub,VX,Nat.reduceEqDiff,Nat.reduceAdd]
    rw[h0]
    exact wG
   ·have hl:(0:Int)<((aC 1000000000 t').length:Int):=xK.2 h0
    simp only[mE,jL,c1,c2,c3,c4,h1,hl,cZ,dP,aP,bL,bD,kQ,Nat.reduceLeDiff,Nat.reduceLT,Nat.reduceSub,VX,Nat.reduceEqDiff,Nat.reduceAdd]
    rw[decide_eq_true h0]
    exact wG
theorem Ez (n:Int) (h0 : -9223372036854775808<n) (h1:n≤9223372036854775807):TC 130 [VI n] (bZ (n:Rat)):=by
 refine TC.walk ⟨true,false⟩ MV rfl (Nat.le_of_ble_eq_true rfl) rfl (Cz _) ?_
 rw[aaN]
 by_cases h:n<0
 ·have w:IntKind.i64.wrap (0-n)=(n.natAbs:Int):=wrapN _ (by omega) (by omega)
  have c1:TC 178 [VI (n.natAbs:Int)] (bS n.natAbs):=pV (n.natAbs:Int) (by omega)
  rw[decide_eq_true h]
  simp only[Cr,zP,h,w,c1,dP,aP,bL,bD,fI,dO,fH,kQ,Nat.reduceLeDiff,Nat.reduceLT,Nat.reduceSub,VX,Nat.reduceEqDiff,Nat.reduceAdd]
  exact qB (d:=6) (acP rfl) (aJ (cA _)) (Pt (d:=5))
 ·have c1:TC 178 [VI n] (bS n.natAbs):=by
   have:=pV n h1
   rwa [show n.toNat=n.natAbs by omega] at this
  rw[decide_eq_false h]
  simp only[Cr,zP,h,c1,dP,aP,bL,bD,fI,dO,fH,kQ,Nat.reduceLeDiff,Nat.reduceLT,Nat.reduceSub,VX,Nat.reduceEqDiff,Nat.reduceAdd]
  exact qB (d:=6) (acP rfl) (aJ (cA _)) (Pt (d:=5))
theorem MP:TC 83 [] (bZ 1):=by
 refine TC.walk ⟨true,false⟩ ML rfl (Nat.le_of_ble_eq_true rfl) rfl (Cz _) ?_
 have c1:TC 130 [VI 1] (bZ 1):=Ez 1 (by decide) (by decide)
 simp only[IG,Ew,c1,dF,jX,kD,aP,kQ,Nat.reduceLeDiff,Nat.reduceLT,Nat.reduceSub,VX,Nat.reduceEqDiff,Nat.reduceAdd]
 exact GI _
theorem Cx:TC 77 [] (bZ 0):=by
 refine TC.walk ⟨true,false⟩ Mk rfl (Nat.le_of_ble_eq_true rfl) rfl (Cz _) ?_
 have c1:TC 130 [VI 0] (bZ 0):=Ez 0 (by decide) (by decide)
 simp only[FG,Da,c1,dF,jX,kD,aP,kQ,Nat.reduceLeDiff,Nat.reduceLT,Nat.reduceSub,VX,Nat.reduceEqDiff,Nat.reduceAdd]
 exact GI _
theorem Er (a b:Rat) (Ze:aZ a≤1099511627776) (T3:aZ b≤1099511627776):TC 79 [bZ a,bZ b] (bZ (a+b)):=by
 refine TC.walk ⟨true,false⟩ Mz rfl (Nat.le_of_ble_eq_true rfl) (by simp[aL,A3]) (Cz _) ?_
 have la:=BC Ze
 have lb:=BC T3
 have lda:=Bn Ze
 have ldb:=Bn T3
 have hBn:=Nat.mul_ne_zero a.den_nz b.den_nz
 have m1:=kR a.num.natAbs b.den (Nat.le_of_lt (qM (by omega))) (Nat.le_of_lt (qM (by omega)))
 have m2:=kR b.num.natAbs a.den (Nat.le_of_lt (qM (by omega))) (Nat.le_of_lt (qM (by omega)))
 have m3:=kR a.den b.den (Nat.le_of_lt (qM (by omega))) (Nat.le_of_lt (qM (by omega)))
 have ea:mkRat (pJ (decide (a.num<0)) (a.num.natAbs*b.den)) (a.den*b.den)=a:=DV a b.den_nz
 have eb:mkRat (pJ (decide (b.num<0)) (b.num.natAbs*a.den)) (a.den*b.den)=b:=by rw[Nat.mul_comm a.den];exact DV b a.den_nz
 have k1:=pG a.num.natAbs b.den
 have k2:=pG b.num.natAbs a.den
 have k3:=pG a.den b.den
 obtain⟨p1,p2,p3⟩:=HF hBn ea eb
 have hX:bl (a.num.natAbs*b.den)≤2199023255552:=by omega
 have hY:bl (b.num.natAbs*a.den)≤2199023255552:=by omega
 have hB:bl (a.den*b.den)≤4398046511104:=by omega
 generalize a.num.natAbs*b.den=X at *
 generalize b.num.natAbs*a.den=Y at *
 generalize a.den*b.den=B at *
 have f1:=Hk X Y (qM (by omega)) (qM (by omega))
 have f2:=uA X Y (Nat.le_of_lt (qM (by omega))) (Nat.le_of_lt (qM (by omega)))
 have hS:bl (X+Y)≤4398046511104:=Nat.le_trans (Uj hX hY) (by decide)
 have hD1:bl (X-Y)≤4398046511104:=Nat.le_trans (nA (Nat.sub_le _ _)) (by omega)
 have hD2:bl (Y-X)≤4398046511104:=Nat.le_trans (nA (Nat.sub_le _ _)) (by omega)
 have f5:=fun neg=>yH neg (X+Y) B hBn hS hB
 have f6:=fun neg=>yH neg (X-Y) B hBn hD1 hB
 have f7:=fun neg=>yH neg (Y-X) B hBn hD2 hB
 by_cases hn:decide (a.num<0)=decide (b.num<0)
 ·have QZ:(decide (a.num<0) == decide (b.num<0))=true:=by simpa using hn
  rw[←p1 hn]
  simp only[yY,tZ,m1,m2,m3,f1,f5,uW,BJ,QZ,dF,jX,mO,pR,pU,kD,aP,bL,bD,kQ,Nat.reduceLeDiff,Nat.reduceLT,Nat.reduceSub,VX,Nat.reduceEqDiff,Nat.reduceAdd]
  exact GI _
 ·have QZ:(decide (a.num<0) == decide (b.num<0))=false:=by simpa using hn
  by_cases hx:(0:Int)≤eZ X Y
  ·have hle:Y≤X:=by have := @vL X Y;omega
   have c3:=zH X Y hle (Nat.le_of_lt (qM (by omega)))
   rw[←p2 hn hle]
   simp only[yY,tZ,m1,m2,m3,f2,c3,f6,hx,uW,BJ,QZ,dF,jX,mO,pR,pU,kD,aP,bL,bD,kQ,Nat.reduceLeDiff,Nat.reduceLT,Nat.reduceSub,VX,Nat.reduceEqDiff,Nat.reduceAdd]
   exact GI _
  ·have hle:X≤Y:=by have := @vL X Y;omega
   have c3:=zH Y X hle (Nat.le_of_lt (qM (by omega)))
   rw[←p3 hn hle]
   simp only[yY,tZ,m1,m2,m3,f2,c3,f7,hx,uW,BJ,QZ,dF,jX,mO,pR,pU,kD,aP,bL,bD,kQ,Nat.reduceLeDiff,Nat.reduceLT,Nat.reduceSub,VX,Nat.reduceEqDiff,Nat.reduceAdd]
   exact GI _
end Go.PM
namespace Go.PM
open Go.Lib
theorem agJ {m n:Nat} (h:decDigits m=decDigits n):m=n:=by
 have key:∀k m n:Nat,m<10^(k+1)→decDigits m=decDigits n→m=n:=by
  intro k
  induction k with
  |
   zero =>
   intro m n hm h
   rw[iD (by omega)] at h
   by_cases hn:n<10
   ·rw[iD hn] at h
    have h1:=List.singleton_inj.1 h
    unfold d10 at h1
    have:=congrArg UInt8.toNat h1
    simp at this
    omega
   ·rw[zG hn] at h
    have:=congrArg List.length h
    have h2:=List.length_pos_iff.2 (Py (n / 10))
    simp only[List.length_append,List.length_cons,List.length_nil] at this
    omega
  |
   succ k ih =>
   intro m n hm h
   by_cases h1:m<10
   ·rw[iD h1] at h
    by_cases hn:n<10
    ·rw[iD hn] at h
     have h1:=List.singleton_inj.1 h
     unfold d10 at h1
     have:=congrArg UInt8.toNat h1
     simp at this
     omega
    ·rw[zG hn] at h
     have:=congrArg List.length h
     have h2:=List.length_pos_iff.2 (Py (n / 10))
     simp only[List.length_append,List.length_cons,List.length_nil] at this
     omega
   ·rw[zG h1] at h
    by_cases hn:n<10
    ·rw[iD hn] at h
     have:=congrArg List.length h
     have h2:=List.length_pos_iff.2 (Py (m / 10))
     simp only[List.length_append,List.length_cons,List.length_nil] at this
     omega
    ·rw[zG hn] at h
     obtain⟨h2,h3⟩:=List.append_inj' h rfl
     have h4:=ih (m / 10) (n / 10) (by rw[Nat.pow_succ] at hm;omega) h2
     have h5:=List.singleton_inj.1 h3
     unfold d10 at h5
     have:=congrArg UInt8.toNat h5
     simp at this
     omega
 exact key m m n (Nat.lt_trans (Nat.lt_pow_self (by decide)) (Nat.pow_lt_pow_right (by decide) (Nat.lt_succ_self m))) h
def EL (q:Rat):List UInt8:=(if q.num<0 then [45] else [])++decDigits q.num.natAbs++(if q.den=1 then [] else 47::decDigits q.den)
def vI (q:Rat):Bool:=decide ((decDigits q.num.natAbs).length≤200)&&decide ((decDigits q.den).length≤200)
theorem Au (n:Nat):(decDigits n).length≤bl n+1:=by
 by_cases h:n=0
 ·subst h;rw[iD (by decide)];simp
 ·have h1:=abT h
  obtain⟨k,hk⟩:∃k,bl n=k+1:=⟨bl n-1,by omega⟩
  have h2:=N2 n
  rw[hk] at h2 ⊢
  have h3:2^(k+1)≤10^(k+1):=Nat.pow_le_pow_left (by decide) _
  have:=yG n k (by omega)
  omega
end Go.PM
namespace Go.PM
open Go.Lib
theorem PL (a b:List UInt8):dB .neq (.string ⟨a.toArray⟩) (.string ⟨b.toArray⟩)=some (.bool (!decide (a=b))):=by
 have h:∀l:List UInt8,(ByteArray.toList ⟨l.toArray⟩)=l:=fun l=>by rw[ByteArray.toList_eq]
 show some (Value.bool (!(ByteArray.toList ⟨a.toArray⟩ == ByteArray.toList ⟨b.toArray⟩)))=_
 rw[h,h]
 congr 3
 cases h2:a == b
 ·rw[decide_eq_false (by simpa using h2)]
 ·rw[decide_eq_true (by simpa using h2)]
theorem Vk (a b:List UInt8):dB .eql (.string ⟨a.toArray⟩) (.string ⟨b.toArray⟩)=some (.bool (decide (a=b))):=by
 have h:∀l:List UInt8,(ByteArray.toList ⟨l.toArray⟩)=l:=fun l=>by rw[ByteArray.toList_eq]
 show some (Value.bool (ByteArray.toList ⟨a.toArray⟩ == ByteArray.toList ⟨b.toArray⟩))=_
 rw[h,h]
 congr 2
 cases h2:a == b
 ·rw[decide_eq_false (by simpa using h2)]
 ·rw[decide_eq_true (by simpa using h2)]
theorem Lk {n:Nat}:(decDigits n=[49])↔n=1:=by
 have e:decDigits 1=[49]:=by rw[iD (by decide)];rfl
 rw[←e]
 exact⟨agJ,fun h=>by rw[h]⟩
theorem Jd (q:Rat) (hk:aZ q≤1099511627776):TC 180 [bK q] (.eY [aU (EL q),VB (vI q)]):=by
 refine TC.walk ⟨true,false⟩ F7 rfl (Nat.le_of_ble_eq_true rfl) (by simp[aL,kZ]) rfl ?_
 have la:=BC hk
 have lb:=Bn hk
 have t1:=BT q.num.natAbs (aqH (by omega))
 have t2:=BT q.den (aqH (by omega))
 have d1:=Au q.num.natAbs
 have d2:=Au q.den
 have a1:dB .add (.string ⟨#[45]⟩) (.string ⟨(decDigits q.num.natAbs).toArray⟩)=some (.string ⟨(45::decDigits q.num.natAbs).toArray⟩):=qD [45] _ (by simp only[List.length_cons,List.length_nil];omega)
 have a2:dB .add (.string ⟨#[47]⟩) (.string ⟨(decDigits q.den).toArray⟩)=some (.string ⟨(47::decDigits q.den).toArray⟩):=qD [47] (decDigits q.den) (by simp only[List.length_cons,List.length_nil];omega)
 have a3:=qD (45::decDigits q.num.natAbs) (47::decDigits q.den) (by simp only[List.length_cons];omega)
 have a4:=qD (decDigits q.num.natAbs) (47::decDigits q.den) (by simp only[List.length_cons];omega)
 have ne:dB .neq (.string ⟨(decDigits q.den).toArray⟩) (.string ⟨#[49]⟩)=_:=PL (decDigits q.den) [49]
 have hf:vI q=(decide (((decDigits q.num.natAbs).length:Int)≤200)&&decide (((decDigits q.den).length:Int)≤200)):=by
  unfold vI
  congr 1<;>exact decide_eq_decide.2 (by omega)
 rw[hf]
 have hs:EL q=(if q.num<0 then (45::decDigits q.num.natAbs) else decDigits q.num.natAbs)++(if q.den=1 then [] else 47::decDigits q.den):=by
  unfold EL
  by_cases hn:q.num<0
  ·rw[if_pos hn,if_pos hn];rfl
  ·rw[if_neg hn,if_neg hn];rfl
 rw[hs]
 by_cases hd:q.den=1
 ·rw[decide_eq_true (Lk.2 hd)] at ne
  rw[if_pos hd,List.append_nil]
  by_cases hn:q.num<0<;>by_cases hl:((decDigits q.num.natAbs).length:Int)≤200
  all_goals
   simp only[uY,rV,t1,t2,a1,a2,a3,a4,ne,hn,hl,bJ,aK,fD,nH,nO,sI,dN,bF,bE,aT,kQ,Nat.reduceLeDiff,Nat.reduceLT,Nat.reduceSub,VX,Nat.reduceEqDiff,Nat.reduceAdd]
   exact aF rfl
 ·rw[decide_eq_false (mt Lk.1 hd)] at ne
  rw[if_neg hd]
  by_cases hn:q.num<0<;>by_cases hl:((decDigits q.num.natAbs).length:Int)≤200
  all_goals
   simp only[uY,rV,t1,t2,a1,a2,a3,a4,ne,hn,hl,bJ,aK,fD,nH,nO,sI,dN,bF,bE,aT,kQ,Nat.reduceLeDiff,Nat.reduceLT,Nat.reduceSub,VX,Nat.reduceEqDiff,Nat.reduceAdd]
   exact aF rfl
def R8 (q:Rat):VV:=if vI q=true then .eY [aU (EL q),VB true] else .eY [aU [],VB false]
theorem XY (q:Rat):gZ (R8 q)=true:=by unfold R8;split<;>rfl
end Go.PM
namespace Go.PM
open Go.Lib
abbrev bV (b:UInt8):VV := .sc (.int .u8 (b.toNat:Int))
theorem K0:∀bs:List UInt8,Hy (bs.map bV)=some bs
 | []=>rfl
 |
  b::bs=>by
  rw[List.map_cons]
  show (Hy (bs.map bV)).map (UInt8.ofNat ((b.toNat:Int)).toNat :: ·)=_
  rw[K0 bs]
  simp
structure E0 (v:VV) (H:aA) (bs:List UInt8):Prop where
 len:oC v H=some (VI bs.length)
 src:cW 1 v H=some (bs.map bV)
 nsc:∀x,v ≠ .sc x
theorem E0.str {v:VV} {H:aA} {bs:List UInt8} (h:E0 v H bs) {fl:Fl} {lo:Nat} {x:Operand} {ρ:dG} (hx:dX ρ x=v):vop fl lo (.b2s x) ρ H=some (aU bs,H):=by
 have h1:=h.nsc
 have h2:=h.src
 unfold vop
 dsimp only
 rw[hx]
 cases v with
 | sc x=>exact absurd rfl (h1 x)
 | _=>simp only[h2,K0,Option.map_some]
theorem XP {bs:List UInt8} {k:TK} {H:aA}:cW 1 (.tree (bs.map bV) k) H=some (bs.map bV):=by
 have:((bs.map bV).all fun x=>(aB x).length == 1&&(aB x).all bP)=true:=by
  rw[List.all_eq_true]
  intro x hx
  obtain⟨d,_,rfl⟩:=List.mem_map.1 hx
  rfl
 simp only[cW,this,if_true]
theorem E0.tree {bs:List UInt8} {k:TK} {H:aA}:E0 (.tree (bs.map bV) k) H bs:=⟨dQ,XP,fun x=>by simp⟩
theorem E0.row {bs:List UInt8} {H:aA} {b g:Nat} {w:Bool} (h:aH H b g=some (bs.map bV,1,w)):E0 (.ref b g 0 bs.length bs.length) H bs:=by
 refine⟨dR h,?_,fun x=>by simp⟩
 have lF:(((bs.map bV).drop 0).take bs.length).all (fun x=>(aB x).all bP)=true:=by
  rw[List.all_eq_true]
  intro x hx
  obtain⟨d,_,rfl⟩:=List.mem_map.1 (List.mem_of_mem_drop (List.mem_of_mem_take hx))
  rfl
 simp only[cW,h]
 rw[if_pos ⟨trivial,by simp,lF⟩,List.drop_zero,List.take_of_length_le (by simp)]
theorem E0.cons {v:VV} {H:aA} {bs:List UInt8} (h:E0 v H bs) (x:UInt8) (hl:bs.length≤1000000) (lo:Nat):∃v' H',eO lo 1 1 (.tree [bV x] (.cl 1)) (bs.map bV) H=some (v',H')∧E0 v' H' (x::bs):=by
 by_cases hb:bs=[]
 ·subst hb
  exact⟨_,_,rfl,E0.tree (bs:=[x])⟩
 ·have fC:bs.length≠0:=fun h=>hb (List.length_eq_zero_iff.1 h)
  refine⟨.ref H.length 0 0 (x::bs).length (x::bs).length,H++[.row 0 ((x::bs).map bV) 1 true],?_,E0.row (Qy rfl)⟩
  simp only[eO,List.length_map]
  rw[if_pos ⟨by decide,by decide⟩,if_pos trivial,if_neg fC,if_pos (by simp;omega)]
  simp[Nat.add_comm]
theorem RM (r:Int):dB .rem (.int .i64 r) (.int .i64 10)=some (.int .i64 (r.tmod 10)):=rfl
theorem aiU (r:Int) (h0 : -9223372036854775808≤r) (h1:r≤9223372036854775807):dB .quo (.int .i64 r) (.int .i64 10)=some (.int .i64 (r.tdiv 10)):=by
 show some (Value.int .i64 (IntKind.i64.wrap (r.tdiv 10)))=_
 have h2:(r.tdiv 10).natAbs=r.natAbs / 10:=by rw[Int.natAbs_tdiv];rfl
 rw[wrap64 (by omega) (by omega)]
theorem Nz {d:Nat} (h:d<10):(d10 d).toNat=48+d:=by
 unfold d10
 simp
 omega
theorem GZ {n r:Nat} {bs:List UInt8} (h:decDigits n=decDigits r++bs):decDigits n=kW (r / 10)++d10 (r % 10)::bs:=by
 rw[h]
 by_cases hr:r<10
 ·rw[iD hr,kW,if_pos (by omega),Nat.mod_eq_of_lt hr];rfl
 ·rw[zG hr,kW,if_neg (by omega),List.append_assoc];rfl
theorem MB (n:Int) (h0 : -9223372036854775808≤n) (h1:n≤9223372036854775807):TC 219 [VI n] (aU ((if n<0 then [45] else [])++decDigits n.natAbs)):=by
 refine TC.walk ⟨true,false⟩ MD rfl (Nat.le_of_ble_eq_true rfl) rfl rfl ?_
 have e0:∀lr,mF lr [.int .u8 0] 0 [] []=some (.ref 0 0 0 0 0,[.row 0 (([]:List UInt8).map bV) 1 true]):=fun lr=>kA (H:=[]) rfl
 have e1:∀(x:UInt8) (H:aA),mF false [.int .u8 0] 1 [(0,bV x)] H=some (.tree [bV x] (.cl 1),H):=fun x H=>iJ rfl rfl rfl
 have hdl:=yG n.natAbs 19 (by omega)
 simp only[IS,EC,e0,VX,Nat.reduceEqDiff,Nat.reduceAdd]
 refine aQ (fun(s:Int×List UInt8) ρ H => -9223372036854775808≤s.1∧s.1≤9223372036854775807∧(s.2=[]→s.1=n)∧(s.2≠[]→decDigits n.natAbs=kW s.1.natAbs++s.2)∧E0 (ρ 3) H s.2∧ρ 0=VI n∧ρ 4=VI s.1) (fun s=>s.1.natAbs+(if s.2=[] then 1 else 0)) (n,[]) ⟨h0,h1,fun _=>rfl,fun h=>absurd rfl h,by simp only[VX,Nat.reduceEqDiff,Nat.reduceAdd];exact E0.row (bs:=[]) aS,rfl,rfl⟩ ?_
 rintro⟨r,bs⟩ ρ H ⟨sN,Fy,hn,hd,ho,g0,g4⟩
 simp only at sN Fy hn hd ho g4
 generalize hv3:ρ 3=v3 at ho
 have hlen:=ho.len
 have Am:=ho.src
 by_cases KC:bs≠[]∧r=0
 ·obtain⟨hb,hr⟩:=KC
  subst hr
  have hl:¬(bs.length:Int)=0:=by have:=List.length_pos_iff.2 hb;omega
  have Zz:=hd hb
  simp only[kW,Int.natAbs_zero,if_true,List.nil_append] at Zz
  by_cases lU:n<0
  ·obtain⟨v',H',ap,ho'⟩:=ho.cons 45 (by rw[←Zz];omega) 0
   have VE:mF false [.int .u8 0] 1 [(0,.sc (.int .u8 45))] H=some (.tree [bV 45] (.cl 1),H):=e1 45 H
   have bs2:=fun bC (h:dX bC (.tmp 34)=v')=>ho'.str (fl:=⟨true,false⟩) (lo:=0) h
   simp only[jD,g0,g4,hv3,hlen,hl,VX,Nat.reduceEqDiff,Nat.reduceAdd]
   simp only[g0,lU,hv3,VE,Am,ap,Pg,VX,Nat.reduceEqDiff,Nat.reduceAdd]
   rw[bs2 _ (by rfl)]
   simp only[VX,Nat.reduceEqDiff,Nat.reduceAdd]
   rw[Zz]
   exact aF rfl
  ·have bs2:=fun bC (h:dX bC (.tmp 34)=v3)=>ho.str (fl:=⟨true,false⟩) (lo:=0) h
   simp only[jD,g0,g4,hv3,hlen,hl,VX,Nat.reduceEqDiff,Nat.reduceAdd]
   simp only[g0,lU,hv3,Pg,VX,Nat.reduceEqDiff,Nat.reduceAdd]
   rw[bs2 _ (by simp only[VX,Nat.reduceEqDiff,Nat.reduceAdd];try exact hv3)]
   simp only[VX,Nat.reduceEqDiff,Nat.reduceAdd]
   rw[Zz]
   exact aF rfl
 ·have hm:r.tmod 10=if r<0 then -((r.natAbs % 10:Nat):Int) else ((r.natAbs % 10:Nat):Int):=by
   have:=Int.tmod_eq_emod_of_nonneg (a:=r) (b:=10)
   by_cases h:r<0
   ·rw[if_pos h]
    have h2:=Int.neg_tmod (-r) 10
    rw[Int.neg_neg] at h2
    rw[h2,Int.tmod_eq_emod_of_nonneg (by omega)]
    omega
   ·rw[if_neg h,this (by omega)]
    omega
  have hq:(r.tdiv 10).natAbs=r.natAbs / 10:=by rw[Int.natAbs_tdiv];rfl
  have hmd:=Nat.mod_lt r.natAbs (show 0<10 by decide)
  have q1:=aiU r sN Fy
  have sS:bs.length≤19:=by
   by_cases hb:bs=[]
   ·subst hb;simp
   ·have h2:=hd hb
    have h3:=congrArg List.length h2
    rw[List.length_append] at h3
    have h4:r≠0:=fun h=>KC ⟨hb,h⟩
    have h5:=List.length_pos_iff.2 (Py r.natAbs)
    rw[kW,if_neg (by omega)] at h3
    omega
  obtain⟨v',H',ap,ho'⟩:=ho.cons (d10 (r.natAbs % 10)) (by omega) 0
  have w2:IntKind.i64.wrap (48+((r.natAbs % 10:Nat):Int))=((48+r.natAbs % 10:Nat):Int):=wrapN _ (by omega) (by omega)
  have w3:IntKind.u8.wrap ((48+r.natAbs % 10:Nat):Int)=((48+r.natAbs % 10:Nat):Int):=by
   simp[IntKind.wrap,IntKind.bits,IntKind.signed]
   omega
  have hx:VV.sc (.int .u8 ((48+r.natAbs % 10:Nat):Int))=bV (d10 (r.natAbs % 10)):=by rw[bV,Nz hmd]
  have VE:=e1 (d10 (r.natAbs % 10)) H
  rw[←hx] at VE ap
  have next:∃s':Int×List UInt8,s'.1.natAbs+(if s'.2=[] then 1 else 0)<r.natAbs+(if bs=[] then 1 else 0) ∧ -9223372036854775808≤s'.1∧s'.1≤9223372036854775807∧(s'.2=[]→s'.1=n)∧(s'.2≠[]→decDigits n.natAbs=kW s'.1.natAbs++s'.2)∧E0 v' H' s'.2∧r.tdiv 10=s'.1:=by
   refine⟨(r.tdiv 10,d10 (r.natAbs % 10)::bs),?_,by simp only;omega,by simp only;omega,fun h=>(by simp at h),fun _ => ?_,ho',rfl⟩
   ·simp only[hq,List.cons_ne_nil,if_false]
    by_cases hb:bs=[]
    ·rw[if_pos hb];omega
    ·have h4:r≠0:=fun h=>KC ⟨hb,h⟩
     rw[if_neg hb];omega
   ·simp only[hq]
    by_cases hb:bs=[]
    ·subst hb
     refine GZ ?_
     rw[hn rfl,List.append_nil]
    ·have h4:r≠0:=fun h=>KC ⟨hb,h⟩
     have h2:=hd hb
     rw[kW,if_neg (by omega)] at h2
     exact GZ h2
  by_cases hrn:r.tmod 10<0
  ·have w1:IntKind.i64.wrap (0-r.tmod 10)=((r.natAbs % 10:Nat):Int):=by
    have:r.tmod 10 = -((r.natAbs % 10:Nat):Int):=by
     by_cases h:r<0
     ·rw[if_pos h] at hm;exact hm
     ·rw[if_neg h] at hm;omega
    rw[this]
    exact wrapN _ (by omega) (by omega)
   by_cases hb:bs=[]
   ·have hl:(bs.length:Int)=0:=by rw[hb];rfl
    simp only[jD,g0,g4,hv3,hlen,hl,RM,q1,hrn,w1,w2,w3,VE,Am,ap,VX,Nat.reduceEqDiff,Nat.reduceAdd]
    obtain⟨s',n1,n2,n3,n4,n5,n6,n7⟩:=next
    exact⟨s',n1,n2,n3,n4,n5,n6,by rw[n7]⟩
   ·have hl:¬(bs.length:Int)=0:=by have:=List.length_pos_iff.2 hb;omega
    have hr:¬r=0:=fun h=>KC ⟨hb,h⟩
    simp only[jD,g0,g4,hv3,hlen,hl,hr,RM,q1,hrn,w1,w2,w3,VE,Am,ap,VX,Nat.reduceEqDiff,Nat.reduceAdd]
    obtain⟨s',n1,n2,n3,n4,n5,n6,n7⟩:=next
    exact⟨s',n1,n2,n3,n4,n5,n6,by rw[n7]⟩
  ·have hmm:r.tmod 10=((r.natAbs % 10:Nat):Int):=by
    rw[hm] at hrn ⊢
    split
    ·rename_i h;rw[if_pos h] at hrn;omega
    ·rfl
   have apL:¬((r.natAbs % 10:Nat):Int)<0:=by omega
   by_cases hb:bs=[]
   ·have hl:(bs.length:Int)=0:=by rw[hb];rfl
    simp only[jD,g0,g4,hv3,hlen,hl,RM,hmm,q1,apL,w2,w3,VE,Am,ap,VX,Nat.reduceEqDiff,Nat.reduceAdd]
    obtain⟨s',n1,n2,n3,n4,n5,n6,n7⟩:=next
    exact⟨s',n1,n2,n3,n4,n5,n6,by rw[n7]⟩
   ·have hl:¬(bs.length:Int)=0:=by have:=List.length_pos_iff.2 hb;omega
    have hr:¬r=0:=fun h=>KC ⟨hb,h⟩
    simp only[jD,g0,g4,hv3,hlen,hl,hr,RM,hmm,q1,apL,w2,w3,VE,Am,ap,VX,Nat.reduceEqDiff,Nat.reduceAdd]
    obtain⟨s',n1,n2,n3,n4,n5,n6,n7⟩:=next
    exact⟨s',n1,n2,n3,n4,n5,n6,by rw[n7]⟩
end Go.PM
namespace Go.PM
abbrev YK (c:List (List ByteArray)):VV := .agg [rX c]
theorem AH (c:List (List ByteArray)):aN (YK c)=true:=by
 show aL [rX c]=true
 simp only[aL,Bc,Bool.and_self]
theorem O9 {c:List (List ByteArray)}:dA false 1 (YK c) 0=some (rX c):=rfl
def CM (n:Nat) (H:aA) (bare:Bool) (c:List (List ByteArray)) (r:VV):Prop:=∃c0,r = .agg [c0]∧xJ n H bare c c0
theorem CM.cB {n:Nat} {H H':aA} {bare:Bool} {s:List (List ByteArray)} {c:VV} (h:CM n H bare s c) (hk:∀b g x,n<b→aH H b g=some x→aH H' b g=some x):CM n H' bare s c:=by
 obtain⟨c0,rfl,h0⟩:=h
 exact⟨c0,rfl,h0.cB hk⟩
theorem CM.pre {n:Nat} {H H':aA} {bare:Bool} {s:List (List ByteArray)} {c:VV} (h:CM n H bare s c) (hh:H <+: H'):CM n H' bare s c:=h.cB fun _ _ _ _=>cC hh
theorem CM.fz {n:Nat} {H:aA} {bare:Bool} {s:List (List ByteArray)} {c:VV} (h:CM n H bare s c):PM.fz depth H c=some (YK s):=by
 obtain⟨c0,rfl,h0⟩:=h
 have f0:=h0.fz (d:=4)
 have e:PM.fz (7+1) H (.agg [c0])=if aN (.agg [c0])=true then some (.agg [c0]) else ([c0].mapM (PM.fz 7 H)).map .agg:=rfl
 show PM.fz (7+1) H (.agg [c0])=_
 rw[e]
 by_cases hp:aN (.agg [c0])=true
 ·rw[if_pos hp]
  have hu:aN c0=true:=by simpa[aN,aL] using hp
  rw[aJ hu] at f0
  cases f0
  rfl
 ·rw[if_neg hp,List.mapM_cons,f0]
  rfl
end Go.PM
namespace Go.PM
open Go.Lib
def gW (c:UInt8):Bool:=decide (48≤c.toNat)&&decide (c.toNat≤57)
def dv (c:UInt8):Nat:=c.toNat-48
def Kr (a:Nat) (l:List UInt8):Nat:=l.foldl (fun a c=>a*10+dv c) a
def bQ (l:List UInt8):Nat:=Kr 0 l
theorem Vm (l:List UInt8):∀a,Kr a l=a*10^l.length+bQ l:=by
 induction l with
 | nil=>intro a;simp[Kr,bQ]
 |
  cons c l ih =>
  intro a
  have h1:Kr a (c::l)=Kr (a*10+dv c) l:=rfl
  have h2:bQ (c::l)=Kr (0*10+dv c) l:=rfl
  rw[h1,h2,ih,ih (0*10+dv c),List.length_cons,Nat.pow_succ]
  grind
theorem Lt (a b:List UInt8):bQ (a++b)=bQ a*10^b.length+bQ b:=by
 have:bQ (a++b)=Kr (bQ a) b:=by unfold bQ Kr;rw[List.foldl_append]
 rw[this,Vm]
theorem Lv:bQ []=0:=rfl
theorem WW (a:List UInt8) (c:UInt8):bQ (a++[c])=bQ a*10+dv c:=by
 rw[Lt]
 simp[bQ,Kr]
theorem ahU {c:UInt8} (h:gW c=true):dv c<10:=by
 simp only[gW,Bool.and_eq_true,decide_eq_true_eq] at h
 unfold dv
 omega
theorem FK:∀ {l:List UInt8},l.all gW=true→bQ l<10^l.length:=by
 intro l
 induction l with
 | nil=>intro _;decide
 |
  cons c l ih =>
  intro h
  rw[List.all_cons,Bool.and_eq_true] at h
  have h1:=ahU h.1
  have h2:=ih h.2
  have h3:bQ (c::l)=Kr (0*10+dv c) l:=rfl
  rw[h3,Vm,List.length_cons,Nat.pow_succ]
  have h4:(0*10+dv c)*10^l.length≤9*10^l.length:=Nat.mul_le_mul_right _ (by omega)
  omega
theorem amV {M:Nat} (hM:1000000000000000000≤M):∀(l:List UInt8) (k acc:Nat),l.all gW=true→acc<10^k→k+l.length≤18→parseUintM M acc l = .ok (Kr acc l):=by
 intro l
 induction l with
 | nil=>intro k acc _ _ _;rfl
 |
  cons c l ih =>
  intro k acc h hk hl
  rw[List.all_cons,Bool.and_eq_true] at h
  have h1:=ahU h.1
  have h0:=h.1
  simp only[gW,Bool.and_eq_true,decide_eq_true_eq] at h0
  rw[List.length_cons] at hl
  have h18:acc<10^17:=Nat.lt_of_lt_of_le hk (Nat.pow_le_pow_right (by decide) (by omega))
  have e17:(10:Nat)^17=100000000000000000:=by decide
  rw[e17] at h18
  have hd:c.toNat-48=dv c:=rfl
  rw[parseUintM,if_pos h0,if_neg (by omega),hd,if_neg (by omega),ih (k+1) _ h.2 (by rw[Nat.pow_succ];omega) (by omega)]
  rfl
theorem alB {l:List UInt8} (h:l.all gW=true) (h0:l≠[]) (hl:l.length≤18):parseUintB 64 l = .ok (bQ l):=by
 unfold parseUintB
 rw[if_neg h0]
 exact amV (by decide) l 0 0 h (by decide) (by omega)
def gS (l:List UInt8):Bool:=l.all gW&&decide (1≤l.length)&&decide (l.length≤200)&&(decide (l.length=1) || !decide (l.getD 0 0=48))
theorem iW {l:List UInt8}:gS l=true↔l.all gW=true∧1≤l.length∧l.length≤200∧(l.length=1∨l.getD 0 0≠48):=by
 unfold gS
 simp only[Bool.and_eq_true,Bool.or_eq_true,Bool.not_eq_true',decide_eq_true_eq,decide_eq_false_iff_not,ne_eq,and_assoc]
theorem wO {l:List UInt8} (h:gS l=true):bl (bQ l)≤665:=by
 obtain⟨h1,h2,h3,_⟩:=iW.1 h
 refine GF (Nat.lt_of_lt_of_le (FK h1) ?_)
 exact Nat.le_trans (Nat.pow_le_pow_right (by decide) h3) (by decide +kernel)
def lH (c:UInt8):List UInt8→List UInt8×Option (List UInt8)
 | []=>([],none)
 | x::r=>if x=c then ([],some r) else (x::(lH c r).1,(lH c r).2)
theorem AQ {c:UInt8}:∀ {l:List UInt8},(lH c l).2=none→indexByte l c = -1∧(lH c l).1=l∧c∉l:=by
 intro l
 induction l with
 | nil=>intro _;exact⟨rfl,rfl,by simp⟩
 |
  cons x l ih =>
  intro h
  unfold lH at h ⊢
  by_cases hx:x=c
  ·rw[if_pos hx] at h
   cases h
  ·rw[if_neg hx] at h ⊢
   obtain⟨h1,h2,h3⟩:=ih h
   refine⟨?_,by rw[h2],?_⟩
   ·rw[indexByte,if_neg (by simpa using hx),h1]
    rfl
   ·rw[List.mem_cons,not_or]
    exact⟨fun h=>hx h.symm,h3⟩
theorem HH {c:UInt8}:∀ {l r:List UInt8},(lH c l).2=some r→indexByte l c=((lH c l).1.length:Int)∧l=(lH c l).1++c::r∧c∉(lH c l).1:=by
 intro l
 induction l with
 | nil=>intro r h;cases h
 |
  cons x l ih =>
  intro r h
  unfold lH at h ⊢
  by_cases hx:x=c
  ·rw[if_pos hx] at h ⊢
   cases h
   subst hx
   refine⟨?_,rfl,by simp⟩
   rw[indexByte,if_pos (by simp)]
   rfl
  ·rw[if_neg hx] at h ⊢
   obtain⟨h1,h2,h3⟩:=ih h
   refine⟨?_,?_,?_⟩
   ·rw[indexByte,if_neg (by simpa using hx),h1,if_neg]
    ·simp
    ·simp
   ·conv=>lhs;rw[h2]
    rfl
   ·rw[List.mem_cons,not_or]
    exact⟨fun h=>hx h.symm,h3⟩
def nU (neg:Bool) (d:List UInt8) (s:Option (List UInt8)):Option Rat :=
 if gS d=false∨(neg=true∧bQ d=0) then none else
 match s with
 | none=>some (mkRat (pJ neg (bQ d)) 1)
 | some t=>if gS t=true∧1<bQ t∧Nat.gcd (bQ d) (bQ t)=1 then some (mkRat (pJ neg (bQ d)) (bQ t)) else none
def isNeg (l:List UInt8):Bool:=decide (1≤l.length)&&decide (l.getD 0 0=45)
def xZ (l:List UInt8):Option Rat:=nU (isNeg l) ((lH 47 (if isNeg l then l.drop 1 else l)).1) ((lH 47 (if isNeg l then l.drop 1 else l)).2)
theorem SW {neg:Bool} {d:List UInt8} {s:Option (List UInt8)} {q:Rat} (h:nU neg d s=some q):gS d=true∧¬(neg=true∧bQ d=0)∧((s=none∧q=mkRat (pJ neg (bQ d)) 1)∨∃t,s=some t∧gS t=true∧1<bQ t∧Nat.gcd (bQ d) (bQ t)=1∧q=mkRat (pJ neg (bQ d)) (bQ t)):=by
 unfold nU at h
 split at h
 ·cases h
 ·rename_i hc
  rw[not_or] at hc
  refine⟨by simpa using hc.1,hc.2,?_⟩
  split at h
  ·exact .inl ⟨rfl,(Option.some.inj h).symm⟩
  ·rename_i t
   split at h
   ·rename_i ht
    exact .inr ⟨t,rfl,ht.1,ht.2.1,ht.2.2,(Option.some.inj h).symm⟩
   ·cases h
theorem Sz {neg:Bool} {d:List UInt8} {s:Option (List UInt8)} {q:Rat} (h:nU neg d s=some q):aZ q≤665:=by
 obtain⟨h1,_,h3⟩:=SW h
 have hb:=wO h1
 rcases h3 with⟨_,rfl⟩ | ⟨t,_,h4,h5,_,rfl⟩
 ·exact FE (by rw[zJ];exact hb) (GF (by decide +kernel)) (by decide)
 ·exact FE (by rw[zJ];exact hb) (wO h4) (by omega)
theorem TN {l:List UInt8} {q:Rat} (h:xZ l=some q):aZ q≤665:=Sz h
theorem IT {neg:Bool} {t b:Nat} (hb:b≠0) (hg:Nat.gcd t b=1):(mkRat (pJ neg t) b).num=pJ neg t∧(mkRat (pJ neg t) b).den=b:=by
 rw[Ku hb,Ut hb,hg,Nat.div_one,Nat.div_one]
 exact⟨rfl,rfl⟩
theorem Fa {c:UInt8} {l:List UInt8}:isNeg (c::l)=decide (c=45):=by simp[isNeg]
theorem ZC {l:List UInt8} (h:l.all gW=true):(47:UInt8)∉l:=by
 intro hm
 have:=List.all_eq_true.1 h _ hm
 exact absurd this (by decide)
end Go.PM
namespace Go.PM
open Go.Lib
theorem CY (l:List UInt8) {i:Nat} (h:i<l.length):F5 (.string ⟨l.toArray⟩) (.int .i64 (i:Int))=some (.int .u8 ((l.getD i 0).toNat:Int)):=by
 have hs:(⟨l.toArray⟩:ByteArray).size=l.length:=by simp[ByteArray.size]
 have e1:(0:Int)≤i∧(i:Int)<(l.length:Int):=by omega
 simp only[F5,hs,e1,and_self,if_true,Int.toNat_natCast]
theorem G0 (l:List UInt8) (h:0<l.length):F5 (.string ⟨l.toArray⟩) (.int .i64 0)=some (.int .u8 ((l.getD 0 0).toNat:Int)):=CY l h
theorem GC (l:List UInt8) (a b:Nat):(⟨l.toArray⟩:ByteArray).extract a b=⟨((l.drop a).take (b-a)).toArray⟩:=by
 rw[ByteArray.ext_iff,ByteArray.data_extract]
 simp[List.extract_toArray,List.extract_eq_take_drop]
theorem EU (l:List UInt8) {a:Nat} (h:a≤l.length):uL (aU l) (some (VI (a:Int))) none=some (aU (l.drop a)):=by
 have hs:(⟨l.toArray⟩:ByteArray).size=l.length:=by simp[ByteArray.size]
 have e2:(0:Int)≤a∧(a:Int)≤(l.length:Int):=by omega
 simp only[uL,E2,zE,hs,eH,e2,and_self,if_true,Int.toNat_natCast,GC]
 rw[List.take_of_length_le (by simp)]
theorem Mi (l:List UInt8) {b:Nat} (hb:b≤l.length):uL (aU l) none (some (VI (b:Int)))=some (aU (l.take b)):=by
 have hs:(⟨l.toArray⟩:ByteArray).size=l.length:=by simp[ByteArray.size]
 have e1:(0:Int)≤b∧(b:Int)≤(l.length:Int):=by omega
 simp only[uL,E2,zE,hs,eH,e1,and_self,if_true,Int.toNat_natCast,GC]
 rw[List.drop_zero,Nat.sub_zero]
theorem Qz (l:List UInt8):dB .eql (.string ⟨l.toArray⟩) (.string ⟨#[]⟩)=some (.bool (decide (l=[]))):=Vk l []
theorem Is (l:List UInt8):dB .neq (.string ⟨l.toArray⟩) (.string ⟨#[]⟩)=some (.bool (!decide (l=[]))):=PL l []
theorem Qg (l:List UInt8):TC 210 [aU l,aU [45]] (VB (isNeg l)):=by
 refine TC.walk ⟨true,false⟩ sG rfl (Nat.le_of_ble_eq_true rfl) rfl rfl ?_
 have e1:AU (.string ⟨#[45]⟩)=some (.int .i64 1):=rfl
 by_cases h:(1:Int)≤(l.length:Int)
 ·have e2:=Mi l (b:=1) (by omega)
  have e2:uL (aU l) none (some (VI 1))=some (aU (l.take 1)):=e2
  have e3:dB .eql (.string ⟨(l.take 1).toArray⟩) (.string ⟨#[45]⟩)=some (.bool (decide (l.take 1=[45]))):=Vk (l.take 1) [45]
  have e4:isNeg l=decide (l.take 1=[45]):=by
   cases l with
   | nil=>exact absurd h (by decide)
   | cons c l=>rw[Fa];simp
  rw[e4]
  simp only[gN,gA,bJ,e1,ge_iff_le,h,e2,e3,VX,Nat.reduceEqDiff,Nat.reduceAdd]
  exact aF rfl
 ·have e4:isNeg l=false:=by unfold isNeg;rw[decide_eq_false (by omega)];rfl
  rw[e4]
  simp only[gN,gA,bJ,e1,ge_iff_le,h,VX,Nat.reduceEqDiff,Nat.reduceAdd]
  exact aF rfl
theorem OQ (l:List UInt8):TC 191 [aU l,aU [45]] (.eY [aU (if isNeg l then l.drop 1 else l),VB (isNeg l)]):=by
 refine TC.walk ⟨true,false⟩ sD rfl (Nat.le_of_ble_eq_true rfl) rfl rfl ?_
 have e0:=Qg l
 have e1:AU (.string ⟨#[45]⟩)=some (.int .i64 1):=rfl
 cases h:isNeg l with
 |
  true =>
  rw[h] at e0
  have hl:1≤l.length:=by
   cases l with
   | nil=>cases h
   | cons c l=>simp
  have e2:uL (aU l) (some (VI 1)) none=some (aU (l.drop 1)):=EU l (a:=1) hl
  simp only[gK,fR,e0,e1,e2,VX,Nat.reduceEqDiff,Nat.reduceAdd]
  exact aF rfl
 |
  false =>
  rw[h] at e0
  simp only[gK,fR,e0,Bool.false_eq_true,if_false,VX,Nat.reduceEqDiff,Nat.reduceAdd]
  exact aF rfl
theorem Q7 (l:List UInt8):TC 173 [aU l,aU [45]] (.eY [aU (if isNeg l then l.drop 1 else l),VB (isNeg l)]):=by
 refine TC.walk ⟨true,false⟩ Ea rfl (Nat.le_of_ble_eq_true rfl) rfl rfl ?_
 have e0:=OQ l
 simp only[yS,vD,e0,VX,Nat.reduceEqDiff,Nat.reduceAdd]
 exact aF rfl
theorem alR (l:List UInt8) (hl:l.length≤1000000000000):TC 190 [aU l,aU [47]] (.eY [aU (lH 47 l).1,aU ((lH 47 l).2.getD []),VB (lH 47 l).2.isSome]):=by
 refine TC.walk ⟨true,false⟩ yD rfl (Nat.le_of_ble_eq_true rfl) rfl rfl ?_
 have e0:=afM l 47
 have e1:AU (.string ⟨#[47]⟩)=some (.int .i64 1):=rfl
 cases h:(lH 47 l).2 with
 |
  none =>
  obtain⟨h1,h2,_⟩:=AQ h
  rw[h1] at e0
  rw[h2]
  simp only[kI,jH,e0,ge_iff_le,Int.reduceNeg,Int.reduceLE,VX,Nat.reduceEqDiff,Nat.reduceAdd]
  exact aF rfl
 |
  some r =>
  obtain⟨h1,h2,_⟩:=HH h
  rw[h1] at e0
  generalize (lH 47 l).1=a at *
  subst h2
  rw[List.length_append,List.length_cons] at hl
  have h0:(0:Int)≤(a.length:Int):=by omega
  have e2:=Mi (a++47::r) (b:=a.length) (by simp)
  have e3:=EU (a++47::r) (a:=a.length+1) (by simp)
  rw[List.take_left] at e2
  have ed:(a++47::r).drop (a.length+1)=r:=by rw[List.drop_append];simp
  rw[ed] at e3
  have w:IntKind.i64.wrap ((a.length:Int)+1)=((a.length+1:Nat):Int):=wrapN _ (by omega) (by omega)
  simp only[kI,jH,e0,e1,ge_iff_le,h0,w,e2,e3,VX,Nat.reduceEqDiff,Nat.reduceAdd]
  exact aF rfl
theorem aoG (l:List UInt8) (hl:l.length≤1000000000000):TC 172 [aU l,aU [47]] (.eY [aU (lH 47 l).1,aU ((lH 47 l).2.getD []),VB (lH 47 l).2.isSome]):=by
 refine TC.walk ⟨true,false⟩ ME rfl (Nat.le_of_ble_eq_true rfl) rfl rfl ?_
 have e0:=alR l hl
 simp only[I7,Ey,e0,VX,Nat.reduceEqDiff,Nat.reduceAdd]
 exact aF rfl
def AM (l:List UInt8):VV:=if gS l=true then .eY [bM (bQ l),VB true] else .eY [bM 0,VB false]
theorem XL (l:List UInt8):gZ (AM l)=true:=by
 unfold AM
 split<;>simp[gZ,qZ,pT,kE]
theorem alW {d:Nat}:fz (d+1) [.row 0 [] 1 true] (.ref 0 0 0 0 0)=some (bM 0):=by
 rw[DS]
 cases d with
 | zero=>rfl
 | succ d=>rfl
theorem KT {n:Nat} (hn:n≤9) {lo:Nat} {H:aA} {ρ:dG} {Q:VQ} (h58:ρ 58=VI n) (h59:ρ 59=VI 0) (h9:ρ 9=VK .u64 1) (hQ:∀bC,(∀t,t<9→bC t=ρ t)→bC 9=VK .u64 ((10^n:Nat):Int)→Q .normal bC H):VW ⟨true,false⟩ lo (.loop qE) (zV 4 Q) ρ H:=by
 refine aQ (fun(i:Nat) bC H'=>i≤n∧H'=H∧(∀t,t<9→bC t=ρ t)∧bC 58=VI n∧bC 59=VI i∧bC 9=VK .u64 ((10^i:Nat):Int)) (fun i=>n-i) 0 ⟨Nat.zero_le _,rfl,fun _ _=>rfl,h58,h59,h9⟩ ?_
 rintro i bC H' ⟨hi,rfl,hk,g58,g59,g9⟩
 by_cases cP:(i:Int)<(n:Int)
 ·have wi:IntKind.i64.wrap ((i:Int)+1)=((i+1:Nat):Int):=wrapN (i+1) (by omega) (by omega)
  have hp:10^i≤10^8:=Nat.pow_le_pow_right (by decide) (by omega)
  have e8:(10:Nat)^8=100000000:=by decide
  have wp:IntKind.u64.wrap (((10^i:Nat):Int)*10)=((10^(i+1):Nat):Int):=by
   rw[Nat.pow_succ]
   generalize 10^i=p at *
   have:=dT (p*10) (by omega)
   rw[Int.natCast_mul] at this
   rw[Int.natCast_mul]
   exact this
  simp only[qE,g58,g59,g9,cP,wi,wp,VX,Nat.reduceEqDiff,Nat.reduceAdd]
  refine⟨i+1,by omega,by omega,fun t ht => ?_,rfl,rfl⟩
  try simp only[uE]
  repeat rw[if_neg (by omega)]
  exact hk t ht
 ·have nS:i=n:=by omega
  subst nS
  simp only[qE,g58,g59,cP,VX,Nat.reduceEqDiff,Nat.reduceAdd]
  refine hQ _ (fun t ht => ?_) ?_
  ·try simp only[uE]
   repeat rw[if_neg (by omega)]
   exact hk t ht
  ·simp only[g9,VX,Nat.reduceEqDiff,Nat.reduceAdd]
theorem abL {l:List UInt8} {i:Nat} (h:i<l.length):(l.take (i+1)).all gW=((l.take i).all gW&&gW (l.getD i 0)):=by
 rw[List.take_add_one,List.all_append]
 have:l[i]? = some (l.getD i 0):=by rw[List.getElem?_eq_getElem h,List.getD_eq_getElem?_getD,List.getElem?_eq_getElem h];rfl
 rw[this]
 simp
theorem Ka {l:List UInt8} (hl:l.length≤1000000000000) {lo:Nat} {H:aA} {ρ:dG} {Q:VQ} (h0:ρ 0=aU l) (h29:ρ 29=VI l.length) (h30:ρ 30=VI 0)
  (hR:l.all gW=false→∀bC:dG,bC 2 = .tree [] .nil→bC 3=VB false→Q .ret bC H) (hN:l.all gW=true→∀bC:dG,(∀t,t<5→bC t=ρ t)→Q .normal bC H):VW ⟨true,false⟩ lo (.loop jQ) (zV 0 Q) ρ H:=by
 refine aQ (fun(i:Nat) bC H'=>i≤l.length∧H'=H∧(l.take i).all gW=true∧(∀t,t<5→bC t=ρ t)∧bC 29=VI l.length∧bC 30=VI i) (fun i=>l.length-i) 0 ⟨Nat.zero_le _,rfl,rfl,fun _ _=>rfl,h29,h30⟩ ?_
 rintro i bC H' ⟨hi,rfl,hd,hk,g29,g30⟩
 have g0:=(hk 0 (by decide)).trans h0
 by_cases cP:(i:Int)<(l.length:Int)
 ·have Ua:i<l.length:=by omega
  have e1:=CY l Ua
  have wi:IntKind.i64.wrap ((i:Int)+1)=((i+1:Nat):Int):=wrapN (i+1) (by omega) (by omega)
  have ht:=abL Ua
  rw[hd,Bool.true_and] at ht
  have SM:gW (l.getD i 0)=(decide (48≤(l.getD i 0).toNat)&&decide ((l.getD i 0).toNat≤57)):=rfl
  have lF:gW (l.getD i 0)=false→l.all gW=false:=by
   intro h
   rw[h] at ht
   rw[←List.take_append_drop (i+1) l,List.all_append,ht,Bool.false_and]
  generalize (l.getD i 0).toNat=c at *
  by_cases q1:(c:Int)<48
  ·have:=lF (by rw[SM,decide_eq_false (by omega)];rfl)
   simp only[jQ,g0,g29,g30,cP,e1,q1,VX,Nat.reduceEqDiff,Nat.reduceAdd]
   exact hR this _ (by simp only[VX,Nat.reduceEqDiff,Nat.reduceAdd]) (by simp only[VX,Nat.reduceEqDiff,Nat.reduceAdd])
  ·by_cases q2:(57:Int)<(c:Int)
   ·have:=lF (by rw[SM,decide_eq_false (show ¬c≤57 by omega),Bool.and_false])
    simp only[jQ,g0,g29,g30,cP,e1,q1,q2,VX,Nat.reduceEqDiff,Nat.reduceAdd]
    exact hR this _ (by simp only[VX,Nat.reduceEqDiff,Nat.reduceAdd]) (by simp only[VX,Nat.reduceEqDiff,Nat.reduceAdd])
   ·rw[SM,decide_eq_true (by omega),decide_eq_true (by omega),Bool.and_self] at ht
    simp only[jQ,g0,g29,g30,cP,e1,q1,q2,wi,VX,Nat.reduceEqDiff,Nat.reduceAdd]
    refine⟨i+1,by omega,by omega,ht,fun t ht => ?_,rfl⟩
    try simp only[uE]
    repeat rw[if_neg (by omega)]
    exact hk t ht
 ·have nS:i=l.length:=by omega
  subst nS
  rw[List.take_length] at hd
  simp only[jQ,g29,g30,cP,VX,Nat.reduceEqDiff,Nat.reduceAdd]
  refine hN hd _ fun t ht => ?_
  try simp only[uE]
  repeat rw[if_neg (by omega)]
  exact hk t ht
set_option maxHeartbeats 2000000 in
theorem Mb {l:List UInt8} (hd:l.all gW=true) (hl:l.length≤200) (fC:l≠[]) {ρ:dG} {Q:VQ} (h0:ρ 0=aU l) (h4:ρ 4 = .ref 0 0 0 0 0)
  (hQ:∀(bC:dG),bC 4=bM (bQ l)→Q .normal bC [.row 0 [] 1 false]):VW ⟨true,false⟩ 0 (.loop mP) (zV 2 Q) ρ [.row 0 [] 1 true]:=by
 refine aQ (fun(s:List UInt8×List UInt8) bC H'=>l=s.1++s.2∧bC 0=aU s.2∧((H'=[.row 0 [] 1 true]∧bC 4 = .ref 0 0 0 0 0∧s.1=[])∨(H'=[.row 0 [] 1 false]∧bC 4=bM (bQ s.1)))) (fun s=>s.2.length) ([],l) ⟨rfl,h0,.inl ⟨rfl,h4,rfl⟩⟩ ?_
 rintro⟨pre,rest⟩ bC H' ⟨Rn,g0,hv⟩
 simp only at Rn g0 hv
 have e1:=Is rest
 by_cases he:rest=[]
 ·subst he
  rw[List.append_nil] at Rn
  subst Rn
  rcases hv with⟨_,_,h⟩ | ⟨rfl,g4⟩
  ·exact absurd h fC
  have VE:dB .neq (.string ⟨#[]⟩) (.string ⟨#[]⟩)=some (.bool false):=by
   have:=Is []
   rw[decide_eq_true rfl] at this
   exact this
  simp only[mP,g0,VE,VX,Nat.reduceEqDiff,Nat.reduceAdd]
  exact hQ _ (by simp only[g4,VX,Nat.reduceEqDiff,Nat.reduceAdd])
 ·rw[Rn,List.all_append,Bool.and_eq_true] at hd
  obtain⟨hd1,hd2⟩:=hd
  rw[Rn,List.length_append] at hl
  have kH:0<rest.length:=List.length_pos_iff.2 he
  have VE:dB .neq (.string ⟨rest.toArray⟩) (.string ⟨#[]⟩)=some (.bool true):=by rw[e1,decide_eq_false he];rfl
  have wm:(rest.length:Int).tmod 9=((rest.length % 9:Nat):Int):=by rw[Int.tmod_eq_emod_of_nonneg (by omega)];simp
  have er:dB .rem (.int .i64 (rest.length:Int)) (.int .i64 9)=some (.int .i64 ((rest.length % 9:Nat):Int)):=by
   rw[←wm]
   rfl
  obtain⟨n,hn⟩:∃n,n=if rest.length % 9=0 then 9 else rest.length % 9:=⟨_,rfl⟩
  have hn1:1≤n∧n≤9∧n≤rest.length:=by
   rw[hn]
   split<;>omega
  obtain⟨n1,n9,nl⟩:=hn1
  have e2:=Mi rest nl
  have e3:=EU rest nl
  have hch:(rest.take n).length=n:=by rw[List.length_take];omega
  have hcd:(rest.take n).all gW=true:=by
   rw[←List.take_append_drop n rest,List.all_append,Bool.and_eq_true] at hd2
   exact hd2.1
  have hp:=aeT (rest.take n) (bQ (rest.take n)) (by omega) (alB hcd (fun h=>by rw[h] at hch;simp at hch;omega) (by omega))
  have EM:=FK hcd
  rw[hch] at EM
  have hp9:10^n≤10^9:=Nat.pow_le_pow_right (by decide) n9
  have e9:(10:Nat)^9=1000000000:=by decide
  have aBI:bQ (rest.take n)<1000000000:=by omega
  have c1:=mB (10^n) (by omega)
  have c2:=mB (bQ (rest.take n)) (by omega)
  have hbp:bl (bQ pre)≤665:=by
   refine GF (Nat.lt_of_lt_of_le (FK hd1) ?_)
   exact Nat.le_trans (Nat.pow_le_pow_right (by decide) (by omega:pre.length≤200)) (by decide +kernel)
  have hb9:bl (10^n)≤64:=GF (by omega)
  have hbm:=pG (bQ pre) (10^n)
  have hbc:bl (bQ (rest.take n))≤64:=GF (by omega)
  have tm:=kT (bQ pre) (10^n) (gF (by omega)) (gF (by omega))
  have c4:=CX (bQ pre*10^n) (bQ (rest.take n)) (gF (by omega)) (gF (by omega))
  have rO:bQ pre*10^n+bQ (rest.take n)=bQ (pre++rest.take n):=by rw[Lt,hch]
  rw[rO] at c4
  have fin:(rest.drop n).length<rest.length∧pre++rest=(pre++rest.take n)++rest.drop n:=⟨by rw[List.length_drop];omega,by rw[List.append_assoc,List.take_append_drop]⟩
  obtain⟨v4,g4,c3⟩:∃v4,bC 4=v4∧∀lo K,cT 143 [v4,bM (10^n)] lo H' K=K (bM (bQ pre*10^n)) [.row 0 [] 1 false]:=by
   rcases hv with⟨rfl,g4,hp0⟩ | ⟨rfl,g4⟩
   ·refine⟨_,g4,fun lo K => ?_⟩
    subst hp0
    have:=tm.CP (H:=[.row 0 [] 1 true]) (args:=[.ref 0 0 0 0 0,bM (10^n)]) (lo:=lo) (k:=K) rfl (by simp[aL,bO]) (fz2 alW (aJ (bO _))) rfl
    rw[this,show J3 (bM (bQ []*10^n))=false from rfl,if_neg (by decide),List.flatMap_cons,List.flatMap_cons,List.flatMap_nil,EY (bO _),N1 (n:=0) (c:=0) (es:=[]) (e:=1) (w:=true) aS rfl rfl]
    rfl
   ·exact⟨_,g4,fun lo K=>tm lo [.row 0 [] 1 false] K⟩
  clear hv
  obtain⟨P,hP⟩:∃P,P=10^n:=⟨_,rfl⟩
  rw[←hP] at c1 c4 c3
  have hnI:(rest.length % 9:Nat)=0∨¬(rest.length % 9:Nat)=0:=by omega
  rcases hnI with h9 | h9
  ·rw[if_pos h9] at hn
   subst hn
   have q:((rest.length % 9:Nat):Int)=0:=by omega
   have e2':uL (aU rest) none (some (VI 9))=some (aU (rest.take 9)):=e2
   have e3':uL (aU rest) (some (VI 9)) none=some (aU (rest.drop 9)):=e3
   simp only[mP,g0,g4,VE,bJ,er,q,e2',hp,VX,Nat.reduceEqDiff,Nat.reduceAdd]
   refine KT (n:=9) (by decide) ?_ ?_ ?_ fun wB k1 q9 => ?_
   ·simp only[VX,Nat.reduceEqDiff,Nat.reduceAdd];rfl
   ·simp only[VX,Nat.reduceEqDiff,Nat.reduceAdd]
   ·simp only[VX,Nat.reduceEqDiff,Nat.reduceAdd]
   rw[←hP] at q9
   have u0:wB 0=aU rest:=by rw[k1 0 (by decide)];simp only[g0,VX,Nat.reduceEqDiff,Nat.reduceAdd]
   have u4:wB 4=v4:=by rw[k1 4 (by decide)];simp only[g4,VX,Nat.reduceEqDiff,Nat.reduceAdd]
   have u6:wB 6=VI 9:=by rw[k1 6 (by decide)];simp only[VX,Nat.reduceEqDiff,Nat.reduceAdd]
   have u7:wB 7=VK .u64 (bQ (rest.take 9)):=by rw[k1 7 (by decide)];simp only[VX,Nat.reduceEqDiff,Nat.reduceAdd]
   simp only[u0,u4,u6,u7,q9,c1,c2,c3,c4,e3',VX,Nat.reduceEqDiff,Nat.reduceAdd]
   exact⟨(pre++rest.take 9,rest.drop 9),fin.1,Rn.trans fin.2,rfl,.inr rfl⟩
  ·rw[if_neg h9] at hn
   rw[←hn] at er
   have q:¬(n:Int)=0:=by omega
   simp only[mP,g0,g4,VE,bJ,er,q,e2,hp,VX,Nat.reduceEqDiff,Nat.reduceAdd]
   refine KT (n:=n) n9 ?_ ?_ ?_ fun wB k1 q9 => ?_
   ·simp only[VX,Nat.reduceEqDiff,Nat.reduceAdd]
   ·simp only[VX,Nat.reduceEqDiff,Nat.reduceAdd]
   ·simp only[VX,Nat.reduceEqDiff,Nat.reduceAdd]
   rw[←hP] at q9
   have u0:wB 0=aU rest:=by rw[k1 0 (by decide)];simp only[g0,VX,Nat.reduceEqDiff,Nat.reduceAdd]
   have u4:wB 4=v4:=by rw[k1 4 (by decide)];simp only[g4,VX,Nat.reduceEqDiff,Nat.reduceAdd]
   have u6:wB 6=VI n:=by rw[k1 6 (by decide)];simp only[VX,Nat.reduceEqDiff,Nat.reduceAdd]
   have u7:wB 7=VK .u64 (bQ (rest.take n)):=by rw[k1 7 (by decide)];simp only[VX,Nat.reduceEqDiff,Nat.reduceAdd]
   simp only[u0,u4,u6,u7,q9,c1,c2,c3,c4,e3,VX,Nat.reduceEqDiff,Nat.reduceAdd]
   exact⟨(pre++rest.take n,rest.drop n),fin.1,Rn.trans fin.2,rfl,.inr rfl⟩
set_option maxHeartbeats 2000000 in
theorem CN (l:List UInt8) (hl:l.length≤1000000000000):TC 174 [aU l] (AM l):=by
 refine TC.walk ⟨true,false⟩ KH rfl (Nat.le_of_ble_eq_true rfl) rfl (XL l) ?_
 have e1:=Qz l
 by_cases he:l=[]
 ·have hk:gS l=false:=by rw[he];rfl
  have VE:dB .eql (.string ⟨l.toArray⟩) (.string ⟨#[]⟩)=some (.bool true):=by rw[e1,decide_eq_true he]
  unfold AM
  rw[hk]
  simp only[oS,kV,VE,Bool.false_eq_true,if_false,VX,Nat.reduceEqDiff,Nat.reduceAdd]
  exact bN (d:=6) vW (aJ (v:=VB false) rfl)
 have kH:0<l.length:=List.length_pos_iff.2 he
 by_cases agE:(200:Int)<(l.length:Int)
 ·have hk:gS l=false:=by
   cases h:gS l with
   | false=>rfl
   | true=>have:=(iW.1 h).2.2.1;omega
  unfold AM
  rw[hk]
  simp only[oS,kV,e1,he,decide_false,bJ,agE,Bool.false_eq_true,if_false,VX,Nat.reduceEqDiff,Nat.reduceAdd]
  exact bN (d:=6) vW (aJ (v:=VB false) rfl)
 have e2:=G0 l kH
 by_cases hz:(((l.getD 0 0).toNat:Int)=48∧1<(l.length:Int))
 ·obtain⟨Ih,SC⟩:=hz
  have hk:gS l=false:=by
   cases h:gS l with
   | false=>rfl
   |
    true =>
    rcases(iW.1 h).2.2.2 with h1 | h1
    ·omega
    ·exact absurd (UInt8.toNat_inj.1 (by rw[show (48:UInt8).toNat=48 from rfl];omega)) h1
  unfold AM
  rw[hk]
  simp only[oS,kV,e1,he,decide_false,bJ,agE,e2,Ih,SC,Bool.false_eq_true,if_false,VX,Nat.reduceEqDiff,Nat.reduceAdd]
  exact bN (d:=6) vW (aJ (v:=VB false) rfl)
 have apE:l.length=1∨l.getD 0 0≠48:=by
  by_cases h1:l.length=1
  ·exact .inl h1
  ·right
   intro h2
   apply hz
   rw[h2]
   exact⟨rfl,by omega⟩
 have e3:∀lr,mF lr [.int .u32 0] 0 [] []=some (.ref 0 0 0 0 0,[.row 0 [] 1 true]):=fun lr=>kA (H:=[]) (lr:=lr) (z:=[.int .u32 0]) rfl
 have kN:l.all gW=true→gS l=true:=fun h=>iW.2 ⟨h,kH,by omega,apE⟩
 have kF:l.all gW=false→gS l=false:=fun h=>by unfold gS;rw[h];rfl
 have rF:gS l=false→AM l = .eY [bM 0,VB false]:=fun h=>by unfold AM;rw[h];rfl
 have rT:gS l=true→AM l = .eY [bM (bQ l),VB true]:=fun h=>if_pos h
 by_cases hA:(((l.getD 0 0).toNat:Int)=48)
 ·have hB:¬1<(l.length:Int):=fun h=>hz ⟨hA,h⟩
  simp only[oS,kV,e1,e3,he,decide_false,bJ,agE,e2,hA,hB,Bool.false_eq_true,if_false,VX,Nat.reduceEqDiff,Nat.reduceAdd]
  refine Ka hl ?_ ?_ ?_ (fun hd wB g2 g3 => ?_) fun hd wB k1 => ?_
  ·simp only[VX,Nat.reduceEqDiff,Nat.reduceAdd]
  ·simp only[VX,Nat.reduceEqDiff,Nat.reduceAdd]
  ·simp only[VX,Nat.reduceEqDiff,Nat.reduceAdd]
  ·rw[rF (kF hd)]
   simp only[g2,g3,VX,Nat.reduceEqDiff,Nat.reduceAdd]
   exact bN (d:=6) vW (aJ (v:=VB false) rfl)
  ·rw[rT (kN hd)]
   simp only[VX,Nat.reduceEqDiff,Nat.reduceAdd]
   refine Mb hd (by omega) he ?_ ?_ fun Ns g4 => ?_
   ·rw[k1 0 (by decide)];simp only[VX,Nat.reduceEqDiff,Nat.reduceAdd]
   ·rw[k1 4 (by decide)];simp only[VX,Nat.reduceEqDiff,Nat.reduceAdd]
   ·simp only[g4,VX,Nat.reduceEqDiff,Nat.reduceAdd]
    exact bN (d:=6) (aJ (bO _)) (aJ (v:=VB true) rfl)
 ·simp only[oS,kV,e1,e3,he,decide_false,bJ,agE,e2,hA,Bool.false_eq_true,if_false,VX,Nat.reduceEqDiff,Nat.reduceAdd]
  refine Ka hl ?_ ?_ ?_ (fun hd wB g2 g3 => ?_) fun hd wB k1 => ?_
  ·simp only[VX,Nat.reduceEqDiff,Nat.reduceAdd]
  ·simp only[VX,Nat.reduceEqDiff,Nat.reduceAdd]
  ·simp only[VX,Nat.reduceEqDiff,Nat.reduceAdd]
  ·rw[rF (kF hd)]
   simp only[g2,g3,VX,Nat.reduceEqDiff,Nat.reduceAdd]
   exact bN (d:=6) vW (aJ (v:=VB false) rfl)
  ·rw[rT (kN hd)]
   simp only[VX,Nat.reduceEqDiff,Nat.reduceAdd]
   refine Mb hd (by omega) he ?_ ?_ fun Ns g4 => ?_
   ·rw[k1 0 (by decide)];simp only[VX,Nat.reduceEqDiff,Nat.reduceAdd]
   ·rw[k1 4 (by decide)];simp only[VX,Nat.reduceEqDiff,Nat.reduceAdd]
   ·simp only[g4,VX,Nat.reduceEqDiff,Nat.reduceAdd]
    exact bN (d:=6) (aJ (bO _)) (aJ (v:=VB true) rfl)
def KG:VV := .agg [VB false,bM 0,bM 0]
def C1 (l:List UInt8):VV:=match xZ l with
 | some q => .eY [bK q,VB true]
 | none => .eY [KG,VB false]
theorem Qd:gZ KG=true:=by simp[KG,gZ,qZ,pT,kE]
theorem UD (l:List UInt8):gZ (C1 l)=true:=by
 unfold C1
 split<;>simp[gZ,qZ,Dj,Qd,kE]
theorem fU {d:Nat} {H:aA}:fz (d+2) H (.agg [VB false,.tree [] .nil,.tree [] .nil])=some KG:=qB (aJ (v:=VB false) rfl) vW vW
theorem KK {neg:Bool} {t b:Nat} (hb:b≠0) (hg:Nat.gcd t b=1) (hn:¬(neg=true∧t=0)):bK (mkRat (pJ neg t) b) = .agg [VB neg,bM t,bM b]:=by
 obtain⟨e1,e2⟩:=IT (neg:=neg) hb hg
 refine JS ?_ (by rw[e1,zJ]) e2
 rw[e1]
 cases neg with
 | false=>unfold pJ;simp
 |
  true =>
  have:t≠0:=fun h=>hn ⟨rfl,h⟩
  unfold pJ
  simp
  omega
theorem Tp (l:List UInt8):xZ l=nU (isNeg (lH 47 l).1) (if isNeg (lH 47 l).1 then (lH 47 l).1.drop 1 else (lH 47 l).1) (lH 47 l).2:=by
 cases l with
 | nil=>rfl
 |
  cons c r =>
  unfold xZ
  by_cases h47:c=47
  ·subst h47
   rfl
  ·have e:lH 47 (c::r)=(c::(lH 47 r).1,(lH 47 r).2):=by rw[lH,if_neg h47]
   by_cases h45:c=45
   ·subst h45
    rw[e]
    rfl
   ·rw[e,Fa,Fa,decide_eq_false h45]
    simp only[Bool.false_eq_true,if_false,e]
theorem SA {c:UInt8}:∀ {l:List UInt8},(lH c l).1.length≤l.length∧∀t,(lH c l).2=some t→t.length≤l.length:=by
 intro l
 cases h:(lH c l).2 with
 | none=>rw[(AQ h).2.1];exact⟨Nat.le_refl _,fun t ht=>by cases ht⟩
 |
  some r =>
  have:=congrArg List.length (HH h).2.1
  rw[List.length_append,List.length_cons] at this
  exact⟨by omega,fun t ht=>by cases ht;omega⟩
theorem Nr {n:Nat}:(((aC 4294967296 n).length:Nat):Int)=0↔n=0:=by
 rw[←kU (b:=4294967296) (n:=n) (by decide),←List.length_eq_zero_iff]
 omega
set_option maxRecDepth 100000 in
set_option maxHeartbeats 4000000 in
theorem Lj (l:List UInt8) (hl:l.length≤1000000000000):TC 115 [aU l] (C1 l):=by
 refine TC.walk ⟨true,false⟩ KV rfl (Nat.le_of_ble_eq_true rfl) rfl (UD l) ?_
 have e1:=aoG l hl
 obtain⟨l1,l2⟩:=SA (c:=47) (l:=l)
 have hq:=Tp l
 unfold C1
 rw[hq]
 clear hq
 generalize (lH 47 l).1=f at *
 generalize (lH 47 l).2=s2 at *
 have e2:=Q7 f
 have ld:(if isNeg f=true then f.drop 1 else f).length≤f.length:=by split<;>simp
 generalize (if isNeg f=true then f.drop 1 else f)=d at *
 generalize isNeg f=neg at *
 have e3:=CN d (by omega)
 have c1:TC 139 [.sc (.int .u64 1)] (bM 1):=mB 1 (by decide)
 cases hd:gS d with
 |
  false =>
  have hp:nU neg d s2=none:=if_pos (.inl hd)
  rw[hp]
  unfold AM at e3
  rw[hd,if_neg (by decide)] at e3
  simp only[dZ,dD,e1,e2,e3,aK,kQ,Nat.reduceLeDiff,Nat.reduceLT,Nat.reduceSub,VX,Nat.reduceEqDiff,Nat.reduceAdd]
  exact bN (d:=6) fU (aJ (v:=VB false) rfl)
 |
  true =>
  unfold AM at e3
  rw[hd,if_pos rfl] at e3
  by_cases hz:neg=true∧bQ d=0
  ·have hp:nU neg d s2=none:=if_pos (.inr hz)
   rw[hp]
   obtain⟨rfl,D4⟩:=hz
   rw[D4] at e3
   have Af:(((aC 4294967296 0).length:Nat):Int)=0:=Nr.2 rfl
   simp only[dZ,dD,e1,e2,e3,dS,Af,aK,kQ,Nat.reduceLeDiff,Nat.reduceLT,Nat.reduceSub,VX,Nat.reduceEqDiff,Nat.reduceAdd]
   exact bN (d:=6) fU (aJ (v:=VB false) rfl)
  ·have hbt:=wO hd
   have Af:neg=true→¬(((aC 4294967296 (bQ d)).length:Nat):Int)=0:=fun h h0=>hz ⟨h,Nr.1 h0⟩
   cases s2 with
   |
    none =>
    have hp:nU neg d none=some (mkRat (pJ neg (bQ d)) 1):=if_neg (by rw[hd];rintro(h | h);exact absurd h (by decide);exact hz h)
    rw[hp]
    simp only[]
    rw[KK (by decide) (Nat.gcd_one_right _) hz]
    cases neg with
    |
     false =>
     simp only[dZ,dD,e1,e2,e3,c1,Option.isSome_none,Option.getD_none,aK,bE,bF,aT,kQ,Nat.reduceLeDiff,Nat.reduceLT,Nat.reduceSub,VX,Nat.reduceEqDiff,Nat.reduceAdd]
     exact bN (d:=6) (qB (aJ (v:=VB false) rfl) (aJ (bO _)) (aJ (bO _))) (aJ (v:=VB true) rfl)
    |
     true =>
     have Af:=Af rfl
     simp only[dZ,dD,e1,e2,e3,c1,dS,Af,Option.isSome_none,Option.getD_none,aK,bE,bF,aT,kQ,Nat.reduceLeDiff,Nat.reduceLT,Nat.reduceSub,VX,Nat.reduceEqDiff,Nat.reduceAdd]
     exact bN (d:=6) (qB (aJ (v:=VB true) rfl) (aJ (bO _)) (aJ (bO _))) (aJ (v:=VB true) rfl)
   |
    some t =>
    have e4:=CN t (by have:=l2 t rfl;omega)
    have hp:nU neg d (some t)=if gS t=true∧1<bQ t∧Nat.gcd (bQ d) (bQ t)=1 then some (mkRat (pJ neg (bQ d)) (bQ t)) else none:=if_neg (by rw[hd];rintro(h | h);exact absurd h (by decide);exact hz h)
    rw[hp]
    cases ht:gS t with
    |
     false =>
     rw[if_neg (fun h=>absurd h.1 (by decide))]
     unfold AM at e4
     rw[ht,if_neg (by decide)] at e4
     cases neg with
     |
      false =>
      simp only[dZ,dD,e1,e2,e3,e4,c1,Option.isSome_some,Option.getD_some,aK,bE,bF,aT,kQ,Nat.reduceLeDiff,Nat.reduceLT,Nat.reduceSub,VX,Nat.reduceEqDiff,Nat.reduceAdd]
      exact bN (d:=6) fU (aJ (v:=VB false) rfl)
     |
      true =>
      have Af:=Af rfl
      simp only[dZ,dD,e1,e2,e3,e4,c1,dS,Af,Option.isSome_some,Option.getD_some,aK,bE,bF,aT,kQ,Nat.reduceLeDiff,Nat.reduceLT,Nat.reduceSub,VX,Nat.reduceEqDiff,Nat.reduceAdd]
      exact bN (d:=6) fU (aJ (v:=VB false) rfl)
    |
     true =>
     have J8:=wO ht
     unfold AM at e4
     rw[ht,if_pos rfl] at e4
     have c2:=jE (bQ t) 1 (gF (by omega)) (gF (Nat.le_trans (GF (n:=1) (k:=1) (by decide)) (by decide)))
     have c3:=CC (bQ d) (bQ t) (gF (by omega)) (gF (by omega))
     by_cases h1:eZ (bQ t) 1≤0
     ·have hle:¬1<bQ t:=fun h=>by unfold eZ at h1;rw[if_neg (by omega),if_neg (by omega)] at h1;exact absurd h1 (by decide)
      rw[if_neg (fun h=>hle h.2.1)]
      cases neg with
      |
       false =>
       simp only[dZ,dD,e1,e2,e3,e4,c1,c2,h1,Option.isSome_some,Option.getD_some,aK,bE,bF,aT,kQ,Nat.reduceLeDiff,Nat.reduceLT,Nat.reduceSub,VX,Nat.reduceEqDiff,Nat.reduceAdd]
       exact bN (d:=6) fU (aJ (v:=VB false) rfl)
      |
       true =>
       have Af:=Af rfl
       simp only[dZ,dD,e1,e2,e3,e4,c1,c2,h1,dS,Af,Option.isSome_some,Option.getD_some,aK,bE,bF,aT,kQ,Nat.reduceLeDiff,Nat.reduceLT,Nat.reduceSub,VX,Nat.reduceEqDiff,Nat.reduceAdd]
       exact bN (d:=6) fU (aJ (v:=VB false) rfl)
     ·have bA:1<bQ t:=by
       rcases Nat.lt_or_ge 1 (bQ t) with h | h
       ·exact h
       ·exfalso
        apply h1
        unfold eZ
        split
        ·decide
        ·rw[if_pos (by omega)];decide
      have hgl:bl (Nat.gcd (bQ d) (bQ t))≤665:=Nat.le_trans (nA (Nat.le_of_dvd (by omega) (Nat.gcd_dvd_right _ _))) J8
      have c4:=jE (Nat.gcd (bQ d) (bQ t)) 1 (gF (by omega)) (gF (Nat.le_trans (GF (n:=1) (k:=1) (by decide)) (by decide)))
      by_cases hg:Nat.gcd (bQ d) (bQ t)=1
      ·have h4:eZ (Nat.gcd (bQ d) (bQ t)) 1=0:=by rw[hg];rfl
       rw[if_pos ⟨rfl,bA,hg⟩]
       simp only[]
       rw[KK (by omega) hg hz]
       cases neg with
       |
        false =>
        simp only[dZ,dD,e1,e2,e3,e4,c1,c2,c3,c4,h1,h4,Option.isSome_some,Option.getD_some,aK,bE,bF,aT,kQ,Nat.reduceLeDiff,Nat.reduceLT,Nat.reduceSub,VX,Nat.reduceEqDiff,Nat.reduceAdd]
        exact bN (d:=6) (qB (aJ (v:=VB false) rfl) (aJ (bO _)) (aJ (bO _))) (aJ (v:=VB true) rfl)
       |
        true =>
        have Af:=Af rfl
        simp only[dZ,dD,e1,e2,e3,e4,c1,c2,c3,c4,h1,h4,dS,Af,Option.isSome_some,Option.getD_some,aK,bE,bF,aT,kQ,Nat.reduceLeDiff,Nat.reduceLT,Nat.reduceSub,VX,Nat.reduceEqDiff,Nat.reduceAdd]
        exact bN (d:=6) (qB (aJ (v:=VB true) rfl) (aJ (bO _)) (aJ (bO _))) (aJ (v:=VB true) rfl)
      ·have h4:¬eZ (Nat.gcd (bQ d) (bQ t)) 1=0:=by
        unfold eZ
        split<;>(try split)<;>first | decide | omega
       rw[if_neg (fun h=>hg h.2.2)]
       cases neg with
       |
        false =>
        simp only[dZ,dD,e1,e2,e3,e4,c1,c2,c3,c4,h1,h4,Option.isSome_some,Option.getD_some,aK,bE,bF,aT,kQ,Nat.reduceLeDiff,Nat.reduceLT,Nat.reduceSub,VX,Nat.reduceEqDiff,Nat.reduceAdd]
        exact bN (d:=6) fU (aJ (v:=VB false) rfl)
       |
        true =>
        have Af:=Af rfl
        simp only[dZ,dD,e1,e2,e3,e4,c1,c2,c3,c4,h1,h4,dS,Af,Option.isSome_some,Option.getD_some,aK,bE,bF,aT,kQ,Nat.reduceLeDiff,Nat.reduceLT,Nat.reduceSub,VX,Nat.reduceEqDiff,Nat.reduceAdd]
        exact bN (d:=6) fU (aJ (v:=VB false) rfl)
end Go.PM
namespace Go.PM
open Go.Lib
theorem Q9 {l:List UInt8} {q:Rat} (h:xZ l=some q):C1 l = .eY [bK q,VB true]:=by unfold C1;rw[h]
theorem QX {l:List UInt8} (h:xZ l=none):C1 l = .eY [KG,VB false]:=by unfold C1;rw[h]
theorem IC:aB KG=[VB false,bM 0,bM 0]:=rfl
theorem KS:isAny KG=false:=rfl
theorem Sf:dA true 3 KG 0=some KG:=rfl
end Go.PM
namespace Go.PM
open Go.Lib
end Go.PM
namespace Go.PM
open Go.Lib
theorem Ru {α:Type} {f:α→VV} {d e b g c:Nat} {xs:List α} {H:aA} {w:Bool} (hp:∀x,aN (f x)=true) (h:aH H b g=some (xs.map f,e,w)) (hc:xs.length≤c):fz (d+2) H (.ref b g 0 xs.length c)=some (aO f xs):=by
 have:aN (.ref b g 0 xs.length c)=false:=rfl
 unfold PM.fz
 simp only[this,h,Bool.false_eq_true,if_false]
 rw[if_pos ⟨by simp,hc⟩,List.drop_zero,List.take_of_length_le (by simp),mapM_pure (eR hp)]
 rfl
theorem agQ {d:Nat} {H:aA}:fz (d+1) H (.tree [] .nil)=some (.tree [] .op):=by
 unfold PM.fz
 have:aN (.tree [] .nil)=false:=by simp[aN]
 simp[this]
theorem EW {H:aA}:fz depth H (.eY [.tree [] .nil,VB false])=some (.eY [.tree [] .op,VB false]):=bN (d:=6) agQ (aJ (v:=VB false) rfl)
theorem Gi {u v:VV} (hu:gZ u=true) (hv:gZ v=true):gZ (.eY [u,v])=true:=by simp only[gZ,qZ,hu,hv,Bool.and_self]
theorem XS {u v:VV} (hu:aN u=true) (hv:aN v=true):aN (.eY [u,v])=true:=by simp only[aN,aL,hu,hv,Bool.and_self]
theorem ajV {u:VV} (hu:aN u=true):aL [u]=true:=by simp only[aL,hu,Bool.and_self]
theorem CL {u v:VV} (hu:aN u=true) (hv:aN v=true):aL [u,v]=true:=by simp only[aL,hu,hv,Bool.and_self]
theorem aaW {u:VV} (hu:aN u=true):aN (.agg [u])=true:=by simp only[aN,aL,hu,Bool.and_self]
def pQ (s:ByteArray):Option Rat:=xZ s.data.toList
theorem acX (s:ByteArray):sV s=aU s.data.toList:=rfl
def BO (xs:List ByteArray):Option (List Rat):=if xs.length≤300 then xs.mapM pQ else none
def Ni (o:Option (List Rat)):VV:=match o with
 | some qs => .eY [aO bK qs,VB true]
 | none => .eY [aO bK [],VB false]
theorem DF (q:Rat):(aB (bK q)).length=3:=rfl
theorem yE (qs:List Rat):aN (aO bK qs)=true:=jT DF kZ
theorem WJ (q:Rat):zZ (bK q)=true:=by simp[zZ,bK,bM]
theorem Na (qs:List Rat):gZ (aO bK qs)=true:=CJ DF Dj WJ
theorem NC (o:Option (List Rat)):gZ (Ni o)=true:=by
 unfold Ni
 split
 ·exact Gi (Na _) rfl
 ·exact Gi (Na []) rfl
theorem D0 {α β:Type} {f:α→Option β} {xs:List α} {ys:List β} {x:α} {y:β} (h:xs.mapM f=some ys) (hx:f x=some y):(xs++[x]).mapM f=some (ys++[y]):=by
 rw[List.mapM_append,h]
 simp[hx]
theorem mapM_none {α β:Type} {f:α→Option β} {x:α} (hx:f x=none):∀ {xs:List α},x∈xs→xs.mapM f=none
 | [],h=>by cases h
 |
  y::xs,h=>by
  rw[List.mapM_cons]
  cases hy:f y with
  | none=>rfl
  |
   some z =>
   rcases List.mem_cons.1 h with rfl | h
   ·rw[hx] at hy;cases hy
   ·show ((xs.mapM f).bind fun zs=>some (z::zs))=none
    rw[mapM_none hx h];rfl
theorem mapM_mem {α β:Type} {f:α→Option β} {P:β→Prop} (hP:∀x y,f x=some y→P y):∀ {xs:List α} {ys:List β},xs.mapM f=some ys→∀y∈ys,P y
 | [],ys,h,y,hy=>by simp at h;subst h;cases hy
 |
  x::xs,ys,h,y,hy=>by
  rw[List.mapM_cons] at h
  cases hx:f x with
  | none=>rw[hx] at h;cases h
  |
   some z =>
   rw[hx] at h
   cases hs:xs.mapM f with
   | none=>rw[hs] at h;cases h
   |
    some zs =>
    rw[hs] at h
    cases h
    rcases List.mem_cons.1 hy with rfl | hy
    ·exact hP _ _ hx
    ·exact mapM_mem hP hs _ hy
theorem jU {α:Type} {xs:List α} {i:Nat} {x:α} (h:xs[i]? = some x):xs.take (i+1)=xs.take i++[x]:=by rw[List.take_add_one,h];rfl
theorem E1 {xs:List ByteArray} {qs:List Rat} (h:BO xs=some qs):(∀q∈qs,aZ q≤665)∧qs.length≤300∧qs.length=xs.length:=by
 unfold BO at h
 split at h
 ·rename_i hl
  have:=pM h
  exact⟨mapM_mem (fun _ _ h=>TN h) h,by omega,this⟩
 ·cases h
set_option maxHeartbeats 1000000 in
theorem So (xs:List ByteArray) (hn:xs.length≤1000000000) (hs:∀s∈xs,s.size≤1000000000):TC 65 [fM xs] (Ni (BO xs)):=by
 refine TC.walk ⟨true,false⟩ Qs rfl (Nat.le_of_ble_eq_true rfl) (by simp[aL,gO]) (NC _) ?_
 unfold BO
 by_cases SY:(300:Int)<(xs.length:Int)
 ·rw[if_neg (by omega)]
  simp only[Ht,CU,SY,VX,Nat.reduceEqDiff,Nat.reduceAdd]
  exact EW
 rw[if_pos (by omega)]
 have e0:=fun H=>kA (H:=H) (lr:=false) (z:=[.bool false,.slice none 0 0,.slice none 0 0]) rfl
 simp only[Ht,CU,SY,e0,VX,Nat.reduceEqDiff,Nat.reduceAdd]
 refine Ls (fun(s:Nat×List Rat) ρ H=>s.1≤xs.length∧(xs.take s.1).mapM pQ=some s.2∧H=[.row s.1 (s.2.map bK) 3 true]∧ρ 4 = .ref 0 s.1 0 s.1 s.1∧ρ 13=fM xs∧ρ 14=VI xs.length∧ρ 15=VI s.1) (fun s=>xs.length-s.1) (0,[]) ⟨Nat.zero_le _,rfl,rfl,rfl,rfl,rfl,rfl⟩ ?_
 rintro⟨i,out⟩ ρ H ⟨hi,Li,rfl,g4,g13,g14,g15⟩
 simp only at hi Li g4 g15
 have iO:out.length=i:=by rw[pM Li,List.length_take];omega
 by_cases cP:(i:Int)<(xs.length:Int)
 ·obtain⟨x,hx⟩:∃x,xs[i]? = some x:=⟨_,List.getElem?_eq_getElem (by omega)⟩
  have hxm:=List.mem_of_getElem? hx
  have e1:=fun H=>aI (f:=sV) (t := .op) (H:=H) (size:=1) (k := .i64) hx rfl
  have wi:IntKind.i64.wrap ((i:Int)+1)=((i+1:Nat):Int):=wrapN (i+1) (by omega) (by omega)
  have e2:=Lj x.data.toList (by have:=hs x hxm;rw[Array.length_toList];show x.size≤_;omega)
  rw[←acX] at e2
  cases hp:pQ x with
  |
   none =>
   rw[QX hp] at e2
   rw[mapM_none hp hxm]
   simp only[vQ,g4,g13,g14,g15,cP,e1,e2,IC,KS,Sf,bF,bE,aT,kQ,Nat.reduceLeDiff,Nat.reduceLT,Nat.reduceSub,CV,jB,kS,rM,yZ,Ad,bne_iff_ne,ne_eq,not_false_eq_true,not_true_eq_false,VX,Nat.reduceEqDiff,Nat.reduceAdd]
   exact EW
  |
   some q =>
   rw[Q9 hp] at e2
   have eL:∀H,mF false [.bool false,.slice none 0 0,.slice none 0 0] 1 [(0,bK q)] H=some (.tree [bK q] (.cl 3),H):=fun H=>iJ rfl rfl rfl
   have eS:∀H,cW 3 (.tree [bK q] (.cl 3)) H=some [bK q]:=fun H=>fK rfl rfl
   have eP:eO 0 3 56 (.ref 0 i 0 i i) [bK q] [.row i (out.map bK) 3 true,.row 0 [bK q] 3 true]=some (.ref 0 (i+1) 0 (i+1) (i+1),[.row (i+1) ((out++[q]).map bK) 3 true,.row 0 [bK q] 3 true]):=by
    rw[gY (f:=bK) (xs:=out) (by rw[aS]) iO.symm (Nat.le_refl _) (by decide) (by decide) (by omega),List.set_cons_zero]
   simp only[vQ,g4,g13,g14,g15,cP,e1,e2,eL,eS,eP,wi,aK,dN,fD,bF,bE,aT,kQ,Nat.reduceLeDiff,Nat.reduceLT,Nat.reduceSub,CV,jB,kS,rM,yZ,Ad,bne_iff_ne,ne_eq,not_false_eq_true,not_true_eq_false,VX,Nat.reduceEqDiff,Nat.reduceAdd]
   refine⟨(i+1,out++[q]),by simp only;omega,?_,by simp only;omega,by simp only[jU hx];exact D0 Li hp,rfl,?_⟩
   ·rw[Ax (lL _ (eR kZ)),Hs]
   ·simp only[tJ,g13,g14,Ay (gO _),HG (Nat.lt_succ_self 0),VX,Nat.reduceEqDiff,Nat.reduceAdd,List.take_zero,iV,List.all_nil,List.length_nil,tJ,KD,Ay]
 ·have nS:i=xs.length:=by omega
  subst nS
  rw[List.take_length] at Li
  rw[Li]
  simp only[vQ,g4,g13,g14,g15,cP,VX,Nat.reduceEqDiff,Nat.reduceAdd]
  refine bN (d:=6) ?_ (aJ (v:=VB true) rfl)
  have:=Ru (d:=5) (w:=true) (f:=bK) (e:=3) (b:=0) (g:=xs.length) (c:=xs.length) (xs:=out) (H:=[.row xs.length (out.map bK) 3 true]) kZ (by rw[aS]) (by omega)
  rw[iO] at this
  exact this
end Go.PM