/- Texts of a claim, in one: part 10. -/
import Derived.Lib.Bytealg
import Derived.Lib.ParseIntB
import Derived.Test.YtjmflicajplclaaGreatDoorKWi
set_option linter.unusedSimpArgs false
set_option linter.unusedVariables false
namespace Go.PM
open Go.Lib
def aQ (q:Rat):VV := .agg [VB (decide (q.num<0)),bM q.num.natAbs,bM q.den]
theorem gX (q:Rat):aN (aQ q)=true:=by simp[aQ,aN,aM,bS,kC]
theorem pZ (q:Rat):gJ (aQ q)=true:=by simp[aQ,gJ,qE,qB,kC]
theorem BP {q:Rat} {neg:Bool} {t b:Nat} (h0:q.num<0↔neg=true) (h1:q.num.natAbs=t) (h2:q.den=b):aQ q = .agg [VB neg,bM t,bM b]:=by
 subst h1 h2
 unfold aQ
 congr 4
 cases neg<;>simp_all
theorem agD {neg:Bool} {t b:Nat} (hb:b≠0) (ht:t≠0):aQ (mkRat (kG neg t) b) = .agg [VB neg,bM (t / Nat.gcd t b),bM (b / Nat.gcd t b)]:=by
 refine BP ?_ ?_ (Pb hb)
 ·rw[E6 hb,P4]
  have h1:t / Nat.gcd t b≠0:=by
   have:=Nat.div_pos (Nat.le_of_dvd (by omega) (Nat.gcd_dvd_left t b)) (Nat.gcd_pos_of_pos_left b (by omega))
   omega
  simp[h1]
 ·rw[E6 hb,nQ]
theorem X2:aQ 0 = .agg [VB false,.tree [] .op,bM 1]:=by
 rw[BP (q:=0) (neg:=false) (t:=0) (b:=1) (by simp) rfl rfl,DN]
theorem aU (n:Nat):bO (bM n)=true:=rfl
theorem aV (n:Nat):isAny (bM n)=false:=rfl
theorem aP (n:Nat):aB (bM n)=[bM n]:=rfl
theorem dE (q:Rat):isAny (aQ q)=false:=rfl
theorem aH (q:Rat):aB (aQ q)=[VB (decide (q.num<0)),bM q.num.natAbs,bM q.den]:=rfl
theorem dC (q:Rat):dD true 3 (aQ q) 0=some (aQ q):=rfl
theorem jA (q:Rat):dD false 1 (aQ q) 0=some (VB (decide (q.num<0))):=rfl
theorem jC (q:Rat):dD false 1 (aQ q) 1=some (bM q.num.natAbs):=rfl
theorem lI (q:Rat):dD false 1 (aQ q) 2=some (bM q.den):=rfl
theorem qK {d:Nat} {H:aA} {u u' v v' w w':VV} (h1:fz (d+1) H u=some u') (h2:fz (d+1) H v=some v') (h3:fz (d+1) H w=some w'):fz (d+2) H (.agg [u,v,w])=some (.agg [u',v',w']):=by
 have e:fz (d+2) H (.agg [u,v,w])=if aN (.agg [u,v,w])=true then some (.agg [u,v,w]) else ([u,v,w].mapM (fz (d+1) H)).map .agg:=rfl
 rw[e]
 by_cases hp:aN (.agg [u,v,w])=true
 ·rw[if_pos hp]
  simp only[aN,aM,Bool.and_eq_true,and_true] at hp
  rw[aJ hp.1] at h1
  rw[aJ hp.2.1] at h2
  rw[aJ hp.2.2] at h3
  cases h1
  cases h2
  cases h3
  rfl
 ·rw[if_neg hp,List.mapM_cons,h1,List.mapM_cons,h2,List.mapM_cons,h3]
  rfl
theorem ZC {d:Nat} {H:aA} {v:Value} (h:kC v=true):fz (d+1) H (.sc v)=some (.sc v):=aJ h
theorem uT {H:aA} {neg:Bool} {t b:Nat}:fz depth H (.agg [VB neg,bM t,bM b])=some (.agg [VB neg,bM t,bM b]):=aF (by simp[aN,aM,bS,kC])
theorem qJ {H:aA} (q:Rat):fz depth H (aQ q)=some (aQ q):=aF (gX q)
theorem apU {n:Nat} (h:bl n≤2199023255552):(aC 4294967296 n).length≤68719476736:=by
 have:=ajK n
 omega
theorem fG {n:Nat} (h:bl n≤4398046511104):(aC 4294967296 n).length≤17592186044416:=by
 have:=ajK n
 omega
theorem qC (neg:Bool) (t b:Nat) (hb:b≠0) (ht:bl t≤4398046511104) (uN:bl b≤4398046511104):TC 144 [VB neg,bM t,bM b] (aQ (mkRat (kG neg t) b)):=by
 refine TC.walk ⟨true,false⟩ M5 rfl (Nat.le_of_ble_eq_true rfl) (by simp[aM,bS,aN,kC]) (pZ _) ?_
 by_cases h0:t=0
 ·subst h0
  have hl:(((aC 4294967296 0).length:Nat):Int)=0:=by rw[cC];rfl
  have c1:TC 139 [.sc (.int .u64 1)] (bM 1):=mO 1 (by decide)
  rw[xQ,Rat.zero_mkRat,X2,←DN]
  simp only[uY,pY,dH,hl,c1,aU,aV,aP,iS,Nat.reduceLeDiff,Nat.reduceLT,Nat.reduceSub,VX,Nat.reduceEqDiff,Nat.reduceAdd]
  exact qK (ZC rfl) wL (aJ (bS _))
 ·have hl:¬(((aC 4294967296 t).length:Nat):Int)=0:=by have:=wG.2 h0;omega
  have c1:=Dg t b (fG ht) (fG uN)
  have hg0:Nat.gcd t b≠0:=Nat.gcd_ne_zero_right hb
  have hgl:bl (Nat.gcd t b)≤4398046511104:=Nat.le_trans (kB (Nat.gcd_le_right t (by omega))) uN
  have c2:=xD t _ hg0 (fG ht) (fG hgl)
  have c3:=xD b _ hg0 (fG uN) (fG hgl)
  rw[agD hb h0]
  by_cases h1:((aC 4294967296 (Nat.gcd t b)).length:Int)=1
  ·obtain⟨d,hd⟩:∃d,aC 4294967296 (Nat.gcd t b)=[d]:=List.length_eq_one_iff.1 (by omega)
   obtain⟨hgd,_,_⟩:=Sa hd
   have e1:bJ 1 (bM (Nat.gcd t b)) (.sc (.int .i64 0)) [.row 0 [.agg [VB false,.tree [] .nil,.tree [] .nil]] 3 true]=some (.cT (uV d) 0):=aK (f:=uV) (xs:=aC 4294967296 (Nat.gcd t b)) (i:=0) (k := .i64) (by rw[hd];rfl) rfl
   by_cases h2:(d:Int)=1
   ·have hg1:Nat.gcd t b=1:=by omega
    simp only[uY,pY,dH,hl,c1,h1,h2,e1,aU,aV,aP,iS,Nat.reduceLeDiff,Nat.reduceLT,Nat.reduceSub,VX,Nat.reduceEqDiff,Nat.reduceAdd]
    rw[hg1,Nat.div_one,Nat.div_one]
    exact uT
   ·simp only[uY,pY,dH,hl,c1,c2,c3,h1,h2,e1,aU,aV,aP,iS,Nat.reduceLeDiff,Nat.reduceLT,Nat.reduceSub,VX,Nat.reduceEqDiff,Nat.reduceAdd]
    exact uT
  ·simp only[uY,pY,dH,hl,c1,c2,c3,h1,aU,aV,aP,iS,Nat.reduceLeDiff,Nat.reduceLT,Nat.reduceSub,VX,Nat.reduceEqDiff,Nat.reduceAdd]
   exact uT
theorem Xh {n:Int} (h0 : -9223372036854775808≤n) (h:n<0):IntKind.u64.wrap (0-IntKind.u64.wrap n)=(n.natAbs:Int):=by
 rw[wrap_u64,wrap_u64]
 omega
theorem IC (n:Int) (h0 : -9223372036854775808≤n) (h1:n≤9223372036854775807):TC 140 [VI n] (VK .u64 (n.natAbs:Int)):=by
 refine TC.walk ⟨true,false⟩ IB rfl (Nat.le_of_ble_eq_true rfl) rfl rfl ?_
 by_cases h:n<0
 ·simp only[xC,tX,h,Xh h0 h,VX,Nat.reduceEqDiff,Nat.reduceAdd]
  exact aF rfl
 ·have w:IntKind.u64.wrap n=(n.natAbs:Int):=by rw[wrap_u64];omega
  simp only[xC,tX,h,w,VX,Nat.reduceEqDiff,Nat.reduceAdd]
  exact aF rfl
theorem ZV (n:Int):aQ (n:Rat) = .agg [VB (decide (n<0)),bM n.natAbs,bM 1]:=BP (by simp) (by simp) (by simp)
theorem rW (n:Int) (h0 : -9223372036854775808≤n) (h1:n≤9223372036854775807):TC 64 [VI n] (aQ (n:Rat)):=by
 refine TC.walk ⟨true,false⟩ O1 rfl (Nat.le_of_ble_eq_true rfl) rfl (pZ _) ?_
 have c1:=IC n h0 h1
 have c2:=mO n.natAbs (by omega)
 have c3:TC 139 [.sc (.int .u64 1)] (bM 1):=mO 1 (by decide)
 rw[ZV]
 simp only[LU,Hc,c1,c2,c3,aU,aV,aP,iS,Nat.reduceLeDiff,Nat.reduceLT,Nat.reduceSub,VX,Nat.reduceEqDiff,Nat.reduceAdd]
 exact uT
theorem Kf {q:Rat}:(((aC 4294967296 q.num.natAbs).length:Nat):Int)=0↔q.num=0:=by
 have:=wG (n:=q.num.natAbs)
 omega
theorem iU (q:Rat):TC 68 [aQ q] (VI (kV q)):=by
 refine TC.walk ⟨true,false⟩ G8 rfl (Nat.le_of_ble_eq_true rfl) (by simp[aM,gX]) rfl ?_
 unfold kV
 by_cases h0:q.num=0
 ·have hl:=Kf.2 h0
  rw[if_pos h0]
  simp only[qR,nO,dH,hl,aH,jA,jC,aU,aV,aP,iS,Nat.reduceLeDiff,Nat.reduceLT,Nat.reduceSub,VX,Nat.reduceEqDiff,Nat.reduceAdd]
  exact aF rfl
 ·have hl:¬(((aC 4294967296 q.num.natAbs).length:Nat):Int)=0:=fun h=>h0 (Kf.1 h)
  rw[if_neg h0]
  by_cases h1:q.num<0
  ·simp only[qR,nO,dH,hl,h1,aH,jA,jC,aU,aV,aP,iS,Nat.reduceLeDiff,Nat.reduceLT,Nat.reduceSub,VX,Nat.reduceEqDiff,Nat.reduceAdd]
   exact aF rfl
  ·simp only[qR,nO,dH,hl,h1,aH,jA,jC,aU,aV,aP,iS,Nat.reduceLeDiff,Nat.reduceLT,Nat.reduceSub,VX,Nat.reduceEqDiff,Nat.reduceAdd]
   exact aF rfl
theorem Il (q:Rat):TC 177 [aQ q] (aQ (-q)):=by
 refine TC.walk ⟨true,false⟩ Fs rfl (Nat.le_of_ble_eq_true rfl) (by simp[aM,gX]) (pZ _) ?_
 have hq:aQ (-q) = .agg [VB (decide (0<q.num)),bM q.num.natAbs,bM q.den]:=BP (by simp) (by simp) (by simp)
 rw[hq]
 by_cases h1:q.num<0
 ·have h2:¬0<q.num:=by omega
  simp only[pH,mN,dH,h1,h2,aH,jA,jC,lI,aU,aV,aP,iS,Nat.reduceLeDiff,Nat.reduceLT,Nat.reduceSub,VX,Nat.reduceEqDiff,Nat.reduceAdd]
  exact uT
 ·by_cases h0:q.num=0
  ·have hl:¬(0:Int)<((aC 4294967296 q.num.natAbs).length:Int):=by have:=Kf.2 h0;omega
   have h2:¬0<q.num:=by omega
   simp only[pH,mN,dH,hl,h1,h2,aH,jA,jC,lI,aU,aV,aP,iS,Nat.reduceLeDiff,Nat.reduceLT,Nat.reduceSub,VX,Nat.reduceEqDiff,Nat.reduceAdd]
   exact uT
  ·have hl:(0:Int)<((aC 4294967296 q.num.natAbs).length:Int):=by have:=mt Kf.1 h0;omega
   have h2:0<q.num:=by omega
   simp only[pH,mN,dH,hl,h1,h2,aH,jA,jC,lI,aU,aV,aP,iS,Nat.reduceLeDiff,Nat.reduceLT,Nat.reduceSub,VX,Nat.reduceEqDiff,Nat.reduceAdd]
   exact uT
end Go.PM
namespace Go.PM
open Go.Lib
theorem Ag (a b:Bool):M6 false (.bool a) (.bool b)=some (.bool (a == b)):=by
 show some (Value.bool ((a == b) != false))=_
 rw[Bool.bne_false]
theorem oC (a b:Bool):M6 true (.bool a) (.bool b)=some (.bool (a != b)):=by
 show some (Value.bool ((a == b) != true))=_
 cases a<;>cases b<;>rfl
theorem tI {q:Rat} {k:Nat} (h:aY q≤k):bl q.num.natAbs≤k:=Nat.le_trans rH h
theorem tZ {q:Rat} {k:Nat} (h:aY q≤k):bl q.den≤k:=Nat.le_trans pB h
theorem Im {X Y B:Nat} {a b:Rat} (hB:B≠0) (ha:mkRat (kG (decide (a.num<0)) X) B=a) (hb:mkRat (kG (decide (b.num<0)) Y) B=b) :
  ((decide (a.num<0))=(decide (b.num<0))→mkRat (kG (decide (a.num<0)) (X+Y)) B=a+b) ∧
  ((decide (a.num<0))≠(decide (b.num<0))→Y≤X→mkRat (kG (decide (a.num<0)) (X-Y)) B=a+b) ∧
  ((decide (a.num<0))≠(decide (b.num<0))→X≤Y→mkRat (kG (decide (b.num<0)) (Y-X)) B=a+b):=by
 refine⟨fun h => ?_,fun h hx => ?_,fun h hx => ?_⟩
 ·conv=>rhs;rw[←ha,←hb,CL _ _ hB,←h,Pj]
 ·conv=>rhs;rw[←ha,←hb,CL _ _ hB,Te h hx]
 ·conv=>rhs;rw[←ha,←hb,CL _ _ hB,Ty h hx]
theorem xB (a b:Rat) (M3:aY a≤1099511627776) (HY:aY b≤1099511627776):TC 69 [aQ a,aQ b] (aQ (a+b)):=by
 refine TC.walk ⟨true,false⟩ HW rfl (Nat.le_of_ble_eq_true rfl) (by simp[aM,gX]) (pZ _) ?_
 have ca:=iU a
 have cb:=iU b
 by_cases ha0:a.num=0
 ·have:a=0:=Rat.num_eq_zero.1 ha0
  rw[kQ ha0] at ca
  rw[this,Rat.zero_add,←this]
  simp only[gB,eQ,ca,cb,aH,dC,dE,aU,aV,aP,iS,Nat.reduceLeDiff,Nat.reduceLT,Nat.reduceSub,VX,Nat.reduceEqDiff,Nat.reduceAdd]
  exact qJ _
 have hsa:¬kV a=0:=fun h=>ha0 (Rat.num_eq_zero.2 (BT.1 h))
 by_cases hb0:b.num=0
 ·have:b=0:=Rat.num_eq_zero.1 hb0
  rw[kQ hb0] at cb
  rw[this,Rat.add_zero,←this]
  simp only[gB,eQ,ca,cb,hsa,aH,dC,dE,aU,aV,aP,iS,Nat.reduceLeDiff,Nat.reduceLT,Nat.reduceSub,VX,Nat.reduceEqDiff,Nat.reduceAdd]
  exact qJ _
 have hsb:¬kV b=0:=fun h=>hb0 (Rat.num_eq_zero.2 (BT.1 h))
 have la:=tI M3
 have lb:=tI HY
 have lda:=tZ M3
 have ldb:=tZ HY
 have fin:∀(X Y B:Nat),bl X≤2199023255552→bl Y≤2199023255552→bl B≤2199023255552→B≠0→mkRat (kG (decide (a.num<0)) X) B=a→mkRat (kG (decide (b.num<0)) Y) B=b →
   TC 145 [bM X,bM Y] (bM (X+Y))∧TC 142 [bM X,bM Y] (VI (eW X Y)) ∧
   (Y≤X→TC 146 [bM X,bM Y] (bM (X-Y)))∧(X≤Y→TC 146 [bM Y,bM X] (bM (Y-X))) ∧
   (∀neg,TC 144 [VB neg,bM (X+Y),bM B] (aQ (mkRat (kG neg (X+Y)) B))) ∧
   (∀neg,TC 144 [VB neg,bM (X-Y),bM B] (aQ (mkRat (kG neg (X-Y)) B))) ∧
   (∀neg,TC 144 [VB neg,bM (Y-X),bM B] (aQ (mkRat (kG neg (Y-X)) B))):=by
  intro X Y B hX hY hB hB0 _ _
  refine⟨CX X Y (fG (by omega)) (fG (by omega)),jZ X Y (fG (by omega)) (fG (by omega)),fun h=>CW X Y h (fG (by omega)),fun h=>CW Y X h (fG (by omega)),fun neg=>qC neg _ _ hB0 ?_ (by omega),fun neg=>qC neg _ _ hB0 ?_ (by omega),fun neg=>qC neg _ _ hB0 ?_ (by omega)⟩
  ·exact Nat.le_trans (UR hX hY) (by omega)
  ·exact Nat.le_trans (kB (Nat.sub_le _ _)) (by omega)
  ·exact Nat.le_trans (kB (Nat.sub_le _ _)) (by omega)
 by_cases hd:a.den=b.den
 ·have hBn:=a.den_nz
  have cc:=jZ a.den b.den (fG (by omega)) (fG (by omega))
  rw[show eW a.den b.den=0 from AY.2 hd] at cc
  have eb:mkRat (kG (decide (b.num<0)) b.num.natAbs) a.den=b:=by rw[hd,Kd]
  obtain⟨f1,f2,f3,f4,f5,f6,f7⟩:=fin a.num.natAbs b.num.natAbs a.den (by omega) (by omega) (by omega) hBn (Kd a) eb
  obtain⟨p1,p2,p3⟩:=Im hBn (Kd a) eb
  by_cases hn:decide (a.num<0)=decide (b.num<0)
  ·have QB:(decide (a.num<0) == decide (b.num<0))=true:=by simpa using hn
   rw[←p1 hn]
   simp only[gB,eQ,ca,cb,hsa,hsb,cc,f1,f5,Ag,oC,QB,aH,dC,jA,jC,lI,dE,aU,aV,aP,iS,Nat.reduceLeDiff,Nat.reduceLT,Nat.reduceSub,VX,Nat.reduceEqDiff,Nat.reduceAdd]
   exact qJ _
  ·have QB:(decide (a.num<0) == decide (b.num<0))=false:=by simpa using hn
   by_cases hx:(0:Int)≤eW a.num.natAbs b.num.natAbs
   ·have hle:b.num.natAbs≤a.num.natAbs:=by have := @uH a.num.natAbs b.num.natAbs;omega
    have c3:=f3 hle
    rw[←p2 hn hle]
    simp only[gB,eQ,ca,cb,hsa,hsb,cc,f2,c3,f6,hx,Ag,oC,QB,aH,dC,jA,jC,lI,dE,aU,aV,aP,iS,Nat.reduceLeDiff,Nat.reduceLT,Nat.reduceSub,VX,Nat.reduceEqDiff,Nat.reduceAdd]
    exact qJ _
   ·have hle:a.num.natAbs≤b.num.natAbs:=by have := @uH a.num.natAbs b.num.natAbs;omega
    have c3:=f4 hle
    rw[←p3 hn hle]
    simp only[gB,eQ,ca,cb,hsa,hsb,cc,f2,c3,f7,hx,Ag,oC,QB,aH,dC,jA,jC,lI,dE,aU,aV,aP,iS,Nat.reduceLeDiff,Nat.reduceLT,Nat.reduceSub,VX,Nat.reduceEqDiff,Nat.reduceAdd]
    exact qJ _
 ·have hBn:=Nat.mul_ne_zero a.den_nz b.den_nz
  have cc:=jZ a.den b.den (fG (by omega)) (fG (by omega))
  have UY:¬eW a.den b.den=0:=fun h=>hd (AY.1 h)
  have m1:=iF a.num.natAbs b.den (fG (by omega)) (fG (by omega))
  have m2:=iF b.num.natAbs a.den (fG (by omega)) (fG (by omega))
  have m3:=iF a.den b.den (fG (by omega)) (fG (by omega))
  have ea:mkRat (kG (decide (a.num<0)) (a.num.natAbs*b.den)) (a.den*b.den)=a:=DR a b.den_nz
  have eb:mkRat (kG (decide (b.num<0)) (b.num.natAbs*a.den)) (a.den*b.den)=b:=by rw[Nat.mul_comm a.den];exact DR b a.den_nz
  have k1:=nJ a.num.natAbs b.den
  have k2:=nJ b.num.natAbs a.den
  have k3:=nJ a.den b.den
  obtain⟨f1,f2,f3,f4,f5,f6,f7⟩:=fin _ _ _ (by omega) (by omega) (by omega) hBn ea eb
  obtain⟨p1,p2,p3⟩:=Im hBn ea eb
  by_cases hn:decide (a.num<0)=decide (b.num<0)
  ·have QB:(decide (a.num<0) == decide (b.num<0))=true:=by simpa using hn
   rw[←p1 hn]
   simp only[gB,eQ,ca,cb,hsa,hsb,cc,UY,m1,m2,m3,f1,f5,Ag,oC,QB,aH,dC,jA,jC,lI,dE,aU,aV,aP,iS,Nat.reduceLeDiff,Nat.reduceLT,Nat.reduceSub,VX,Nat.reduceEqDiff,Nat.reduceAdd]
   exact qJ _
  ·have QB:(decide (a.num<0) == decide (b.num<0))=false:=by simpa using hn
   by_cases hx:(0:Int)≤eW (a.num.natAbs*b.den) (b.num.natAbs*a.den)
   ·have hle:b.num.natAbs*a.den≤a.num.natAbs*b.den:=by have := @uH (a.num.natAbs*b.den) (b.num.natAbs*a.den);omega
    have c3:=f3 hle
    rw[←p2 hn hle]
    simp only[gB,eQ,ca,cb,hsa,hsb,cc,UY,m1,m2,m3,f2,c3,f6,hx,Ag,oC,QB,aH,dC,jA,jC,lI,dE,aU,aV,aP,iS,Nat.reduceLeDiff,Nat.reduceLT,Nat.reduceSub,VX,Nat.reduceEqDiff,Nat.reduceAdd]
    exact qJ _
   ·have hle:a.num.natAbs*b.den≤b.num.natAbs*a.den:=by have := @uH (a.num.natAbs*b.den) (b.num.natAbs*a.den);omega
    have c3:=f4 hle
    rw[←p3 hn hle]
    simp only[gB,eQ,ca,cb,hsa,hsb,cc,UY,m1,m2,m3,f2,c3,f7,hx,Ag,oC,QB,aH,dC,jA,jC,lI,dE,aU,aV,aP,iS,Nat.reduceLeDiff,Nat.reduceLT,Nat.reduceSub,VX,Nat.reduceEqDiff,Nat.reduceAdd]
    exact qJ _
theorem L9 (a b:Rat) (M3:aY a≤1099511627776) (HY:aY b≤1099511627776):TC 128 [aQ a,aQ b] (aQ (a-b)):=by
 refine TC.walk ⟨true,false⟩ HI rfl (Nat.le_of_ble_eq_true rfl) (by simp[aM,gX]) (pZ _) ?_
 have c1:=Il b
 have c2:=xB a (-b) M3 (by rw[H8];exact HY)
 rw[←Rat.sub_eq_add_neg] at c2
 simp only[Dc,Az,c1,c2,aH,dC,dE,aU,aV,aP,iS,Nat.reduceLeDiff,Nat.reduceLT,Nat.reduceSub,VX,Nat.reduceEqDiff,Nat.reduceAdd]
 exact qJ _
theorem KR (a b:Rat) (M3:aY a≤1099511627776) (HY:aY b≤1099511627776):TC 132 [aQ a,aQ b] (aQ (a*b)):=by
 refine TC.walk ⟨true,false⟩ Hp rfl (Nat.le_of_ble_eq_true rfl) (by simp[aM,gX]) (pZ _) ?_
 have ca:=iU a
 have cb:=iU b
 have c0:TC 64 [VI 0] (aQ 0):=rW 0 (by decide) (by decide)
 by_cases ha0:a.num=0
 ·have:a=0:=Rat.num_eq_zero.1 ha0
  rw[kQ ha0] at ca
  rw[show a*b=0 by rw[this,Rat.zero_mul]]
  simp only[rR,oV,ca,cb,c0,aH,dC,dE,aU,aV,aP,iS,Nat.reduceLeDiff,Nat.reduceLT,Nat.reduceSub,VX,Nat.reduceEqDiff,Nat.reduceAdd]
  exact qJ _
 have hsa:¬kV a=0:=fun h=>ha0 (Rat.num_eq_zero.2 (BT.1 h))
 by_cases hb0:b.num=0
 ·have:b=0:=Rat.num_eq_zero.1 hb0
  rw[kQ hb0] at cb
  rw[show a*b=0 by rw[this,Rat.mul_zero]]
  simp only[rR,oV,ca,cb,hsa,c0,aH,dC,dE,aU,aV,aP,iS,Nat.reduceLeDiff,Nat.reduceLT,Nat.reduceSub,VX,Nat.reduceEqDiff,Nat.reduceAdd]
  exact qJ _
 have hsb:¬kV b=0:=fun h=>hb0 (Rat.num_eq_zero.2 (BT.1 h))
 have la:=tI M3
 have lb:=tI HY
 have lda:=tZ M3
 have ldb:=tZ HY
 have l1:=qC false a.num.natAbs b.den b.den_nz (by omega) (by omega)
 have l2:=qC false b.num.natAbs a.den a.den_nz (by omega) (by omega)
 obtain⟨d1,d2⟩:=BD a.num.natAbs b.den_nz
 obtain⟨d3,d4⟩:=BD b.num.natAbs a.den_nz
 have b1:=kB (Nat.le_of_dvd (by omega) d1)
 have b2:=kB (Nat.le_of_dvd (Nat.pos_of_ne_zero b.den_nz) d2)
 have b3:=kB (Nat.le_of_dvd (by omega) d3)
 have b4:=kB (Nat.le_of_dvd (Nat.pos_of_ne_zero a.den_nz) d4)
 obtain⟨e1,e2⟩:=XP a b
 have e3:=Rh ha0 hb0
 generalize mkRat (kG false a.num.natAbs) b.den=u at *
 generalize mkRat (kG false b.num.natAbs) a.den=v at *
 have m1:=iF u.num.natAbs v.num.natAbs (fG (by omega)) (fG (by omega))
 have m2:=iF u.den v.den (fG (by omega)) (fG (by omega))
 rw[BP e3 e1 e2]
 simp only[rR,oV,ca,cb,hsa,hsb,l1,l2,m1,m2,Ag,oC,aH,dC,jA,jC,lI,dE,aU,aV,aP,iS,Nat.reduceLeDiff,Nat.reduceLT,Nat.reduceSub,VX,Nat.reduceEqDiff,Nat.reduceAdd]
 exact uT
theorem abK {b:Rat} (h:b≠0):aQ b⁻¹ = .agg [VB (decide (b.num<0)),bM b.den,bM b.num.natAbs]:=by
 have hn:b.num≠0:=fun hn=>h (Rat.num_eq_zero.1 hn)
 have hd:(0:Int)<b.den:=by have:=b.den_nz;omega
 refine BP ?_ ?_ ?_
 ·rw[Rat.num_inv,decide_eq_true_eq]
  rcases Int.lt_or_gt_of_ne hn with h1 | h1
  ·rw[Int.sign_eq_neg_one_of_neg h1];omega
  ·rw[Int.sign_eq_one_of_pos h1];omega
 ·rw[Rat.num_inv,Int.natAbs_mul,Int.natAbs_natCast]
  rcases Int.lt_or_gt_of_ne hn with h1 | h1
  ·rw[Int.sign_eq_neg_one_of_neg h1];simp
  ·rw[Int.sign_eq_one_of_pos h1];simp
 ·rw[Rat.den_inv,if_neg hn]
theorem JN (a b:Rat) (hb:b≠0) (M3:aY a≤1099511627776) (HY:aY b≤1099511627776):TC 129 [aQ a,aQ b] (aQ (a / b)):=by
 refine TC.walk ⟨true,false⟩ G1 rfl (Nat.le_of_ble_eq_true rfl) (by simp[aM,gX]) (pZ _) ?_
 have c1:=KR a b⁻¹ M3 (Nat.le_trans (NJ b) HY)
 rw[←Rat.div_def,abK hb] at c1
 simp only[Cb,zS,c1,aH,dC,jA,jC,lI,dE,aU,aV,aP,iS,Nat.reduceLeDiff,Nat.reduceLT,Nat.reduceSub,VX,Nat.reduceEqDiff,Nat.reduceAdd]
 exact qJ _
theorem IN (q:Rat) : -1≤kV q∧kV q≤1:=by
 rcases Int.lt_trichotomy q.num 0 with h | h | h
 ·rw[pM h];omega
 ·rw[kQ h];omega
 ·rw[oW h];omega
theorem Tz (m n:Nat) : -1≤eW m n∧eW m n≤1:=by
 rcases Nat.lt_trichotomy m n with h | h | h
 ·rw[eW,if_pos h];omega
 ·subst h;rw[eW,if_neg (by omega),if_pos rfl];omega
 ·rw[eW,if_neg (by omega),if_neg (by omega)];omega
theorem K8 (a b:Rat) (M3:aY a≤1099511627776) (HY:aY b≤1099511627776):TC 148 [aQ a,aQ b] (VI (RN a b)):=by
 refine TC.walk ⟨true,false⟩ Iv rfl (Nat.le_of_ble_eq_true rfl) (by simp[aM,gX]) rfl ?_
 have ca:=iU a
 have cb:=iU b
 have la:=tI M3
 have lb:=tI HY
 have lda:=tZ M3
 have ldb:=tZ HY
 have k1:=nJ a.num.natAbs b.den
 have k2:=nJ b.num.natAbs a.den
 have m1:=iF a.num.natAbs b.den (fG (by omega)) (fG (by omega))
 have m2:=iF b.num.natAbs a.den (fG (by omega)) (fG (by omega))
 have c1:=jZ (a.num.natAbs*b.den) (b.num.natAbs*a.den) (fG (by omega)) (fG (by omega))
 have ra:=IN a
 have rb:=IN b
 have rc:=Tz (a.num.natAbs*b.den) (b.num.natAbs*a.den)
 unfold RN
 by_cases hs:kV a=kV b
 ·rw[if_pos hs]
  have w:IntKind.i64.wrap (0-eW (a.num.natAbs*b.den) (b.num.natAbs*a.den)) = -eW (a.num.natAbs*b.den) (b.num.natAbs*a.den):=by rw[wrap64 (by omega) (by omega)];omega
  by_cases hn:a.num<0
  ·rw[if_pos hn]
   simp only[rS,pK,ca,cb,hs,m1,m2,c1,hn,w,aH,dC,jA,jC,lI,dE,aU,aV,aP,iS,Nat.reduceLeDiff,Nat.reduceLT,Nat.reduceSub,VX,Nat.reduceEqDiff,Nat.reduceAdd]
   exact aF rfl
  ·rw[if_neg hn]
   simp only[rS,pK,ca,cb,hs,m1,m2,c1,hn,aH,dC,jA,jC,lI,dE,aU,aV,aP,iS,Nat.reduceLeDiff,Nat.reduceLT,Nat.reduceSub,VX,Nat.reduceEqDiff,Nat.reduceAdd]
   exact aF rfl
 ·rw[if_neg hs]
  have w:IntKind.i64.wrap (kV a-kV b)=kV a-kV b:=wrap64 (by omega) (by omega)
  simp only[rS,pK,ca,cb,hs,w,aH,dC,jA,jC,lI,dE,aU,aV,aP,iS,Nat.reduceLeDiff,Nat.reduceLT,Nat.reduceSub,VX,Nat.reduceEqDiff,Nat.reduceAdd]
  exact aF rfl
end Go.PM
namespace Go.PM
theorem qG {n:Nat}:(0:Int)<((aC 1000000000 n).length:Int)↔n≠0:=by
 constructor
 ·intro h h0
  subst h0
  rw[cC] at h
  simp at h
 ·intro h
  have:=(lQ (b:=1000000000) (by decide) (n:=n))
  have h2:aC 1000000000 n≠[]:=fun hx=>h (this.1 hx)
  have:=List.length_pos_iff.2 h2
  omega
theorem oP {n:Nat} (h:bl n≤4398046511104):(aC 1000000000 n).length<17592186044416:=by
 have:=ajC n
 omega
theorem EH (a b:Nat) (ha:(aC 1000000000 a).length<17592186044416) (hb:(aC 1000000000 b).length<17592186044416):TC 170 [bY a,bY b] (bY (Nat.gcd a b)):=by
 refine TC.walk ⟨true,false⟩ Nl rfl (Nat.le_of_ble_eq_true rfl) (by simp[aM,cG]) (nA _) ?_
 simp only[I2,Ep,VX,Nat.reduceEqDiff,Nat.reduceAdd]
 refine aT (fun(t:Nat×Nat) ρ H=>H=[]∧Nat.gcd t.1 t.2=Nat.gcd a b∧(aC 1000000000 t.1).length<17592186044416∧(aC 1000000000 t.2).length<17592186044416∧ρ 0=bY t.1∧ρ 1=bY t.2) (fun t=>t.2) (a,b) ⟨rfl,rfl,ha,hb,rfl,rfl⟩ ?_
 rintro⟨x,y⟩ ρ H ⟨rfl,hg,hx,hy,g0,g1⟩
 simp only at hg hx hy g0 g1
 by_cases hy0:y=0
 ·subst hy0
  have hl:¬(0:Int)<((aC 1000000000 0).length:Int):=by rw[qG];omega
  rw[Nat.gcd_zero_right] at hg
  simp only[xN,g0,g1,cL,hl,VX,Nat.reduceEqDiff,Nat.reduceAdd]
  rw[hg]
  exact aF (cG _)
 ·have hl:(0:Int)<((aC 1000000000 y).length:Int):=qG.2 hy0
  have c3:=tO x y hy0 hx hy
  have hm:=Nat.mod_lt x (show 0<y by omega)
  simp only[xN,g0,g1,cL,hl,c3,VX,Nat.reduceEqDiff,Nat.reduceAdd]
  refine⟨(y,x % y),hm,?_,hy,?_,rfl,rfl⟩
  ·simp only
   rw[←hg,Nat.gcd_comm x y,Nat.gcd_rec y x,Nat.gcd_comm]
  ·simp only
   have:=dX (b:=1000000000) (by decide) (Nat.le_of_lt hm)
   omega
def bB (q:Rat):VV := .agg [VB (decide (q.num<0)),bY q.num.natAbs,bY q.den]
theorem jK (q:Rat):aN (bB q)=true:=by simp[bB,aN,aM,cG,kC]
theorem rP (q:Rat):gJ (bB q)=true:=by simp[bB,gJ,qE,nA,kC]
theorem Kh {q:Rat} {neg:Bool} {t b:Nat} (h0:q.num<0↔neg=true) (h1:q.num.natAbs=t) (h2:q.den=b):bB q = .agg [VB neg,bY t,bY b]:=by
 subst h1 h2
 unfold bB
 congr 4
 cases neg<;>simp_all
theorem aL (n:Nat):bO (bY n)=true:=rfl
theorem bF (n:Nat):isAny (bY n)=false:=rfl
theorem aZ (n:Nat):aB (bY n)=[bY n]:=rfl
theorem mI (q:Rat):isAny (bB q)=false:=rfl
theorem cA (q:Rat):aB (bB q)=[VB (decide (q.num<0)),bY q.num.natAbs,bY q.den]:=rfl
theorem fF (q:Rat):dD true 3 (bB q) 0=some (bB q):=rfl
theorem fM (q:Rat):dD false 1 (bB q) 0=some (VB (decide (q.num<0))):=rfl
theorem gD (q:Rat):dD false 1 (bB q) 1=some (bY q.num.natAbs):=rfl
theorem fW (q:Rat):dD false 1 (bB q) 2=some (bY q.den):=rfl
theorem pC {H:aA} {neg:Bool} {t b:Nat}:fz depth H (.agg [VB neg,bY t,bY b])=some (.agg [VB neg,bY t,bY b]):=aF (by simp[aN,aM,cG,kC])
theorem BM {H:aA} (q:Rat):fz depth H (bB q)=some (bB q):=aF (jK q)
theorem Z8 (n:Int):bB (n:Rat) = .agg [VB (decide (n<0)),bY n.natAbs,bY 1]:=Kh (by simp) (by simp) (by simp)
theorem Km {n lo:Nat} {H:aA} {K:VV→aA→Prop} (h:(aC 1000000000 n).length≤17592186044416):cS 155 [bY n,.tree [VI 1] (.cl 1)] lo H K=K (VI (eW n 1)) H:=by
 have c:=uO n 1 h (by rw[C4 (by decide) (by decide) (by decide)];simp)
 have e:bY 1 = .tree [VI 1] .op:=by rw[bY,C4 (by decide) (by decide) (by decide)];rfl
 rw[e] at c
 exact TC.args c rfl (by simp only[aM,cG];rfl) (fz2 (aF (cG n)) (ajP rfl)) (by simp only[List.flatMap_cons,List.flatMap_nil,FE (cG n),YO (es:=[VI 1]) rfl,List.append_nil]) lo K
theorem dU {d:Int} {H:aA}:jE false [.int .i64 0] 1 [(0,VI d)] H=some (.tree [VI d] (.cl 1),H):=tD
theorem fO {e:Nat} {es:List VV}:bO (.tree es (.cl e))=true:=rfl
theorem dS {k:TK} {es:List VV}:aB (.tree es k)=[.tree es k]:=rfl
theorem fL {k:TK} {es:List VV}:isAny (.tree es k)=false:=rfl
theorem PA {d:Nat} {H:aA}:fz (d+2) H (.tree [VI 1] (.cl 1))=some (bY 1):=by
 rw[aaC]
 unfold fz
 have:aN (.tree [VI 1] (.cl 1))=false:=by simp[aN]
 simp only[this,Bool.false_eq_true,if_false]
 rfl
theorem sA (neg:Bool) (t b:Nat) (hb:b≠0) (ht:bl t≤4398046511104) (uN:bl b≤4398046511104):TC 153 [VB neg,bY t,bY b] (bB (mkRat (kG neg t) b)):=by
 refine TC.walk ⟨true,false⟩ Lk rfl (Nat.le_of_ble_eq_true rfl) (by simp[aM,cG,aN,kC]) (rP _) ?_
 have hg0:Nat.gcd t b≠0:=Nat.gcd_ne_zero_right hb
 have hgl:bl (Nat.gcd t b)≤4398046511104:=Nat.le_trans (kB (Nat.gcd_le_right t (by omega))) uN
 have c1:=EH t b (oP ht) (oP uN)
 have c2:=tO t _ hg0 (oP ht) (oP hgl)
 have c3:=tO b _ hg0 (oP uN) (oP hgl)
 have c4:∀lo H K,_:=fun lo H K=>Km (n:=Nat.gcd t b) (lo:=lo) (H:=H) (K:=K) (Nat.le_of_lt (oP hgl))
 have TX:bB (mkRat (kG neg t) b) = .agg [VB (neg&&decide (t / Nat.gcd t b≠0)),bY (t / Nat.gcd t b),bY (b / Nat.gcd t b)]:=by
  refine Kh ?_ (by rw[E6 hb,nQ]) (Pb hb)
  rw[E6 hb,P4,Bool.and_eq_true,decide_eq_true_eq]
 rw[TX]
 by_cases h1:eW (Nat.gcd t b) 1=0
 ·have hg1:=AY.1 h1
  have e1:t / Nat.gcd t b=t:=by rw[hg1,Nat.div_one]
  have e2:b / Nat.gcd t b=b:=by rw[hg1,Nat.div_one]
  rw[e1,e2]
  cases neg with
  |
   false =>
   simp only[mQ,jW,c1,c4,h1,dU,aL,bF,aZ,iS,Nat.reduceLeDiff,Nat.reduceLT,Nat.reduceSub,VX,Nat.reduceEqDiff,Nat.reduceAdd]
   exact pC
  |
   true =>
   by_cases h0:t=0
   ·have hl:¬(0:Int)<((aC 1000000000 t).length:Int):=by rw[qG];omega
    simp only[mQ,jW,c1,c4,h1,hl,cL,dU,aL,bF,aZ,iS,Nat.reduceLeDiff,Nat.reduceLT,Nat.reduceSub,VX,Nat.reduceEqDiff,Nat.reduceAdd]
    rw[h0]
    exact pC
   ·have hl:(0:Int)<((aC 1000000000 t).length:Int):=qG.2 h0
    simp only[mQ,jW,c1,c4,h1,hl,cL,dU,aL,bF,aZ,iS,Nat.reduceLeDiff,Nat.reduceLT,Nat.reduceSub,VX,Nat.reduceEqDiff,Nat.reduceAdd]
    rw[decide_eq_true h0]
    exact pC
 ·cases neg with
  |
   false =>
   simp only[mQ,jW,c1,c2,c3,c4,h1,dU,aL,bF,aZ,iS,Nat.reduceLeDiff,Nat.reduceLT,Nat.reduceSub,VX,Nat.reduceEqDiff,Nat.reduceAdd]
   exact pC
  |
   true =>
   generalize t / Nat.gcd t b=t' at *
   by_cases h0:t'=0
   ·have hl:¬(0:Int)<((aC 1000000000 t').length:Int):=by rw[qG];omega
    simp only[mQ,jW,c1,c2,c3,c4,h1,hl,cL,dU,aL,bF,aZ,iS,Nat.reduceLeDiff,Nat.reduceLT,Nat.reduceSub,VX,Nat.reduceEqDiff,Nat.reduceAdd]
    rw[h0]
    exact pC
   ·have hl:(0:Int)<((aC 1000000000 t').length:Int):=qG.2 h0
    simp only[mQ,jW,c1,c2,c3,c4,h1,hl,cL,dU,aL,bF,aZ,iS,Nat.reduceLeDiff,Nat.reduceLT,Nat.reduceSub,VX,Nat.reduceEqDiff,Nat.reduceAdd]
    rw[decide_eq_true h0]
    exact pC
theorem En (n:Int) (h0 : -9223372036854775808<n) (h1:n≤9223372036854775807):TC 130 [VI n] (bB (n:Rat)):=by
 refine TC.walk ⟨true,false⟩ Nq rfl (Nat.le_of_ble_eq_true rfl) rfl (rP _) ?_
 rw[Z8]
 by_cases h:n<0
 ·have w:IntKind.i64.wrap (0-n)=(n.natAbs:Int):=wrapN _ (by omega) (by omega)
  have c1:TC 178 [VI (n.natAbs:Int)] (bY n.natAbs):=qA (n.natAbs:Int) (by omega)
  rw[decide_eq_true h]
  simp only[Dp,Ad,h,w,c1,dU,aL,bF,aZ,fO,dS,fL,iS,Nat.reduceLeDiff,Nat.reduceLT,Nat.reduceSub,VX,Nat.reduceEqDiff,Nat.reduceAdd]
  exact qK (d:=6) (ZC rfl) (aJ (cG _)) (PA (d:=5))
 ·have c1:TC 178 [VI n] (bY n.natAbs):=by
   have:=qA n h1
   rwa [show n.toNat=n.natAbs by omega] at this
  rw[decide_eq_false h]
  simp only[Dp,Ad,h,c1,dU,aL,bF,aZ,fO,dS,fL,iS,Nat.reduceLeDiff,Nat.reduceLT,Nat.reduceSub,VX,Nat.reduceEqDiff,Nat.reduceAdd]
  exact qK (d:=6) (ZC rfl) (aJ (cG _)) (PA (d:=5))
theorem MR:TC 83 [] (bB 1):=by
 refine TC.walk ⟨true,false⟩ MT rfl (Nat.le_of_ble_eq_true rfl) rfl (rP _) ?_
 have c1:TC 130 [VI 1] (bB 1):=En 1 (by decide) (by decide)
 simp only[Jw,Es,c1,cA,fF,mI,aL,iS,Nat.reduceLeDiff,Nat.reduceLT,Nat.reduceSub,VX,Nat.reduceEqDiff,Nat.reduceAdd]
 exact BM _
theorem yK:TC 77 [] (bB 0):=by
 refine TC.walk ⟨true,false⟩ Ml rfl (Nat.le_of_ble_eq_true rfl) rfl (rP _) ?_
 have c1:TC 130 [VI 0] (bB 0):=En 0 (by decide) (by decide)
 simp only[Gq,CE,c1,cA,fF,mI,aL,iS,Nat.reduceLeDiff,Nat.reduceLT,Nat.reduceSub,VX,Nat.reduceEqDiff,Nat.reduceAdd]
 exact BM _
theorem FH (q:Rat):TC 157 [bB q] (bB (-q)):=by
 refine TC.walk ⟨true,false⟩ E3 rfl (Nat.le_of_ble_eq_true rfl) (by simp[aM,jK]) (rP _) ?_
 have hq:bB (-q) = .agg [VB (decide (0<q.num)),bY q.num.natAbs,bY q.den]:=Kh (by simp) (by simp) (by simp)
 rw[hq]
 by_cases h1:q.num<0
 ·have h2:¬0<q.num:=by omega
  simp only[oX,mD,cL,h1,h2,cA,fM,gD,fW,aL,bF,aZ,iS,Nat.reduceLeDiff,Nat.reduceLT,Nat.reduceSub,VX,Nat.reduceEqDiff,Nat.reduceAdd]
  exact pC
 ·by_cases h0:q.num=0
  ·have hl:¬(0:Int)<((aC 1000000000 q.num.natAbs).length:Int):=by rw[qG];omega
   have h2:¬0<q.num:=by omega
   simp only[oX,mD,cL,hl,h1,h2,cA,fM,gD,fW,aL,bF,aZ,iS,Nat.reduceLeDiff,Nat.reduceLT,Nat.reduceSub,VX,Nat.reduceEqDiff,Nat.reduceAdd]
   exact pC
  ·have hl:(0:Int)<((aC 1000000000 q.num.natAbs).length:Int):=by rw[qG];omega
   have h2:0<q.num:=by omega
   simp only[oX,mD,cL,hl,h1,h2,cA,fM,gD,fW,aL,bF,aZ,iS,Nat.reduceLeDiff,Nat.reduceLT,Nat.reduceSub,VX,Nat.reduceEqDiff,Nat.reduceAdd]
   exact pC
theorem zZ (a b:Rat) (M3:aY a≤1099511627776) (HY:aY b≤1099511627776):TC 79 [bB a,bB b] (bB (a+b)):=by
 refine TC.walk ⟨true,false⟩ MP rfl (Nat.le_of_ble_eq_true rfl) (by simp[aM,jK]) (rP _) ?_
 have la:=tI M3
 have lb:=tI HY
 have lda:=tZ M3
 have ldb:=tZ HY
 have hBn:=Nat.mul_ne_zero a.den_nz b.den_nz
 have m1:=gY a.num.natAbs b.den (Nat.le_of_lt (oP (by omega))) (Nat.le_of_lt (oP (by omega)))
 have m2:=gY b.num.natAbs a.den (Nat.le_of_lt (oP (by omega))) (Nat.le_of_lt (oP (by omega)))
 have m3:=gY a.den b.den (Nat.le_of_lt (oP (by omega))) (Nat.le_of_lt (oP (by omega)))
 have ea:mkRat (kG (decide (a.num<0)) (a.num.natAbs*b.den)) (a.den*b.den)=a:=DR a b.den_nz
 have eb:mkRat (kG (decide (b.num<0)) (b.num.natAbs*a.den)) (a.den*b.den)=b:=by rw[Nat.mul_comm a.den];exact DR b a.den_nz
 have k1:=nJ a.num.natAbs b.den
 have k2:=nJ b.num.natAbs a.den
 have k3:=nJ a.den b.den
 obtain⟨p1,p2,p3⟩:=Im hBn ea eb
 have hX:bl (a.num.natAbs*b.den)≤2199023255552:=by omega
 have hY:bl (b.num.natAbs*a.den)≤2199023255552:=by omega
 have hB:bl (a.den*b.den)≤4398046511104:=by omega
 generalize a.num.natAbs*b.den=X at *
 generalize b.num.natAbs*a.den=Y at *
 generalize a.den*b.den=B at *
 have f1:=HN X Y (oP (by omega)) (oP (by omega))
 have f2:=uO X Y (Nat.le_of_lt (oP (by omega))) (Nat.le_of_lt (oP (by omega)))
 have hS:bl (X+Y)≤4398046511104:=Nat.le_trans (UR hX hY) (by decide)
 have hD1:bl (X-Y)≤4398046511104:=Nat.le_trans (kB (Nat.sub_le _ _)) (by omega)
 have hD2:bl (Y-X)≤4398046511104:=Nat.le_trans (kB (Nat.sub_le _ _)) (by omega)
 have f5:=fun neg=>sA neg (X+Y) B hBn hS hB
 have f6:=fun neg=>sA neg (X-Y) B hBn hD1 hB
 have f7:=fun neg=>sA neg (Y-X) B hBn hD2 hB
 by_cases hn:decide (a.num<0)=decide (b.num<0)
 ·have QB:(decide (a.num<0) == decide (b.num<0))=true:=by simpa using hn
  rw[←p1 hn]
  simp only[yU,uK,m1,m2,m3,f1,f5,Ag,oC,QB,cA,fF,fM,gD,fW,mI,aL,bF,aZ,iS,Nat.reduceLeDiff,Nat.reduceLT,Nat.reduceSub,VX,Nat.reduceEqDiff,Nat.reduceAdd]
  exact BM _
 ·have QB:(decide (a.num<0) == decide (b.num<0))=false:=by simpa using hn
  by_cases hx:(0:Int)≤eW X Y
  ·have hle:Y≤X:=by have := @uH X Y;omega
   have c3:=zT X Y hle (Nat.le_of_lt (oP (by omega)))
   rw[←p2 hn hle]
   simp only[yU,uK,m1,m2,m3,f2,c3,f6,hx,Ag,oC,QB,cA,fF,fM,gD,fW,mI,aL,bF,aZ,iS,Nat.reduceLeDiff,Nat.reduceLT,Nat.reduceSub,VX,Nat.reduceEqDiff,Nat.reduceAdd]
   exact BM _
  ·have hle:X≤Y:=by have := @uH X Y;omega
   have c3:=zT Y X hle (Nat.le_of_lt (oP (by omega)))
   rw[←p3 hn hle]
   simp only[yU,uK,m1,m2,m3,f2,c3,f7,hx,Ag,oC,QB,cA,fF,fM,gD,fW,mI,aL,bF,aZ,iS,Nat.reduceLeDiff,Nat.reduceLT,Nat.reduceSub,VX,Nat.reduceEqDiff,Nat.reduceAdd]
   exact BM _
theorem JX (a b:Rat) (M3:aY a≤1099511627776) (HY:aY b≤1099511627776):TC 82 [bB a,bB b] (bB (a-b)):=by
 refine TC.walk ⟨true,false⟩ JF rfl (Nat.le_of_ble_eq_true rfl) (by simp[aM,jK]) (rP _) ?_
 have c1:=FH b
 have c2:=zZ a (-b) M3 (by rw[H8];exact HY)
 rw[←Rat.sub_eq_add_neg] at c2
 simp only[Eu,Ch,c1,c2,cA,fF,mI,aL,bF,aZ,iS,Nat.reduceLeDiff,Nat.reduceLT,Nat.reduceSub,VX,Nat.reduceEqDiff,Nat.reduceAdd]
 exact BM _
theorem ahN (a b:Int):kG (decide (a<0) != decide (b<0)) (a.natAbs*b.natAbs)=a*b:=by
 rcases Int.lt_trichotomy a 0 with h1 | h1 | h1<;>rcases Int.lt_trichotomy b 0 with h2 | h2 | h2
 ·rw[decide_eq_true h1,decide_eq_true h2]
  simp only[kG,bne_self_eq_false,Bool.false_eq_true,if_false,Int.natCast_mul]
  rw[show (a.natAbs:Int) = -a by omega,show (b.natAbs:Int) = -b by omega,Int.neg_mul_neg]
 ·subst h2;simp[xQ]
 ·rw[decide_eq_true h1,decide_eq_false (show ¬b<0 by omega)]
  simp only[kG,Bool.true_bne,Bool.not_false,if_true,Int.natCast_mul]
  rw[show (a.natAbs:Int) = -a by omega,show (b.natAbs:Int)=b by omega,Int.neg_mul,Int.neg_neg]
 ·subst h1;simp[xQ]
 ·subst h1;simp[xQ]
 ·subst h1;simp[xQ]
 ·rw[decide_eq_false (show ¬a<0 by omega),decide_eq_true h2]
  simp only[kG,Bool.false_bne,if_true,Int.natCast_mul]
  rw[show (a.natAbs:Int)=a by omega,show (b.natAbs:Int) = -b by omega,Int.mul_neg,Int.neg_neg]
 ·subst h2;simp[xQ]
 ·rw[decide_eq_false (show ¬a<0 by omega),decide_eq_false (show ¬b<0 by omega)]
  simp only[kG,bne_self_eq_false,Bool.false_eq_true,if_false,Int.natCast_mul]
  rw[show (a.natAbs:Int)=a by omega,show (b.natAbs:Int)=b by omega]
theorem TO {a b:Rat} (hb:b≠0):mkRat (kG (decide (a.num<0) != decide (b.num<0)) (a.num.natAbs*b.den)) (a.den*b.num.natAbs)=a / b:=by
 have hn:b.num≠0:=fun h=>hb (Rat.num_eq_zero.1 h)
 have i1:b⁻¹.num=b.num.sign*b.den:=Rat.num_inv b
 have i2:b⁻¹.den=b.num.natAbs:=by rw[Rat.den_inv,if_neg hn]
 have hd:(0:Int)<b.den:=by have:=b.den_nz;omega
 have i3:b⁻¹.num.natAbs=b.den:=by
  rw[i1,Int.natAbs_mul,Int.natAbs_natCast]
  rcases Int.lt_or_gt_of_ne hn with h1 | h1
  ·rw[Int.sign_eq_neg_one_of_neg h1];simp
  ·rw[Int.sign_eq_one_of_pos h1];simp
 have i4:decide (b⁻¹.num<0)=decide (b.num<0):=by
  rw[i1]
  rcases Int.lt_or_gt_of_ne hn with h1 | h1
  ·rw[Int.sign_eq_neg_one_of_neg h1,decide_eq_true h1];simp;omega
  ·rw[Int.sign_eq_one_of_pos h1,decide_eq_false (show ¬b.num<0 by omega)];simp
 rw[Rat.div_def,Rat.mul_def',←ahN,i2,i3,i4]
theorem KP (a b:Rat) (hb:b≠0) (M3:aY a≤1099511627776) (HY:aY b≤1099511627776):TC 81 [bB a,bB b] (bB (a / b)):=by
 refine TC.walk ⟨true,false⟩ Mq rfl (Nat.le_of_ble_eq_true rfl) (by simp[aM,jK]) (rP _) ?_
 have hn:b.num≠0:=fun h=>hb (Rat.num_eq_zero.1 h)
 have la:=tI M3
 have lb:=tI HY
 have lda:=tZ M3
 have ldb:=tZ HY
 have k1:=nJ a.num.natAbs b.den
 have k3:=nJ a.den b.num.natAbs
 have m1:=gY a.num.natAbs b.den (Nat.le_of_lt (oP (by omega))) (Nat.le_of_lt (oP (by omega)))
 have m3:=gY a.den b.num.natAbs (Nat.le_of_lt (oP (by omega))) (Nat.le_of_lt (oP (by omega)))
 have c1:=sA (decide (a.num<0) != decide (b.num<0)) (a.num.natAbs*b.den) (a.den*b.num.natAbs) (Nat.mul_ne_zero a.den_nz (by omega)) (by omega) (by omega)
 rw[TO hb] at c1
 simp only[FU,CI,m1,m3,c1,oC,cA,fF,fM,gD,fW,mI,aL,bF,aZ,iS,Nat.reduceLeDiff,Nat.reduceLT,Nat.reduceSub,VX,Nat.reduceEqDiff,Nat.reduceAdd]
 exact BM _
theorem Ku (q:Rat):TC 59 [bB q] (VB (decide (q=0))):=by
 refine TC.walk ⟨true,false⟩ Mk rfl (Nat.le_of_ble_eq_true rfl) (by simp[aM,jK]) rfl ?_
 by_cases h0:q=0
 ·have hl:(((aC 1000000000 q.num.natAbs).length:Nat):Int)=0:=by rw[h0];simp[cC]
  simp only[BR,yL,cL,hl,cA,fM,gD,fW,aL,bF,aZ,iS,Nat.reduceLeDiff,Nat.reduceLT,Nat.reduceSub,VX,Nat.reduceEqDiff,Nat.reduceAdd]
  rw[decide_eq_true h0]
  exact aF rfl
 ·have hn:q.num≠0:=fun h=>h0 (Rat.num_eq_zero.1 h)
  have hl:¬(((aC 1000000000 q.num.natAbs).length:Nat):Int)=0:=by have := @qG q.num.natAbs;omega
  simp only[BR,yL,cL,hl,cA,fM,gD,fW,aL,bF,aZ,iS,Nat.reduceLeDiff,Nat.reduceLT,Nat.reduceSub,VX,Nat.reduceEqDiff,Nat.reduceAdd]
  rw[decide_eq_false h0]
  exact aF rfl
theorem Ns (q:Rat):TC 111 [bB q] (VB (decide (q.num<0))):=by
 refine TC.walk ⟨true,false⟩ M0 rfl (Nat.le_of_ble_eq_true rfl) (by simp[aM,jK]) rfl ?_
 simp only[Jq,EN,cA,fM,aL,iS,Nat.reduceLeDiff,Nat.reduceLT,Nat.reduceSub,VX,Nat.reduceEqDiff,Nat.reduceAdd]
 exact aF rfl
end Go.PM
namespace Go.PM
open Go.Lib
theorem ahL {m n:Nat} (h:decDigits m=decDigits n):m=n:=by
 have key:∀k m n:Nat,m<10^(k+1)→decDigits m=decDigits n→m=n:=by
  intro k
  induction k with
  |
   zero =>
   intro m n hm h
   rw[iK (by omega)] at h
   by_cases hn:n<10
   ·rw[iK hn] at h
    have h1:=List.singleton_inj.1 h
    unfold d10 at h1
    have:=congrArg UInt8.toNat h1
    simp at this
    omega
   ·rw[yX hn] at h
    have:=congrArg List.length h
    have h2:=List.length_pos_iff.2 (PU (n / 10))
    simp only[List.length_append,List.length_cons,List.length_nil] at this
    omega
  |
   succ k ih =>
   intro m n hm h
   by_cases h1:m<10
   ·rw[iK h1] at h
    by_cases hn:n<10
    ·rw[iK hn] at h
     have h1:=List.singleton_inj.1 h
     unfold d10 at h1
     have:=congrArg UInt8.toNat h1
     simp at this
     omega
    ·rw[yX hn] at h
     have:=congrArg List.length h
     have h2:=List.length_pos_iff.2 (PU (n / 10))
     simp only[List.length_append,List.length_cons,List.length_nil] at this
     omega
   ·rw[yX h1] at h
    by_cases hn:n<10
    ·rw[iK hn] at h
     have:=congrArg List.length h
     have h2:=List.length_pos_iff.2 (PU (m / 10))
     simp only[List.length_append,List.length_cons,List.length_nil] at this
     omega
    ·rw[yX hn] at h
     obtain⟨h2,h3⟩:=List.append_inj' h rfl
     have h4:=ih (m / 10) (n / 10) (by rw[Nat.pow_succ] at hm;omega) h2
     have h5:=List.singleton_inj.1 h3
     unfold d10 at h5
     have:=congrArg UInt8.toNat h5
     simp at this
     omega
 exact key m m n (Nat.lt_trans (Nat.lt_pow_self (by decide)) (Nat.pow_lt_pow_right (by decide) (Nat.lt_succ_self m))) h
def Ez (q:Rat):List UInt8:=(if q.num<0 then [45] else [])++decDigits q.num.natAbs++(if q.den=1 then [] else 47::decDigits q.den)
def wA (q:Rat):Bool:=decide ((decDigits q.num.natAbs).length≤200)&&decide ((decDigits q.den).length≤200)
theorem AL (n:Nat):(decDigits n).length≤bl n+1:=by
 by_cases h:n=0
 ·subst h;rw[iK (by decide)];simp
 ·have h1:=aaZ h
  obtain⟨k,hk⟩:∃k,bl n=k+1:=⟨bl n-1,by omega⟩
  have h2:=Ow n
  rw[hk] at h2 ⊢
  have h3:2^(k+1)≤10^(k+1):=Nat.pow_le_pow_left (by decide) _
  have:=yN n k (by omega)
  omega
end Go.PM
namespace Go.PM
open Go.Lib
theorem PZ (a b:List UInt8):dJ .neq (.string ⟨a.toArray⟩) (.string ⟨b.toArray⟩)=some (.bool (!decide (a=b))):=by
 have h:∀l:List UInt8,(ByteArray.toList ⟨l.toArray⟩)=l:=fun l=>by rw[ByteArray.toList_eq]
 show some (Value.bool (!(ByteArray.toList ⟨a.toArray⟩ == ByteArray.toList ⟨b.toArray⟩)))=_
 rw[h,h]
 congr 3
 cases h2:a == b
 ·rw[decide_eq_false (by simpa using h2)]
 ·rw[decide_eq_true (by simpa using h2)]
theorem Wm (a b:List UInt8):dJ .eql (.string ⟨a.toArray⟩) (.string ⟨b.toArray⟩)=some (.bool (decide (a=b))):=by
 have h:∀l:List UInt8,(ByteArray.toList ⟨l.toArray⟩)=l:=fun l=>by rw[ByteArray.toList_eq]
 show some (Value.bool (ByteArray.toList ⟨a.toArray⟩ == ByteArray.toList ⟨b.toArray⟩))=_
 rw[h,h]
 congr 2
 cases h2:a == b
 ·rw[decide_eq_false (by simpa using h2)]
 ·rw[decide_eq_true (by simpa using h2)]
theorem KN {n:Nat}:(decDigits n=[49])↔n=1:=by
 have e:decDigits 1=[49]:=by rw[iK (by decide)];rfl
 rw[←e]
 exact⟨ahL,fun h=>by rw[h]⟩
theorem JT (q:Rat) (hk:aY q≤1099511627776):TC 180 [aQ q] (.dT [bC (Ez q),VB (wA q)]):=by
 refine TC.walk ⟨true,false⟩ GG rfl (Nat.le_of_ble_eq_true rfl) (by simp[aM,gX]) rfl ?_
 have la:=tI hk
 have lb:=tZ hk
 have t1:=B1 q.num.natAbs (apU (by omega))
 have t2:=B1 q.den (apU (by omega))
 have d1:=AL q.num.natAbs
 have d2:=AL q.den
 have a1:dJ .add (.string ⟨#[45]⟩) (.string ⟨(decDigits q.num.natAbs).toArray⟩)=some (.string ⟨(45::decDigits q.num.natAbs).toArray⟩):=qO [45] _ (by simp only[List.length_cons,List.length_nil];omega)
 have a2:dJ .add (.string ⟨#[47]⟩) (.string ⟨(decDigits q.den).toArray⟩)=some (.string ⟨(47::decDigits q.den).toArray⟩):=qO [47] (decDigits q.den) (by simp only[List.length_cons,List.length_nil];omega)
 have a3:=qO (45::decDigits q.num.natAbs) (47::decDigits q.den) (by simp only[List.length_cons];omega)
 have a4:=qO (decDigits q.num.natAbs) (47::decDigits q.den) (by simp only[List.length_cons];omega)
 have ne:dJ .neq (.string ⟨(decDigits q.den).toArray⟩) (.string ⟨#[49]⟩)=_:=PZ (decDigits q.den) [49]
 have hf:wA q=(decide (((decDigits q.num.natAbs).length:Int)≤200)&&decide (((decDigits q.den).length:Int)≤200)):=by
  unfold wA
  congr 1<;>exact decide_eq_decide.2 (by omega)
 rw[hf]
 have hs:Ez q=(if q.num<0 then (45::decDigits q.num.natAbs) else decDigits q.num.natAbs)++(if q.den=1 then [] else 47::decDigits q.den):=by
  unfold Ez
  by_cases hn:q.num<0
  ·rw[if_pos hn,if_pos hn];rfl
  ·rw[if_neg hn,if_neg hn];rfl
 rw[hs]
 by_cases hd:q.den=1
 ·rw[decide_eq_true (KN.2 hd)] at ne
  rw[if_pos hd,List.append_nil]
  by_cases hn:q.num<0<;>by_cases hl:((decDigits q.num.natAbs).length:Int)≤200
  all_goals
   simp only[vG,rV,t1,t2,a1,a2,a3,a4,ne,hn,hl,bN,aH,dC,jA,jC,lI,dE,aU,aV,aP,iS,Nat.reduceLeDiff,Nat.reduceLT,Nat.reduceSub,VX,Nat.reduceEqDiff,Nat.reduceAdd]
   exact aF rfl
 ·rw[decide_eq_false (mt KN.1 hd)] at ne
  rw[if_neg hd]
  by_cases hn:q.num<0<;>by_cases hl:((decDigits q.num.natAbs).length:Int)≤200
  all_goals
   simp only[vG,rV,t1,t2,a1,a2,a3,a4,ne,hn,hl,bN,aH,dC,jA,jC,lI,dE,aU,aV,aP,iS,Nat.reduceLeDiff,Nat.reduceLT,Nat.reduceSub,VX,Nat.reduceEqDiff,Nat.reduceAdd]
   exact aF rfl
def Qz (q:Rat):VV:=if wA q=true then .dT [bC (Ez q),VB true] else .dT [bC [],VB false]
theorem Yi (q:Rat):gJ (Qz q)=true:=by unfold Qz;split<;>rfl
end Go.PM
namespace Go.PM
open Go.Lib
abbrev bV (b:UInt8):VV := .sc (.int .u8 (b.toNat:Int))
theorem Mb:∀bs:List UInt8,HA (bs.map bV)=some bs
 | []=>rfl
 |
  b::bs=>by
  rw[List.map_cons]
  show (HA (bs.map bV)).map (UInt8.ofNat ((b.toNat:Int)).toNat :: ·)=_
  rw[Mb bs]
  simp
structure E5 (v:VV) (H:aA) (bs:List UInt8):Prop where
 len:oF v H=some (VI bs.length)
 src:cU 1 v H=some (bs.map bV)
 nsc:∀x,v ≠ .sc x
theorem E5.str {v:VV} {H:aA} {bs:List UInt8} (h:E5 v H bs) {fl:Fl} {lo:Nat} {x:Operand} {ρ:dQ} (hx:eH ρ x=v):vop fl lo (.b2s x) ρ H=some (bC bs,H):=by
 have h1:=h.nsc
 have h2:=h.src
 unfold vop
 dsimp only
 rw[hx]
 cases v with
 | sc x=>exact absurd rfl (h1 x)
 | _=>simp only[h2,Mb,Option.map_some]
theorem WQ {bs:List UInt8} {k:TK} {H:aA}:cU 1 (.tree (bs.map bV) k) H=some (bs.map bV):=by
 have:((bs.map bV).all fun x=>(aB x).length == 1&&(aB x).all bO)=true:=by
  rw[List.all_eq_true]
  intro x hx
  obtain⟨d,_,rfl⟩:=List.mem_map.1 hx
  rfl
 simp only[cU,this,if_true]
theorem E5.tree {bs:List UInt8} {k:TK} {H:aA}:E5 (.tree (bs.map bV) k) H bs:=⟨dV,WQ,fun x=>by simp⟩
theorem E5.row {bs:List UInt8} {H:aA} {b g:Nat} {w:Bool} (h:aI H b g=some (bs.map bV,1,w)):E5 (.ref b g 0 bs.length bs.length) H bs:=by
 refine⟨fP h,?_,fun x=>by simp⟩
 have lE:(((bs.map bV).drop 0).take bs.length).all (fun x=>(aB x).all bO)=true:=by
  rw[List.all_eq_true]
  intro x hx
  obtain⟨d,_,rfl⟩:=List.mem_map.1 (List.mem_of_mem_drop (List.mem_of_mem_take hx))
  rfl
 simp only[cU,h]
 rw[if_pos ⟨trivial,by simp,lE⟩,List.drop_zero,List.take_of_length_le (by simp)]
theorem E5.cons {v:VV} {H:aA} {bs:List UInt8} (h:E5 v H bs) (x:UInt8) (hl:bs.length≤1000000) (lo:Nat):∃v' H',eI lo 1 1 (.tree [bV x] (.cl 1)) (bs.map bV) H=some (v',H')∧E5 v' H' (x::bs):=by
 by_cases hb:bs=[]
 ·subst hb
  exact⟨_,_,rfl,E5.tree (bs:=[x])⟩
 ·have fC:bs.length≠0:=fun h=>hb (List.length_eq_zero_iff.1 h)
  refine⟨.ref H.length 0 0 (x::bs).length (x::bs).length,H++[.row 0 ((x::bs).map bV) 1 true],?_,E5.row (abN rfl)⟩
  simp only[eI,List.length_map]
  rw[if_pos ⟨by decide,by decide⟩,if_pos trivial,if_neg fC,if_pos (by simp;omega)]
  simp[Nat.add_comm]
theorem R4 (r:Int):dJ .rem (.int .i64 r) (.int .i64 10)=some (.int .i64 (r.tmod 10)):=rfl
theorem aiN (r:Int) (h0 : -9223372036854775808≤r) (h1:r≤9223372036854775807):dJ .quo (.int .i64 r) (.int .i64 10)=some (.int .i64 (r.tdiv 10)):=by
 show some (Value.int .i64 (IntKind.i64.wrap (r.tdiv 10)))=_
 have h2:(r.tdiv 10).natAbs=r.natAbs / 10:=by rw[Int.natAbs_tdiv];rfl
 rw[wrap64 (by omega) (by omega)]
theorem NT {d:Nat} (h:d<10):(d10 d).toNat=48+d:=by
 unfold d10
 simp
 omega
theorem HU {n r:Nat} {bs:List UInt8} (h:decDigits n=decDigits r++bs):decDigits n=lK (r / 10)++d10 (r % 10)::bs:=by
 rw[h]
 by_cases hr:r<10
 ·rw[iK hr,lK,if_pos (by omega),Nat.mod_eq_of_lt hr];rfl
 ·rw[yX hr,lK,if_neg (by omega),List.append_assoc];rfl
theorem MX (n:Int) (h0 : -9223372036854775808≤n) (h1:n≤9223372036854775807):TC 219 [VI n] (bC ((if n<0 then [45] else [])++decDigits n.natAbs)):=by
 refine TC.walk ⟨true,false⟩ Ng rfl (Nat.le_of_ble_eq_true rfl) rfl rfl ?_
 have e0:∀lr,jE lr [.int .u8 0] 0 [] []=some (.ref 0 0 0 0 0,[.row 0 (([]:List UInt8).map bV) 1 true]):=fun lr=>iH (H:=[]) rfl
 have e1:∀(x:UInt8) (H:aA),jE false [.int .u8 0] 1 [(0,bV x)] H=some (.tree [bV x] (.cl 1),H):=fun x H=>fZ rfl rfl rfl
 have hdl:=yN n.natAbs 19 (by omega)
 simp only[Jj,Ev,e0,VX,Nat.reduceEqDiff,Nat.reduceAdd]
 refine aT (fun(s:Int×List UInt8) ρ H => -9223372036854775808≤s.1∧s.1≤9223372036854775807∧(s.2=[]→s.1=n)∧(s.2≠[]→decDigits n.natAbs=lK s.1.natAbs++s.2)∧E5 (ρ 3) H s.2∧ρ 0=VI n∧ρ 4=VI s.1) (fun s=>s.1.natAbs+(if s.2=[] then 1 else 0)) (n,[]) ⟨h0,h1,fun _=>rfl,fun h=>absurd rfl h,by simp only[VX,Nat.reduceEqDiff,Nat.reduceAdd];exact E5.row (bs:=[]) bA,rfl,rfl⟩ ?_
 rintro⟨r,bs⟩ ρ H ⟨Cu,FO,hn,hd,ho,g0,g4⟩
 simp only at Cu FO hn hd ho g4
 generalize hv3:ρ 3=v3 at ho
 have hlen:=ho.len
 have AT:=ho.src
 by_cases KS:bs≠[]∧r=0
 ·obtain⟨hb,hr⟩:=KS
  subst hr
  have hl:¬(bs.length:Int)=0:=by have:=List.length_pos_iff.2 hb;omega
  have Z7:=hd hb
  simp only[lK,Int.natAbs_zero,if_true,List.nil_append] at Z7
  by_cases pO:n<0
  ·obtain⟨v',H',ap,ho'⟩:=ho.cons 45 (by rw[←Z7];omega) 0
   have V6:jE false [.int .u8 0] 1 [(0,.sc (.int .u8 45))] H=some (.tree [bV 45] (.cl 1),H):=e1 45 H
   have bs2:=fun bK (h:eH bK (.tmp 34)=v')=>ho'.str (fl:=⟨true,false⟩) (lo:=0) h
   simp only[jS,g0,g4,hv3,hlen,hl,VX,Nat.reduceEqDiff,Nat.reduceAdd]
   simp only[g0,pO,hv3,V6,AT,ap,Pl,VX,Nat.reduceEqDiff,Nat.reduceAdd]
   rw[bs2 _ (by rfl)]
   simp only[VX,Nat.reduceEqDiff,Nat.reduceAdd]
   rw[Z7]
   exact aF rfl
  ·have bs2:=fun bK (h:eH bK (.tmp 34)=v3)=>ho.str (fl:=⟨true,false⟩) (lo:=0) h
   simp only[jS,g0,g4,hv3,hlen,hl,VX,Nat.reduceEqDiff,Nat.reduceAdd]
   simp only[g0,pO,hv3,Pl,VX,Nat.reduceEqDiff,Nat.reduceAdd]
   rw[bs2 _ (by simp only[VX,Nat.reduceEqDiff,Nat.reduceAdd];try exact hv3)]
   simp only[VX,Nat.reduceEqDiff,Nat.reduceAdd]
   rw[Z7]
   exact aF rfl
 ·have hm:r.tmod 10=if r<0 then -((r.natAbs % 10:Nat):Int) else ((r.natAbs % 10:Nat):Int):=by
   have:=Int.tmod_eq_emod_of_nonneg (a:=r) (b:=10)
   by_cases h:r<0
   ·rw[if_pos h]
    have h2:=Int.neg_tmod (-r) 10
    rw[Int.neg_neg] at h2
    rw[h2,Int.tmod_eq_emod_of_nonneg (by omega)]
    omega
   ·rw[if_neg h,this (by omega)]
    omega
  have hq:(r.tdiv 10).natAbs=r.natAbs / 10:=by rw[Int.natAbs_tdiv];rfl
  have hmd:=Nat.mod_lt r.natAbs (show 0<10 by decide)
  have q1:=aiN r Cu FO
  have uN:bs.length≤19:=by
   by_cases hb:bs=[]
   ·subst hb;simp
   ·have h2:=hd hb
    have h3:=congrArg List.length h2
    rw[List.length_append] at h3
    have h4:r≠0:=fun h=>KS ⟨hb,h⟩
    have h5:=List.length_pos_iff.2 (PU r.natAbs)
    rw[lK,if_neg (by omega)] at h3
    omega
  obtain⟨v',H',ap,ho'⟩:=ho.cons (d10 (r.natAbs % 10)) (by omega) 0
  have w2:IntKind.i64.wrap (48+((r.natAbs % 10:Nat):Int))=((48+r.natAbs % 10:Nat):Int):=wrapN _ (by omega) (by omega)
  have w3:IntKind.u8.wrap ((48+r.natAbs % 10:Nat):Int)=((48+r.natAbs % 10:Nat):Int):=by
   simp[IntKind.wrap,IntKind.bits,IntKind.signed]
   omega
  have hx:VV.sc (.int .u8 ((48+r.natAbs % 10:Nat):Int))=bV (d10 (r.natAbs % 10)):=by rw[bV,NT hmd]
  have V6:=e1 (d10 (r.natAbs % 10)) H
  rw[←hx] at V6 ap
  have next:∃s':Int×List UInt8,s'.1.natAbs+(if s'.2=[] then 1 else 0)<r.natAbs+(if bs=[] then 1 else 0) ∧ -9223372036854775808≤s'.1∧s'.1≤9223372036854775807∧(s'.2=[]→s'.1=n)∧(s'.2≠[]→decDigits n.natAbs=lK s'.1.natAbs++s'.2)∧E5 v' H' s'.2∧r.tdiv 10=s'.1:=by
   refine⟨(r.tdiv 10,d10 (r.natAbs % 10)::bs),?_,by simp only;omega,by simp only;omega,fun h=>(by simp at h),fun _ => ?_,ho',rfl⟩
   ·simp only[hq,List.cons_ne_nil,if_false]
    by_cases hb:bs=[]
    ·rw[if_pos hb];omega
    ·have h4:r≠0:=fun h=>KS ⟨hb,h⟩
     rw[if_neg hb];omega
   ·simp only[hq]
    by_cases hb:bs=[]
    ·subst hb
     refine HU ?_
     rw[hn rfl,List.append_nil]
    ·have h4:r≠0:=fun h=>KS ⟨hb,h⟩
     have h2:=hd hb
     rw[lK,if_neg (by omega)] at h2
     exact HU h2
  by_cases hrn:r.tmod 10<0
  ·have w1:IntKind.i64.wrap (0-r.tmod 10)=((r.natAbs % 10:Nat):Int):=by
    have:r.tmod 10 = -((r.natAbs % 10:Nat):Int):=by
     by_cases h:r<0
     ·rw[if_pos h] at hm;exact hm
     ·rw[if_neg h] at hm;omega
    rw[this]
    exact wrapN _ (by omega) (by omega)
   by_cases hb:bs=[]
   ·have hl:(bs.length:Int)=0:=by rw[hb];rfl
    simp only[jS,g0,g4,hv3,hlen,hl,R4,q1,hrn,w1,w2,w3,V6,AT,ap,VX,Nat.reduceEqDiff,Nat.reduceAdd]
    obtain⟨s',n1,n2,n3,n4,n5,n6,n7⟩:=next
    exact⟨s',n1,n2,n3,n4,n5,n6,by rw[n7]⟩
   ·have hl:¬(bs.length:Int)=0:=by have:=List.length_pos_iff.2 hb;omega
    have hr:¬r=0:=fun h=>KS ⟨hb,h⟩
    simp only[jS,g0,g4,hv3,hlen,hl,hr,R4,q1,hrn,w1,w2,w3,V6,AT,ap,VX,Nat.reduceEqDiff,Nat.reduceAdd]
    obtain⟨s',n1,n2,n3,n4,n5,n6,n7⟩:=next
    exact⟨s',n1,n2,n3,n4,n5,n6,by rw[n7]⟩
  ·have hmm:r.tmod 10=((r.natAbs % 10:Nat):Int):=by
    rw[hm] at hrn ⊢
    split
    ·rename_i h;rw[if_pos h] at hrn;omega
    ·rfl
   have aqR:¬((r.natAbs % 10:Nat):Int)<0:=by omega
   by_cases hb:bs=[]
   ·have hl:(bs.length:Int)=0:=by rw[hb];rfl
    simp only[jS,g0,g4,hv3,hlen,hl,R4,hmm,q1,aqR,w2,w3,V6,AT,ap,VX,Nat.reduceEqDiff,Nat.reduceAdd]
    obtain⟨s',n1,n2,n3,n4,n5,n6,n7⟩:=next
    exact⟨s',n1,n2,n3,n4,n5,n6,by rw[n7]⟩
   ·have hl:¬(bs.length:Int)=0:=by have:=List.length_pos_iff.2 hb;omega
    have hr:¬r=0:=fun h=>KS ⟨hb,h⟩
    simp only[jS,g0,g4,hv3,hlen,hl,hr,R4,hmm,q1,aqR,w2,w3,V6,AT,ap,VX,Nat.reduceEqDiff,Nat.reduceAdd]
    obtain⟨s',n1,n2,n3,n4,n5,n6,n7⟩:=next
    exact⟨s',n1,n2,n3,n4,n5,n6,by rw[n7]⟩
end Go.PM
namespace Go.PM
abbrev Zf (c:List (List ByteArray)):VV := .agg [sD c]
theorem Be (c:List (List ByteArray)):aN (Zf c)=true:=by
 show aM [sD c]=true
 simp only[aM,Bv,Bool.and_self]
theorem Pr {c:List (List ByteArray)}:dD false 1 (Zf c) 0=some (sD c):=rfl
def Dx (n:Nat) (H:aA) (bare:Bool) (c:List (List ByteArray)) (r:VV):Prop:=∃c0,r = .agg [c0]∧xE n H bare c c0
theorem Dx.cJ {n:Nat} {H H':aA} {bare:Bool} {s:List (List ByteArray)} {c:VV} (h:Dx n H bare s c) (hk:∀b g x,n<b→aI H b g=some x→aI H' b g=some x):Dx n H' bare s c:=by
 obtain⟨c0,rfl,h0⟩:=h
 exact⟨c0,rfl,h0.cJ hk⟩
theorem Dx.pre {n:Nat} {H H':aA} {bare:Bool} {s:List (List ByteArray)} {c:VV} (h:Dx n H bare s c) (hh:H <+: H'):Dx n H' bare s c:=h.cJ fun _ _ _ _=>cR hh
theorem Dx.fz {n:Nat} {H:aA} {bare:Bool} {s:List (List ByteArray)} {c:VV} (h:Dx n H bare s c):PM.fz depth H c=some (Zf s):=by
 obtain⟨c0,rfl,h0⟩:=h
 have f0:=h0.fz (d:=4)
 have e:PM.fz (7+1) H (.agg [c0])=if aN (.agg [c0])=true then some (.agg [c0]) else ([c0].mapM (PM.fz 7 H)).map .agg:=rfl
 show PM.fz (7+1) H (.agg [c0])=_
 rw[e]
 by_cases hp:aN (.agg [c0])=true
 ·rw[if_pos hp]
  have hu:aN c0=true:=by simpa[aN,aM] using hp
  rw[aJ hu] at f0
  cases f0
  rfl
 ·rw[if_neg hp,List.mapM_cons,f0]
  rfl
end Go.PM
namespace Go.PM
open Go.Lib
def iG (c:UInt8):Bool:=decide (48≤c.toNat)&&decide (c.toNat≤57)
def dv (c:UInt8):Nat:=c.toNat-48
def Lo (a:Nat) (l:List UInt8):Nat:=l.foldl (fun a c=>a*10+dv c) a
def bU (l:List UInt8):Nat:=Lo 0 l
theorem VU (l:List UInt8):∀a,Lo a l=a*10^l.length+bU l:=by
 induction l with
 | nil=>intro a;simp[Lo,bU]
 |
  cons c l ih =>
  intro a
  have h1:Lo a (c::l)=Lo (a*10+dv c) l:=rfl
  have h2:bU (c::l)=Lo (0*10+dv c) l:=rfl
  rw[h1,h2,ih,ih (0*10+dv c),List.length_cons,Nat.pow_succ]
  grind
theorem K0 (a b:List UInt8):bU (a++b)=bU a*10^b.length+bU b:=by
 have:bU (a++b)=Lo (bU a) b:=by unfold bU Lo;rw[List.foldl_append]
 rw[this,VU]
theorem L7:bU []=0:=rfl
theorem Xy (a:List UInt8) (c:UInt8):bU (a++[c])=bU a*10+dv c:=by
 rw[K0]
 simp[bU,Lo]
theorem aiR {c:UInt8} (h:iG c=true):dv c<10:=by
 simp only[iG,Bool.and_eq_true,decide_eq_true_eq] at h
 unfold dv
 omega
theorem Ha:∀ {l:List UInt8},l.all iG=true→bU l<10^l.length:=by
 intro l
 induction l with
 | nil=>intro _;decide
 |
  cons c l ih =>
  intro h
  rw[List.all_cons,Bool.and_eq_true] at h
  have h1:=aiR h.1
  have h2:=ih h.2
  have h3:bU (c::l)=Lo (0*10+dv c) l:=rfl
  rw[h3,VU,List.length_cons,Nat.pow_succ]
  have h4:(0*10+dv c)*10^l.length≤9*10^l.length:=Nat.mul_le_mul_right _ (by omega)
  omega
theorem ajZ {M:Nat} (hM:1000000000000000000≤M):∀(l:List UInt8) (k acc:Nat),l.all iG=true→acc<10^k→k+l.length≤18→parseUintM M acc l = .ok (Lo acc l):=by
 intro l
 induction l with
 | nil=>intro k acc _ _ _;rfl
 |
  cons c l ih =>
  intro k acc h hk hl
  rw[List.all_cons,Bool.and_eq_true] at h
  have h1:=aiR h.1
  have h0:=h.1
  simp only[iG,Bool.and_eq_true,decide_eq_true_eq] at h0
  rw[List.length_cons] at hl
  have h18:acc<10^17:=Nat.lt_of_lt_of_le hk (Nat.pow_le_pow_right (by decide) (by omega))
  have e17:(10:Nat)^17=100000000000000000:=by decide
  rw[e17] at h18
  have hd:c.toNat-48=dv c:=rfl
  rw[parseUintM,if_pos h0,if_neg (by omega),hd,if_neg (by omega),ih (k+1) _ h.2 (by rw[Nat.pow_succ];omega) (by omega)]
  rfl
theorem amH {l:List UInt8} (h:l.all iG=true) (h0:l≠[]) (hl:l.length≤18):parseUintB 64 l = .ok (bU l):=by
 unfold parseUintB
 rw[if_neg h0]
 exact ajZ (by decide) l 0 0 h (by decide) (by omega)
def iA (l:List UInt8):Bool:=l.all iG&&decide (1≤l.length)&&decide (l.length≤200)&&(decide (l.length=1) || !decide (l.getD 0 0=48))
theorem jL {l:List UInt8}:iA l=true↔l.all iG=true∧1≤l.length∧l.length≤200∧(l.length=1∨l.getD 0 0≠48):=by
 unfold iA
 simp only[Bool.and_eq_true,Bool.or_eq_true,Bool.not_eq_true',decide_eq_true_eq,decide_eq_false_iff_not,ne_eq,and_assoc]
theorem xX {l:List UInt8} (h:iA l=true):bl (bU l)≤665:=by
 obtain⟨h1,h2,h3,_⟩:=jL.1 h
 refine GZ (Nat.lt_of_lt_of_le (Ha h1) ?_)
 exact Nat.le_trans (Nat.pow_le_pow_right (by decide) h3) (by decide +kernel)
def lW (c:UInt8):List UInt8→List UInt8×Option (List UInt8)
 | []=>([],none)
 | x::r=>if x=c then ([],some r) else (x::(lW c r).1,(lW c r).2)
theorem Ax {c:UInt8}:∀ {l:List UInt8},(lW c l).2=none→indexByte l c = -1∧(lW c l).1=l∧c∉l:=by
 intro l
 induction l with
 | nil=>intro _;exact⟨rfl,rfl,by simp⟩
 |
  cons x l ih =>
  intro h
  unfold lW at h ⊢
  by_cases hx:x=c
  ·rw[if_pos hx] at h
   cases h
  ·rw[if_neg hx] at h ⊢
   obtain⟨h1,h2,h3⟩:=ih h
   refine⟨?_,by rw[h2],?_⟩
   ·rw[indexByte,if_neg (by simpa using hx),h1]
    rfl
   ·rw[List.mem_cons,not_or]
    exact⟨fun h=>hx h.symm,h3⟩
theorem HV {c:UInt8}:∀ {l r:List UInt8},(lW c l).2=some r→indexByte l c=((lW c l).1.length:Int)∧l=(lW c l).1++c::r∧c∉(lW c l).1:=by
 intro l
 induction l with
 | nil=>intro r h;cases h
 |
  cons x l ih =>
  intro r h
  unfold lW at h ⊢
  by_cases hx:x=c
  ·rw[if_pos hx] at h ⊢
   cases h
   subst hx
   refine⟨?_,rfl,by simp⟩
   rw[indexByte,if_pos (by simp)]
   rfl
  ·rw[if_neg hx] at h ⊢
   obtain⟨h1,h2,h3⟩:=ih h
   refine⟨?_,?_,?_⟩
   ·rw[indexByte,if_neg (by simpa using hx),h1,if_neg]
    ·simp
    ·simp
   ·conv=>lhs;rw[h2]
    rfl
   ·rw[List.mem_cons,not_or]
    exact⟨fun h=>hx h.symm,h3⟩
def oK (neg:Bool) (d:List UInt8) (s:Option (List UInt8)):Option Rat :=
 if iA d=false∨(neg=true∧bU d=0) then none else
 match s with
 | none=>some (mkRat (kG neg (bU d)) 1)
 | some t=>if iA t=true∧1<bU t∧Nat.gcd (bU d) (bU t)=1 then some (mkRat (kG neg (bU d)) (bU t)) else none
def isNeg (l:List UInt8):Bool:=decide (1≤l.length)&&decide (l.getD 0 0=45)
def xI (l:List UInt8):Option Rat:=oK (isNeg l) ((lW 47 (if isNeg l then l.drop 1 else l)).1) ((lW 47 (if isNeg l then l.drop 1 else l)).2)
theorem UW {neg:Bool} {d:List UInt8} {s:Option (List UInt8)} {q:Rat} (h:oK neg d s=some q):iA d=true∧¬(neg=true∧bU d=0)∧((s=none∧q=mkRat (kG neg (bU d)) 1)∨∃t,s=some t∧iA t=true∧1<bU t∧Nat.gcd (bU d) (bU t)=1∧q=mkRat (kG neg (bU d)) (bU t)):=by
 unfold oK at h
 split at h
 ·cases h
 ·rename_i hc
  rw[not_or] at hc
  refine⟨by simpa using hc.1,hc.2,?_⟩
  split at h
  ·exact .inl ⟨rfl,(Option.some.inj h).symm⟩
  ·rename_i t
   split at h
   ·rename_i ht
    exact .inr ⟨t,rfl,ht.1,ht.2.1,ht.2.2,(Option.some.inj h).symm⟩
   ·cases h
theorem SZ {neg:Bool} {d:List UInt8} {s:Option (List UInt8)} {q:Rat} (h:oK neg d s=some q):aY q≤665:=by
 obtain⟨h1,_,h3⟩:=UW h
 have hb:=xX h1
 rcases h3 with⟨_,rfl⟩ | ⟨t,_,h4,h5,_,rfl⟩
 ·exact Gv (by rw[nQ];exact hb) (GZ (by decide +kernel)) (by decide)
 ·exact Gv (by rw[nQ];exact hb) (xX h4) (by omega)
theorem TH {l:List UInt8} {q:Rat} (h:xI l=some q):aY q≤665:=SZ h
theorem I9 {neg:Bool} {t b:Nat} (hb:b≠0) (hg:Nat.gcd t b=1):(mkRat (kG neg t) b).num=kG neg t∧(mkRat (kG neg t) b).den=b:=by
 rw[E6 hb,Pb hb,hg,Nat.div_one,Nat.div_one]
 exact⟨rfl,rfl⟩
theorem Fj {c:UInt8} {l:List UInt8}:isNeg (c::l)=decide (c=45):=by simp[isNeg]
theorem ZQ {l:List UInt8} (h:l.all iG=true):(47:UInt8)∉l:=by
 intro hm
 have:=List.all_eq_true.1 h _ hm
 exact absurd this (by decide)
end Go.PM
namespace Go.PM
open Go.Lib
theorem Dq (l:List UInt8) {i:Nat} (h:i<l.length):Gj (.string ⟨l.toArray⟩) (.int .i64 (i:Int))=some (.int .u8 ((l.getD i 0).toNat:Int)):=by
 have hs:(⟨l.toArray⟩:ByteArray).size=l.length:=by simp[ByteArray.size]
 have e1:(0:Int)≤i∧(i:Int)<(l.length:Int):=by omega
 simp only[Gj,hs,e1,and_self,if_true,Int.toNat_natCast]
theorem HD (l:List UInt8) (h:0<l.length):Gj (.string ⟨l.toArray⟩) (.int .i64 0)=some (.int .u8 ((l.getD 0 0).toNat:Int)):=Dq l h
theorem GL (l:List UInt8) (a b:Nat):(⟨l.toArray⟩:ByteArray).extract a b=⟨((l.drop a).take (b-a)).toArray⟩:=by
 rw[ByteArray.ext_iff,ByteArray.data_extract]
 simp[List.extract_toArray,List.extract_eq_take_drop]
theorem E2 (l:List UInt8) {a:Nat} (h:a≤l.length):uU (bC l) (some (VI (a:Int))) none=some (bC (l.drop a)):=by
 have hs:(⟨l.toArray⟩:ByteArray).size=l.length:=by simp[ByteArray.size]
 have e2:(0:Int)≤a∧(a:Int)≤(l.length:Int):=by omega
 simp only[uU,FG,zA,hs,eR,e2,and_self,if_true,Int.toNat_natCast,GL]
 rw[List.take_of_length_le (by simp)]
theorem Lu (l:List UInt8) {b:Nat} (hb:b≤l.length):uU (bC l) none (some (VI (b:Int)))=some (bC (l.take b)):=by
 have hs:(⟨l.toArray⟩:ByteArray).size=l.length:=by simp[ByteArray.size]
 have e1:(0:Int)≤b∧(b:Int)≤(l.length:Int):=by omega
 simp only[uU,FG,zA,hs,eR,e1,and_self,if_true,Int.toNat_natCast,GL]
 rw[List.drop_zero,Nat.sub_zero]
theorem Rr (l:List UInt8):dJ .eql (.string ⟨l.toArray⟩) (.string ⟨#[]⟩)=some (.bool (decide (l=[]))):=Wm l []
theorem I3 (l:List UInt8):dJ .neq (.string ⟨l.toArray⟩) (.string ⟨#[]⟩)=some (.bool (!decide (l=[]))):=PZ l []
theorem SY (l:List UInt8):TC 210 [bC l,bC [45]] (VB (isNeg l)):=by
 refine TC.walk ⟨true,false⟩ sN rfl (Nat.le_of_ble_eq_true rfl) rfl rfl ?_
 have e1:zR (.string ⟨#[45]⟩)=some (.int .i64 1):=rfl
 by_cases h:(1:Int)≤(l.length:Int)
 ·have e2:=Lu l (b:=1) (by omega)
  have e2:uU (bC l) none (some (VI 1))=some (bC (l.take 1)):=e2
  have e3:dJ .eql (.string ⟨(l.take 1).toArray⟩) (.string ⟨#[45]⟩)=some (.bool (decide (l.take 1=[45]))):=Wm (l.take 1) [45]
  have e4:isNeg l=decide (l.take 1=[45]):=by
   cases l with
   | nil=>exact absurd h (by decide)
   | cons c l=>rw[Fj];simp
  rw[e4]
  simp only[gT,gA,bN,e1,ge_iff_le,h,e2,e3,VX,Nat.reduceEqDiff,Nat.reduceAdd]
  exact aF rfl
 ·have e4:isNeg l=false:=by unfold isNeg;rw[decide_eq_false (by omega)];rfl
  rw[e4]
  simp only[gT,gA,bN,e1,ge_iff_le,h,VX,Nat.reduceEqDiff,Nat.reduceAdd]
  exact aF rfl
theorem P0 (l:List UInt8):TC 191 [bC l,bC [45]] (.dT [bC (if isNeg l then l.drop 1 else l),VB (isNeg l)]):=by
 refine TC.walk ⟨true,false⟩ sC rfl (Nat.le_of_ble_eq_true rfl) rfl rfl ?_
 have e0:=SY l
 have e1:zR (.string ⟨#[45]⟩)=some (.int .i64 1):=rfl
 cases h:isNeg l with
 |
  true =>
  rw[h] at e0
  have hl:1≤l.length:=by
   cases l with
   | nil=>cases h
   | cons c l=>simp
  have e2:uU (bC l) (some (VI 1)) none=some (bC (l.drop 1)):=E2 l (a:=1) hl
  simp only[gS,gG,e0,e1,e2,VX,Nat.reduceEqDiff,Nat.reduceAdd]
  exact aF rfl
 |
  false =>
  rw[h] at e0
  simp only[gS,gG,e0,Bool.false_eq_true,if_false,VX,Nat.reduceEqDiff,Nat.reduceAdd]
  exact aF rfl
theorem QL (l:List UInt8):TC 173 [bC l,bC [45]] (.dT [bC (if isNeg l then l.drop 1 else l),VB (isNeg l)]):=by
 refine TC.walk ⟨true,false⟩ Ek rfl (Nat.le_of_ble_eq_true rfl) rfl rfl ?_
 have e0:=P0 l
 simp only[zQ,vW,e0,VX,Nat.reduceEqDiff,Nat.reduceAdd]
 exact aF rfl
theorem amC (l:List UInt8) (hl:l.length≤1000000000000):TC 190 [bC l,bC [47]] (.dT [bC (lW 47 l).1,bC ((lW 47 l).2.getD []),VB (lW 47 l).2.isSome]):=by
 refine TC.walk ⟨true,false⟩ yI rfl (Nat.le_of_ble_eq_true rfl) rfl rfl ?_
 have e0:=ahA l 47
 have e1:zR (.string ⟨#[47]⟩)=some (.int .i64 1):=rfl
 cases h:(lW 47 l).2 with
 |
  none =>
  obtain⟨h1,h2,_⟩:=Ax h
  rw[h1] at e0
  rw[h2]
  simp only[kY,jO,e0,ge_iff_le,Int.reduceNeg,Int.reduceLE,VX,Nat.reduceEqDiff,Nat.reduceAdd]
  exact aF rfl
 |
  some r =>
  obtain⟨h1,h2,_⟩:=HV h
  rw[h1] at e0
  generalize (lW 47 l).1=a at *
  subst h2
  rw[List.length_append,List.length_cons] at hl
  have h0:(0:Int)≤(a.length:Int):=by omega
  have e2:=Lu (a++47::r) (b:=a.length) (by simp)
  have e3:=E2 (a++47::r) (a:=a.length+1) (by simp)
  rw[List.take_left] at e2
  have ed:(a++47::r).drop (a.length+1)=r:=by rw[List.drop_append];simp
  rw[ed] at e3
  have w:IntKind.i64.wrap ((a.length:Int)+1)=((a.length+1:Nat):Int):=wrapN _ (by omega) (by omega)
  simp only[kY,jO,e0,e1,ge_iff_le,h0,w,e2,e3,VX,Nat.reduceEqDiff,Nat.reduceAdd]
  exact aF rfl
theorem apS (l:List UInt8) (hl:l.length≤1000000000000):TC 172 [bC l,bC [47]] (.dT [bC (lW 47 l).1,bC ((lW 47 l).2.getD []),VB (lW 47 l).2.isSome]):=by
 refine TC.walk ⟨true,false⟩ Nf rfl (Nat.le_of_ble_eq_true rfl) rfl rfl ?_
 have e0:=amC l hl
 simp only[Jy,Ew,e0,VX,Nat.reduceEqDiff,Nat.reduceAdd]
 exact aF rfl
def A4 (l:List UInt8):VV:=if iA l=true then .dT [bM (bU l),VB true] else .dT [bM 0,VB false]
theorem Xn (l:List UInt8):gJ (A4 l)=true:=by
 unfold A4
 split<;>simp[gJ,qE,qB,kC]
theorem alC {d:Nat}:fz (d+1) [.row 0 [] 1 true] (.ref 0 0 0 0 0)=some (bM 0):=by
 rw[DN]
 cases d with
 | zero=>rfl
 | succ d=>rfl
theorem L5 {n:Nat} (hn:n≤9) {lo:Nat} {H:aA} {ρ:dQ} {Q:VQ} (h58:ρ 58=VI n) (h59:ρ 59=VI 0) (h9:ρ 9=VK .u64 1) (hQ:∀bK,(∀t,t<9→bK t=ρ t)→bK 9=VK .u64 ((10^n:Nat):Int)→Q .normal bK H):VW ⟨true,false⟩ lo (.loop qM) (Ab 4 Q) ρ H:=by
 refine aT (fun(i:Nat) bK H'=>i≤n∧H'=H∧(∀t,t<9→bK t=ρ t)∧bK 58=VI n∧bK 59=VI i∧bK 9=VK .u64 ((10^i:Nat):Int)) (fun i=>n-i) 0 ⟨Nat.zero_le _,rfl,fun _ _=>rfl,h58,h59,h9⟩ ?_
 rintro i bK H' ⟨hi,rfl,hk,g58,g59,g9⟩
 by_cases dA:(i:Int)<(n:Int)
 ·have wi:IntKind.i64.wrap ((i:Int)+1)=((i+1:Nat):Int):=wrapN (i+1) (by omega) (by omega)
  have hp:10^i≤10^8:=Nat.pow_le_pow_right (by decide) (by omega)
  have e8:(10:Nat)^8=100000000:=by decide
  have wp:IntKind.u64.wrap (((10^i:Nat):Int)*10)=((10^(i+1):Nat):Int):=by
   rw[Nat.pow_succ]
   generalize 10^i=p at *
   have:=dW (p*10) (by omega)
   rw[Int.natCast_mul] at this
   rw[Int.natCast_mul]
   exact this
  simp only[qM,g58,g59,g9,dA,wi,wp,VX,Nat.reduceEqDiff,Nat.reduceAdd]
  refine⟨i+1,by omega,by omega,fun t ht => ?_,rfl,rfl⟩
  try simp only[uW]
  repeat rw[if_neg (by omega)]
  exact hk t ht
 ·have nZ:i=n:=by omega
  subst nZ
  simp only[qM,g58,g59,dA,VX,Nat.reduceEqDiff,Nat.reduceAdd]
  refine hQ _ (fun t ht => ?_) ?_
  ·try simp only[uW]
   repeat rw[if_neg (by omega)]
   exact hk t ht
  ·simp only[g9,VX,Nat.reduceEqDiff,Nat.reduceAdd]
theorem ZF {l:List UInt8} {i:Nat} (h:i<l.length):(l.take (i+1)).all iG=((l.take i).all iG&&iG (l.getD i 0)):=by
 rw[List.take_add_one,List.all_append]
 have:l[i]? = some (l.getD i 0):=by rw[List.getElem?_eq_getElem h,List.getD_eq_getElem?_getD,List.getElem?_eq_getElem h];rfl
 rw[this]
 simp
theorem K5 {l:List UInt8} (hl:l.length≤1000000000000) {lo:Nat} {H:aA} {ρ:dQ} {Q:VQ} (h0:ρ 0=bC l) (h29:ρ 29=VI l.length) (h30:ρ 30=VI 0)
  (hR:l.all iG=false→∀bK:dQ,bK 2 = .tree [] .nil→bK 3=VB false→Q .ret bK H) (hN:l.all iG=true→∀bK:dQ,(∀t,t<5→bK t=ρ t)→Q .normal bK H):VW ⟨true,false⟩ lo (.loop kK) (Ab 0 Q) ρ H:=by
 refine aT (fun(i:Nat) bK H'=>i≤l.length∧H'=H∧(l.take i).all iG=true∧(∀t,t<5→bK t=ρ t)∧bK 29=VI l.length∧bK 30=VI i) (fun i=>l.length-i) 0 ⟨Nat.zero_le _,rfl,rfl,fun _ _=>rfl,h29,h30⟩ ?_
 rintro i bK H' ⟨hi,rfl,hd,hk,g29,g30⟩
 have g0:=(hk 0 (by decide)).trans h0
 by_cases dA:(i:Int)<(l.length:Int)
 ·have UF:i<l.length:=by omega
  have e1:=Dq l UF
  have wi:IntKind.i64.wrap ((i:Int)+1)=((i+1:Nat):Int):=wrapN (i+1) (by omega) (by omega)
  have ht:=ZF UF
  rw[hd,Bool.true_and] at ht
  have UN:iG (l.getD i 0)=(decide (48≤(l.getD i 0).toNat)&&decide ((l.getD i 0).toNat≤57)):=rfl
  have lE:iG (l.getD i 0)=false→l.all iG=false:=by
   intro h
   rw[h] at ht
   rw[←List.take_append_drop (i+1) l,List.all_append,ht,Bool.false_and]
  generalize (l.getD i 0).toNat=c at *
  by_cases q1:(c:Int)<48
  ·have:=lE (by rw[UN,decide_eq_false (by omega)];rfl)
   simp only[kK,g0,g29,g30,dA,e1,q1,VX,Nat.reduceEqDiff,Nat.reduceAdd]
   exact hR this _ (by simp only[VX,Nat.reduceEqDiff,Nat.reduceAdd]) (by simp only[VX,Nat.reduceEqDiff,Nat.reduceAdd])
  ·by_cases q2:(57:Int)<(c:Int)
   ·have:=lE (by rw[UN,decide_eq_false (show ¬c≤57 by omega),Bool.and_false])
    simp only[kK,g0,g29,g30,dA,e1,q1,q2,VX,Nat.reduceEqDiff,Nat.reduceAdd]
    exact hR this _ (by simp only[VX,Nat.reduceEqDiff,Nat.reduceAdd]) (by simp only[VX,Nat.reduceEqDiff,Nat.reduceAdd])
   ·rw[UN,decide_eq_true (by omega),decide_eq_true (by omega),Bool.and_self] at ht
    simp only[kK,g0,g29,g30,dA,e1,q1,q2,wi,VX,Nat.reduceEqDiff,Nat.reduceAdd]
    refine⟨i+1,by omega,by omega,ht,fun t ht => ?_,rfl⟩
    try simp only[uW]
    repeat rw[if_neg (by omega)]
    exact hk t ht
 ·have nZ:i=l.length:=by omega
  subst nZ
  rw[List.take_length] at hd
  simp only[kK,g29,g30,dA,VX,Nat.reduceEqDiff,Nat.reduceAdd]
  refine hN hd _ fun t ht => ?_
  try simp only[uW]
  repeat rw[if_neg (by omega)]
  exact hk t ht
set_option maxHeartbeats 2000000 in
theorem My {l:List UInt8} (hd:l.all iG=true) (hl:l.length≤200) (fC:l≠[]) {ρ:dQ} {Q:VQ} (h0:ρ 0=bC l) (h4:ρ 4 = .ref 0 0 0 0 0)
  (hQ:∀(bK:dQ),bK 4=bM (bU l)→Q .normal bK [.row 0 [] 1 false]):VW ⟨true,false⟩ 0 (.loop mX) (Ab 2 Q) ρ [.row 0 [] 1 true]:=by
 refine aT (fun(s:List UInt8×List UInt8) bK H'=>l=s.1++s.2∧bK 0=bC s.2∧((H'=[.row 0 [] 1 true]∧bK 4 = .ref 0 0 0 0 0∧s.1=[])∨(H'=[.row 0 [] 1 false]∧bK 4=bM (bU s.1)))) (fun s=>s.2.length) ([],l) ⟨rfl,h0,.inl ⟨rfl,h4,rfl⟩⟩ ?_
 rintro⟨pre,rest⟩ bK H' ⟨TB,g0,hv⟩
 simp only at TB g0 hv
 have e1:=I3 rest
 by_cases he:rest=[]
 ·subst he
  rw[List.append_nil] at TB
  subst TB
  rcases hv with⟨_,_,h⟩ | ⟨rfl,g4⟩
  ·exact absurd h fC
  have V6:dJ .neq (.string ⟨#[]⟩) (.string ⟨#[]⟩)=some (.bool false):=by
   have:=I3 []
   rw[decide_eq_true rfl] at this
   exact this
  simp only[mX,g0,V6,VX,Nat.reduceEqDiff,Nat.reduceAdd]
  exact hQ _ (by simp only[g4,VX,Nat.reduceEqDiff,Nat.reduceAdd])
 ·rw[TB,List.all_append,Bool.and_eq_true] at hd
  obtain⟨hd1,hd2⟩:=hd
  rw[TB,List.length_append] at hl
  have lB:0<rest.length:=List.length_pos_iff.2 he
  have V6:dJ .neq (.string ⟨rest.toArray⟩) (.string ⟨#[]⟩)=some (.bool true):=by rw[e1,decide_eq_false he];rfl
  have wm:(rest.length:Int).tmod 9=((rest.length % 9:Nat):Int):=by rw[Int.tmod_eq_emod_of_nonneg (by omega)];simp
  have er:dJ .rem (.int .i64 (rest.length:Int)) (.int .i64 9)=some (.int .i64 ((rest.length % 9:Nat):Int)):=by
   rw[←wm]
   rfl
  obtain⟨n,hn⟩:∃n,n=if rest.length % 9=0 then 9 else rest.length % 9:=⟨_,rfl⟩
  have hn1:1≤n∧n≤9∧n≤rest.length:=by
   rw[hn]
   split<;>omega
  obtain⟨n1,n9,nl⟩:=hn1
  have e2:=Lu rest nl
  have e3:=E2 rest nl
  have hch:(rest.take n).length=n:=by rw[List.length_take];omega
  have hcd:(rest.take n).all iG=true:=by
   rw[←List.take_append_drop n rest,List.all_append,Bool.and_eq_true] at hd2
   exact hd2.1
  have hp:=agT (rest.take n) (bU (rest.take n)) (by omega) (amH hcd (fun h=>by rw[h] at hch;simp at hch;omega) (by omega))
  have FP:=Ha hcd
  rw[hch] at FP
  have hp9:10^n≤10^9:=Nat.pow_le_pow_right (by decide) n9
  have e9:(10:Nat)^9=1000000000:=by decide
  have aA6:bU (rest.take n)<1000000000:=by omega
  have c1:=mO (10^n) (by omega)
  have c2:=mO (bU (rest.take n)) (by omega)
  have hbp:bl (bU pre)≤665:=by
   refine GZ (Nat.lt_of_lt_of_le (Ha hd1) ?_)
   exact Nat.le_trans (Nat.pow_le_pow_right (by decide) (by omega:pre.length≤200)) (by decide +kernel)
  have hb9:bl (10^n)≤64:=GZ (by omega)
  have hbm:=nJ (bU pre) (10^n)
  have hbc:bl (bU (rest.take n))≤64:=GZ (by omega)
  have tm:=iF (bU pre) (10^n) (fG (by omega)) (fG (by omega))
  have c4:=CX (bU pre*10^n) (bU (rest.take n)) (fG (by omega)) (fG (by omega))
  have sE:bU pre*10^n+bU (rest.take n)=bU (pre++rest.take n):=by rw[K0,hch]
  rw[sE] at c4
  have fin:(rest.drop n).length<rest.length∧pre++rest=(pre++rest.take n)++rest.drop n:=⟨by rw[List.length_drop];omega,by rw[List.append_assoc,List.take_append_drop]⟩
  obtain⟨v4,g4,c3⟩:∃v4,bK 4=v4∧∀lo K,cS 143 [v4,bM (10^n)] lo H' K=K (bM (bU pre*10^n)) [.row 0 [] 1 false]:=by
   rcases hv with⟨rfl,g4,hp0⟩ | ⟨rfl,g4⟩
   ·refine⟨_,g4,fun lo K => ?_⟩
    subst hp0
    have:=tm.DA (H:=[.row 0 [] 1 true]) (args:=[.ref 0 0 0 0 0,bM (10^n)]) (lo:=lo) (k:=K) rfl (by simp[aM,bS]) (fz2 alC (aJ (bS _))) rfl
    rw[this,show Lb (bM (bU []*10^n))=false from rfl,if_neg (by decide),List.flatMap_cons,List.flatMap_cons,List.flatMap_nil,FE (bS _),Oe (n:=0) (c:=0) (es:=[]) (e:=1) (w:=true) bA rfl rfl]
    rfl
   ·exact⟨_,g4,fun lo K=>tm lo [.row 0 [] 1 false] K⟩
  clear hv
  obtain⟨P,hP⟩:∃P,P=10^n:=⟨_,rfl⟩
  rw[←hP] at c1 c4 c3
  have hnI:(rest.length % 9:Nat)=0∨¬(rest.length % 9:Nat)=0:=by omega
  rcases hnI with h9 | h9
  ·rw[if_pos h9] at hn
   subst hn
   have q:((rest.length % 9:Nat):Int)=0:=by omega
   have e2':uU (bC rest) none (some (VI 9))=some (bC (rest.take 9)):=e2
   have e3':uU (bC rest) (some (VI 9)) none=some (bC (rest.drop 9)):=e3
   simp only[mX,g0,g4,V6,bN,er,q,e2',hp,VX,Nat.reduceEqDiff,Nat.reduceAdd]
   refine L5 (n:=9) (by decide) ?_ ?_ ?_ fun wT k1 q9 => ?_
   ·simp only[VX,Nat.reduceEqDiff,Nat.reduceAdd];rfl
   ·simp only[VX,Nat.reduceEqDiff,Nat.reduceAdd]
   ·simp only[VX,Nat.reduceEqDiff,Nat.reduceAdd]
   rw[←hP] at q9
   have u0:wT 0=bC rest:=by rw[k1 0 (by decide)];simp only[g0,VX,Nat.reduceEqDiff,Nat.reduceAdd]
   have u4:wT 4=v4:=by rw[k1 4 (by decide)];simp only[g4,VX,Nat.reduceEqDiff,Nat.reduceAdd]
   have u6:wT 6=VI 9:=by rw[k1 6 (by decide)];simp only[VX,Nat.reduceEqDiff,Nat.reduceAdd]
   have u7:wT 7=VK .u64 (bU (rest.take 9)):=by rw[k1 7 (by decide)];simp only[VX,Nat.reduceEqDiff,Nat.reduceAdd]
   simp only[u0,u4,u6,u7,q9,c1,c2,c3,c4,e3',VX,Nat.reduceEqDiff,Nat.reduceAdd]
   exact⟨(pre++rest.take 9,rest.drop 9),fin.1,TB.trans fin.2,rfl,.inr rfl⟩
  ·rw[if_neg h9] at hn
   rw[←hn] at er
   have q:¬(n:Int)=0:=by omega
   simp only[mX,g0,g4,V6,bN,er,q,e2,hp,VX,Nat.reduceEqDiff,Nat.reduceAdd]
   refine L5 (n:=n) n9 ?_ ?_ ?_ fun wT k1 q9 => ?_
   ·simp only[VX,Nat.reduceEqDiff,Nat.reduceAdd]
   ·simp only[VX,Nat.reduceEqDiff,Nat.reduceAdd]
   ·simp only[VX,Nat.reduceEqDiff,Nat.reduceAdd]
   rw[←hP] at q9
   have u0:wT 0=bC rest:=by rw[k1 0 (by decide)];simp only[g0,VX,Nat.reduceEqDiff,Nat.reduceAdd]
   have u4:wT 4=v4:=by rw[k1 4 (by decide)];simp only[g4,VX,Nat.reduceEqDiff,Nat.reduceAdd]
   have u6:wT 6=VI n:=by rw[k1 6 (by decide)];simp only[VX,Nat.reduceEqDiff,Nat.reduceAdd]
   have u7:wT 7=VK .u64 (bU (rest.take n)):=by rw[k1 7 (by decide)];simp only[VX,Nat.reduceEqDiff,Nat.reduceAdd]
   simp only[u0,u4,u6,u7,q9,c1,c2,c3,c4,e3,VX,Nat.reduceEqDiff,Nat.reduceAdd]
   exact⟨(pre++rest.take n,rest.drop n),fin.1,TB.trans fin.2,rfl,.inr rfl⟩
set_option maxHeartbeats 2000000 in
theorem DC (l:List UInt8) (hl:l.length≤1000000000000):TC 174 [bC l] (A4 l):=by
 refine TC.walk ⟨true,false⟩ Mt rfl (Nat.le_of_ble_eq_true rfl) rfl (Xn l) ?_
 have e1:=Rr l
 by_cases he:l=[]
 ·have hk:iA l=false:=by rw[he];rfl
  have V6:dJ .eql (.string ⟨l.toArray⟩) (.string ⟨#[]⟩)=some (.bool true):=by rw[e1,decide_eq_true he]
  unfold A4
  rw[hk]
  simp only[pG,lL,V6,Bool.false_eq_true,if_false,VX,Nat.reduceEqDiff,Nat.reduceAdd]
  exact bP (d:=6) wL (aJ (v:=VB false) rfl)
 have lB:0<l.length:=List.length_pos_iff.2 he
 by_cases agG:(200:Int)<(l.length:Int)
 ·have hk:iA l=false:=by
   cases h:iA l with
   | false=>rfl
   | true=>have:=(jL.1 h).2.2.1;omega
  unfold A4
  rw[hk]
  simp only[pG,lL,e1,he,decide_false,bN,agG,Bool.false_eq_true,if_false,VX,Nat.reduceEqDiff,Nat.reduceAdd]
  exact bP (d:=6) wL (aJ (v:=VB false) rfl)
 have e2:=HD l lB
 by_cases hz:(((l.getD 0 0).toNat:Int)=48∧1<(l.length:Int))
 ·obtain⟨HT,S8⟩:=hz
  have hk:iA l=false:=by
   cases h:iA l with
   | false=>rfl
   |
    true =>
    rcases(jL.1 h).2.2.2 with h1 | h1
    ·omega
    ·exact absurd (UInt8.toNat_inj.1 (by rw[show (48:UInt8).toNat=48 from rfl];omega)) h1
  unfold A4
  rw[hk]
  simp only[pG,lL,e1,he,decide_false,bN,agG,e2,HT,S8,Bool.false_eq_true,if_false,VX,Nat.reduceEqDiff,Nat.reduceAdd]
  exact bP (d:=6) wL (aJ (v:=VB false) rfl)
 have arY:l.length=1∨l.getD 0 0≠48:=by
  by_cases h1:l.length=1
  ·exact .inl h1
  ·right
   intro h2
   apply hz
   rw[h2]
   exact⟨rfl,by omega⟩
 have e3:∀lr,jE lr [.int .u32 0] 0 [] []=some (.ref 0 0 0 0 0,[.row 0 [] 1 true]):=fun lr=>iH (H:=[]) (lr:=lr) (z:=[.int .u32 0]) rfl
 have kN:l.all iG=true→iA l=true:=fun h=>jL.2 ⟨h,lB,by omega,arY⟩
 have kF:l.all iG=false→iA l=false:=fun h=>by unfold iA;rw[h];rfl
 have rF:iA l=false→A4 l = .dT [bM 0,VB false]:=fun h=>by unfold A4;rw[h];rfl
 have rT:iA l=true→A4 l = .dT [bM (bU l),VB true]:=fun h=>if_pos h
 by_cases hA:(((l.getD 0 0).toNat:Int)=48)
 ·have hB:¬1<(l.length:Int):=fun h=>hz ⟨hA,h⟩
  simp only[pG,lL,e1,e3,he,decide_false,bN,agG,e2,hA,hB,Bool.false_eq_true,if_false,VX,Nat.reduceEqDiff,Nat.reduceAdd]
  refine K5 hl ?_ ?_ ?_ (fun hd wT g2 g3 => ?_) fun hd wT k1 => ?_
  ·simp only[VX,Nat.reduceEqDiff,Nat.reduceAdd]
  ·simp only[VX,Nat.reduceEqDiff,Nat.reduceAdd]
  ·simp only[VX,Nat.reduceEqDiff,Nat.reduceAdd]
  ·rw[rF (kF hd)]
   simp only[g2,g3,VX,Nat.reduceEqDiff,Nat.reduceAdd]
   exact bP (d:=6) wL (aJ (v:=VB false) rfl)
  ·rw[rT (kN hd)]
   simp only[VX,Nat.reduceEqDiff,Nat.reduceAdd]
   refine My hd (by omega) he ?_ ?_ fun NF g4 => ?_
   ·rw[k1 0 (by decide)];simp only[VX,Nat.reduceEqDiff,Nat.reduceAdd]
   ·rw[k1 4 (by decide)];simp only[VX,Nat.reduceEqDiff,Nat.reduceAdd]
   ·simp only[g4,VX,Nat.reduceEqDiff,Nat.reduceAdd]
    exact bP (d:=6) (aJ (bS _)) (aJ (v:=VB true) rfl)
 ·simp only[pG,lL,e1,e3,he,decide_false,bN,agG,e2,hA,Bool.false_eq_true,if_false,VX,Nat.reduceEqDiff,Nat.reduceAdd]
  refine K5 hl ?_ ?_ ?_ (fun hd wT g2 g3 => ?_) fun hd wT k1 => ?_
  ·simp only[VX,Nat.reduceEqDiff,Nat.reduceAdd]
  ·simp only[VX,Nat.reduceEqDiff,Nat.reduceAdd]
  ·simp only[VX,Nat.reduceEqDiff,Nat.reduceAdd]
  ·rw[rF (kF hd)]
   simp only[g2,g3,VX,Nat.reduceEqDiff,Nat.reduceAdd]
   exact bP (d:=6) wL (aJ (v:=VB false) rfl)
  ·rw[rT (kN hd)]
   simp only[VX,Nat.reduceEqDiff,Nat.reduceAdd]
   refine My hd (by omega) he ?_ ?_ fun NF g4 => ?_
   ·rw[k1 0 (by decide)];simp only[VX,Nat.reduceEqDiff,Nat.reduceAdd]
   ·rw[k1 4 (by decide)];simp only[VX,Nat.reduceEqDiff,Nat.reduceAdd]
   ·simp only[g4,VX,Nat.reduceEqDiff,Nat.reduceAdd]
    exact bP (d:=6) (aJ (bS _)) (aJ (v:=VB true) rfl)
def Fy:VV := .agg [VB false,bM 0,bM 0]
def C1 (l:List UInt8):VV:=match xI l with
 | some q => .dT [aQ q,VB true]
 | none => .dT [Fy,VB false]
theorem Ot:aN Fy=true:=by simp[Fy,aN,aM,bS,kC]
theorem GR:gJ Fy=true:=by simp[Fy,gJ,qE,qB,kC]
theorem UJ (l:List UInt8):gJ (C1 l)=true:=by
 unfold C1
 split<;>simp[gJ,qE,pZ,GR,kC]
theorem gF {d:Nat} {H:aA}:fz (d+2) H (.agg [VB false,.tree [] .nil,.tree [] .nil])=some Fy:=qK (aJ (v:=VB false) rfl) wL wL
theorem Lp {neg:Bool} {t b:Nat} (hb:b≠0) (hg:Nat.gcd t b=1) (hn:¬(neg=true∧t=0)):aQ (mkRat (kG neg t) b) = .agg [VB neg,bM t,bM b]:=by
 obtain⟨e1,e2⟩:=I9 (neg:=neg) hb hg
 refine BP ?_ (by rw[e1,nQ]) e2
 rw[e1]
 cases neg with
 | false=>unfold kG;simp
 |
  true =>
  have:t≠0:=fun h=>hn ⟨rfl,h⟩
  unfold kG
  simp
  omega
theorem Uy (l:List UInt8):xI l=oK (isNeg (lW 47 l).1) (if isNeg (lW 47 l).1 then (lW 47 l).1.drop 1 else (lW 47 l).1) (lW 47 l).2:=by
 cases l with
 | nil=>rfl
 |
  cons c r =>
  unfold xI
  by_cases h47:c=47
  ·subst h47
   rfl
  ·have e:lW 47 (c::r)=(c::(lW 47 r).1,(lW 47 r).2):=by rw[lW,if_neg h47]
   by_cases h45:c=45
   ·subst h45
    rw[e]
    rfl
   ·rw[e,Fj,Fj,decide_eq_false h45]
    simp only[Bool.false_eq_true,if_false,e]
theorem Rl {c:UInt8}:∀ {l:List UInt8},(lW c l).1.length≤l.length∧∀t,(lW c l).2=some t→t.length≤l.length:=by
 intro l
 cases h:(lW c l).2 with
 | none=>rw[(Ax h).2.1];exact⟨Nat.le_refl _,fun t ht=>by cases ht⟩
 |
  some r =>
  have:=congrArg List.length (HV h).2.1
  rw[List.length_append,List.length_cons] at this
  exact⟨by omega,fun t ht=>by cases ht;omega⟩
theorem NH {n:Nat}:(((aC 4294967296 n).length:Nat):Int)=0↔n=0:=by
 rw[←lQ (b:=4294967296) (n:=n) (by decide),←List.length_eq_zero_iff]
 omega
set_option maxRecDepth 100000 in
set_option maxHeartbeats 4000000 in
theorem Mf (l:List UInt8) (hl:l.length≤1000000000000):TC 115 [bC l] (C1 l):=by
 refine TC.walk ⟨true,false⟩ Mg rfl (Nat.le_of_ble_eq_true rfl) rfl (UJ l) ?_
 have e1:=apS l hl
 obtain⟨l1,l2⟩:=Rl (c:=47) (l:=l)
 have hq:=Uy l
 unfold C1
 rw[hq]
 clear hq
 generalize (lW 47 l).1=f at *
 generalize (lW 47 l).2=s2 at *
 have e2:=QL f
 have ld:(if isNeg f=true then f.drop 1 else f).length≤f.length:=by split<;>simp
 generalize (if isNeg f=true then f.drop 1 else f)=d at *
 generalize isNeg f=neg at *
 have e3:=DC d (by omega)
 have c1:TC 139 [.sc (.int .u64 1)] (bM 1):=mO 1 (by decide)
 cases hd:iA d with
 |
  false =>
  have hp:oK neg d s2=none:=if_pos (.inl hd)
  rw[hp]
  unfold A4 at e3
  rw[hd,if_neg (by decide)] at e3
  simp only[eJ,dF,e1,e2,e3,aH,iS,Nat.reduceLeDiff,Nat.reduceLT,Nat.reduceSub,VX,Nat.reduceEqDiff,Nat.reduceAdd]
  exact bP (d:=6) gF (aJ (v:=VB false) rfl)
 |
  true =>
  unfold A4 at e3
  rw[hd,if_pos rfl] at e3
  by_cases hz:neg=true∧bU d=0
  ·have hp:oK neg d s2=none:=if_pos (.inr hz)
   rw[hp]
   obtain⟨rfl,Eh⟩:=hz
   rw[Eh] at e3
   have Bk:(((aC 4294967296 0).length:Nat):Int)=0:=NH.2 rfl
   simp only[eJ,dF,e1,e2,e3,dH,Bk,aH,iS,Nat.reduceLeDiff,Nat.reduceLT,Nat.reduceSub,VX,Nat.reduceEqDiff,Nat.reduceAdd]
   exact bP (d:=6) gF (aJ (v:=VB false) rfl)
  ·have hbt:=xX hd
   have Bk:neg=true→¬(((aC 4294967296 (bU d)).length:Nat):Int)=0:=fun h h0=>hz ⟨h,NH.1 h0⟩
   cases s2 with
   |
    none =>
    have hp:oK neg d none=some (mkRat (kG neg (bU d)) 1):=if_neg (by rw[hd];rintro(h | h);exact absurd h (by decide);exact hz h)
    rw[hp]
    simp only[]
    rw[Lp (by decide) (Nat.gcd_one_right _) hz]
    cases neg with
    |
     false =>
     simp only[eJ,dF,e1,e2,e3,c1,Option.isSome_none,Option.getD_none,aH,aV,aU,aP,iS,Nat.reduceLeDiff,Nat.reduceLT,Nat.reduceSub,VX,Nat.reduceEqDiff,Nat.reduceAdd]
     exact bP (d:=6) (qK (aJ (v:=VB false) rfl) (aJ (bS _)) (aJ (bS _))) (aJ (v:=VB true) rfl)
    |
     true =>
     have Bk:=Bk rfl
     simp only[eJ,dF,e1,e2,e3,c1,dH,Bk,Option.isSome_none,Option.getD_none,aH,aV,aU,aP,iS,Nat.reduceLeDiff,Nat.reduceLT,Nat.reduceSub,VX,Nat.reduceEqDiff,Nat.reduceAdd]
     exact bP (d:=6) (qK (aJ (v:=VB true) rfl) (aJ (bS _)) (aJ (bS _))) (aJ (v:=VB true) rfl)
   |
    some t =>
    have e4:=DC t (by have:=l2 t rfl;omega)
    have hp:oK neg d (some t)=if iA t=true∧1<bU t∧Nat.gcd (bU d) (bU t)=1 then some (mkRat (kG neg (bU d)) (bU t)) else none:=if_neg (by rw[hd];rintro(h | h);exact absurd h (by decide);exact hz h)
    rw[hp]
    cases ht:iA t with
    |
     false =>
     rw[if_neg (fun h=>absurd h.1 (by decide))]
     unfold A4 at e4
     rw[ht,if_neg (by decide)] at e4
     cases neg with
     |
      false =>
      simp only[eJ,dF,e1,e2,e3,e4,c1,Option.isSome_some,Option.getD_some,aH,aV,aU,aP,iS,Nat.reduceLeDiff,Nat.reduceLT,Nat.reduceSub,VX,Nat.reduceEqDiff,Nat.reduceAdd]
      exact bP (d:=6) gF (aJ (v:=VB false) rfl)
     |
      true =>
      have Bk:=Bk rfl
      simp only[eJ,dF,e1,e2,e3,e4,c1,dH,Bk,Option.isSome_some,Option.getD_some,aH,aV,aU,aP,iS,Nat.reduceLeDiff,Nat.reduceLT,Nat.reduceSub,VX,Nat.reduceEqDiff,Nat.reduceAdd]
      exact bP (d:=6) gF (aJ (v:=VB false) rfl)
    |
     true =>
     have MD:=xX ht
     unfold A4 at e4
     rw[ht,if_pos rfl] at e4
     have c2:=jZ (bU t) 1 (fG (by omega)) (fG (Nat.le_trans (GZ (n:=1) (k:=1) (by decide)) (by decide)))
     have c3:=Dg (bU d) (bU t) (fG (by omega)) (fG (by omega))
     by_cases h1:eW (bU t) 1≤0
     ·have hle:¬1<bU t:=fun h=>by unfold eW at h1;rw[if_neg (by omega),if_neg (by omega)] at h1;exact absurd h1 (by decide)
      rw[if_neg (fun h=>hle h.2.1)]
      cases neg with
      |
       false =>
       simp only[eJ,dF,e1,e2,e3,e4,c1,c2,h1,Option.isSome_some,Option.getD_some,aH,aV,aU,aP,iS,Nat.reduceLeDiff,Nat.reduceLT,Nat.reduceSub,VX,Nat.reduceEqDiff,Nat.reduceAdd]
       exact bP (d:=6) gF (aJ (v:=VB false) rfl)
      |
       true =>
       have Bk:=Bk rfl
       simp only[eJ,dF,e1,e2,e3,e4,c1,c2,h1,dH,Bk,Option.isSome_some,Option.getD_some,aH,aV,aU,aP,iS,Nat.reduceLeDiff,Nat.reduceLT,Nat.reduceSub,VX,Nat.reduceEqDiff,Nat.reduceAdd]
       exact bP (d:=6) gF (aJ (v:=VB false) rfl)
     ·have bI:1<bU t:=by
       rcases Nat.lt_or_ge 1 (bU t) with h | h
       ·exact h
       ·exfalso
        apply h1
        unfold eW
        split
        ·decide
        ·rw[if_pos (by omega)];decide
      have hgl:bl (Nat.gcd (bU d) (bU t))≤665:=Nat.le_trans (kB (Nat.le_of_dvd (by omega) (Nat.gcd_dvd_right _ _))) MD
      have c4:=jZ (Nat.gcd (bU d) (bU t)) 1 (fG (by omega)) (fG (Nat.le_trans (GZ (n:=1) (k:=1) (by decide)) (by decide)))
      by_cases hg:Nat.gcd (bU d) (bU t)=1
      ·have h4:eW (Nat.gcd (bU d) (bU t)) 1=0:=by rw[hg];rfl
       rw[if_pos ⟨rfl,bI,hg⟩]
       simp only[]
       rw[Lp (by omega) hg hz]
       cases neg with
       |
        false =>
        simp only[eJ,dF,e1,e2,e3,e4,c1,c2,c3,c4,h1,h4,Option.isSome_some,Option.getD_some,aH,aV,aU,aP,iS,Nat.reduceLeDiff,Nat.reduceLT,Nat.reduceSub,VX,Nat.reduceEqDiff,Nat.reduceAdd]
        exact bP (d:=6) (qK (aJ (v:=VB false) rfl) (aJ (bS _)) (aJ (bS _))) (aJ (v:=VB true) rfl)
       |
        true =>
        have Bk:=Bk rfl
        simp only[eJ,dF,e1,e2,e3,e4,c1,c2,c3,c4,h1,h4,dH,Bk,Option.isSome_some,Option.getD_some,aH,aV,aU,aP,iS,Nat.reduceLeDiff,Nat.reduceLT,Nat.reduceSub,VX,Nat.reduceEqDiff,Nat.reduceAdd]
        exact bP (d:=6) (qK (aJ (v:=VB true) rfl) (aJ (bS _)) (aJ (bS _))) (aJ (v:=VB true) rfl)
      ·have h4:¬eW (Nat.gcd (bU d) (bU t)) 1=0:=by
        unfold eW
        split<;>(try split)<;>first | decide | omega
       rw[if_neg (fun h=>hg h.2.2)]
       cases neg with
       |
        false =>
        simp only[eJ,dF,e1,e2,e3,e4,c1,c2,c3,c4,h1,h4,Option.isSome_some,Option.getD_some,aH,aV,aU,aP,iS,Nat.reduceLeDiff,Nat.reduceLT,Nat.reduceSub,VX,Nat.reduceEqDiff,Nat.reduceAdd]
        exact bP (d:=6) gF (aJ (v:=VB false) rfl)
       |
        true =>
        have Bk:=Bk rfl
        simp only[eJ,dF,e1,e2,e3,e4,c1,c2,c3,c4,h1,h4,dH,Bk,Option.isSome_some,Option.getD_some,aH,aV,aU,aP,iS,Nat.reduceLeDiff,Nat.reduceLT,Nat.reduceSub,VX,Nat.reduceEqDiff,Nat.reduceAdd]
        exact bP (d:=6) gF (aJ (v:=VB false) rfl)
end Go.PM
namespace Go.PM
open Go.Lib
theorem QI {l:List UInt8} {q:Rat} (h:xI l=some q):C1 l = .dT [aQ q,VB true]:=by unfold C1;rw[h]
theorem Qv {l:List UInt8} (h:xI l=none):C1 l = .dT [Fy,VB false]:=by unfold C1;rw[h]
theorem Dm:aB Fy=[VB false,bM 0,bM 0]:=rfl
theorem Fa:isAny Fy=false:=rfl
theorem LC:dD true 3 Fy 0=some Fy:=rfl
end Go.PM
namespace Go.PM
open Go.Lib
end Go.PM