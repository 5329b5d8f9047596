/- Texts of a claim, in one: part 10. -/
import Derived.Lib.Bytealg
import Derived.Lib.ParseIntB
import Derived.Test.YtjmflicajplclaaGreatDoorKZi
set_option linter.unusedSimpArgs false
set_option linter.unusedVariables false
namespace Go.PM
open Go.Lib
def aQ (q:Rat):VV := .agg [VB (decide (q.num<0)),bN q.num.natAbs,bN q.den]
theorem gR (q:Rat):aP (aQ q)=true:=by simp[aQ,aP,aM,bR,kC]
theorem qB (q:Rat):iD (aQ q)=true:=by simp[aQ,iD,pY,qF,kC]
theorem BE {q:Rat} {neg:Bool} {t b:Nat} (h0:q.num<0↔neg=true) (h1:q.num.natAbs=t) (h2:q.den=b):aQ q = .agg [VB neg,bN t,bN b]:=by
 subst h1 h2
 unfold aQ
 congr 4
 cases neg<;>simp_all
theorem aeP {neg:Bool} {t b:Nat} (hb:b≠0) (ht:t≠0):aQ (mkRat (kG neg t) b) = .agg [VB neg,bN (t / Nat.gcd t b),bN (b / Nat.gcd t b)]:=by
 refine BE ?_ ?_ (OS hb)
 ·rw[EO hb,OV]
  have h1:t / Nat.gcd t b≠0:=by
   have:=Nat.div_pos (Nat.le_of_dvd (by omega) (Nat.gcd_dvd_left t b)) (Nat.gcd_pos_of_pos_left b (by omega))
   omega
  simp[h1]
 ·rw[EO hb,nR]
theorem WJ:aQ 0 = .agg [VB false,.tree [] .op,bN 1]:=by
 rw[BE (q:=0) (neg:=false) (t:=0) (b:=1) (by simp) rfl rfl,DG]
theorem aU (n:Nat):bP (bN n)=true:=rfl
theorem aV (n:Nat):isAny (bN n)=false:=rfl
theorem aO (n:Nat):aB (bN n)=[bN n]:=rfl
theorem dD (q:Rat):isAny (aQ q)=false:=rfl
theorem aF (q:Rat):aB (aQ q)=[VB (decide (q.num<0)),bN q.num.natAbs,bN q.den]:=rfl
theorem dK (q:Rat):dC true 3 (aQ q) 0=some (aQ q):=rfl
theorem jC (q:Rat):dC false 1 (aQ q) 0=some (VB (decide (q.num<0))):=rfl
theorem jB (q:Rat):dC false 1 (aQ q) 1=some (bN q.num.natAbs):=rfl
theorem lJ (q:Rat):dC false 1 (aQ q) 2=some (bN q.den):=rfl
theorem qR {d:Nat} {H:aA} {u u' v v' w w':VV} (h1:fz (d+1) H u=some u') (h2:fz (d+1) H v=some v') (h3:fz (d+1) H w=some w'):fz (d+2) H (.agg [u,v,w])=some (.agg [u',v',w']):=by
 have e:fz (d+2) H (.agg [u,v,w])=if aP (.agg [u,v,w])=true then some (.agg [u,v,w]) else ([u,v,w].mapM (fz (d+1) H)).map .agg:=rfl
 rw[e]
 by_cases hp:aP (.agg [u,v,w])=true
 ·rw[if_pos hp]
  simp only[aP,aM,Bool.and_eq_true,and_true] at hp
  rw[aJ hp.1] at h1
  rw[aJ hp.2.1] at h2
  rw[aJ hp.2.2] at h3
  cases h1
  cases h2
  cases h3
  rfl
 ·rw[if_neg hp,List.mapM_cons,h1,List.mapM_cons,h2,List.mapM_cons,h3]
  rfl
theorem aaX {d:Nat} {H:aA} {v:Value} (h:kC v=true):fz (d+1) H (.sc v)=some (.sc v):=aJ h
theorem uM {H:aA} {neg:Bool} {t b:Nat}:fz depth H (.agg [VB neg,bN t,bN b])=some (.agg [VB neg,bN t,bN b]):=aI (by simp[aP,aM,bR,kC])
theorem qL {H:aA} (q:Rat):fz depth H (aQ q)=some (aQ q):=aI (gR q)
theorem aqI {n:Nat} (h:bl n≤2199023255552):(aC 4294967296 n).length≤68719476736:=by
 have:=ahJ n
 omega
theorem fG {n:Nat} (h:bl n≤4398046511104):(aC 4294967296 n).length≤17592186044416:=by
 have:=ahJ n
 omega
theorem qE (neg:Bool) (t b:Nat) (hb:b≠0) (ht:bl t≤4398046511104) (uE:bl b≤4398046511104):TC 144 [VB neg,bN t,bN b] (aQ (mkRat (kG neg t) b)):=by
 refine TC.walk ⟨true,false⟩ Nd rfl (Nat.le_of_ble_eq_true rfl) (by simp[aM,bR,aP,kC]) (qB _) ?_
 by_cases h0:t=0
 ·subst h0
  have hl:(((aC 4294967296 0).length:Nat):Int)=0:=by rw[cB];rfl
  have c1:TC 139 [.sc (.int .u64 1)] (bN 1):=mV 1 (by decide)
  rw[xN,Rat.zero_mkRat,WJ,←DG]
  simp only[uT,qA,dF,hl,c1,aU,aV,aO,iR,Nat.reduceLeDiff,Nat.reduceLT,Nat.reduceSub,VX,Nat.reduceEqDiff,Nat.reduceAdd]
  exact qR (aaX rfl) wD (aJ (bR _))
 ·have hl:¬(((aC 4294967296 t).length:Nat):Int)=0:=by have:=wG.2 h0;omega
  have c1:=CH t b (fG ht) (fG uE)
  have hg0:Nat.gcd t b≠0:=Nat.gcd_ne_zero_right hb
  have hgl:bl (Nat.gcd t b)≤4398046511104:=Nat.le_trans (kB (Nat.gcd_le_right t (by omega))) uE
  have c2:=yE t _ hg0 (fG ht) (fG hgl)
  have c3:=yE b _ hg0 (fG uE) (fG hgl)
  rw[aeP hb h0]
  by_cases h1:((aC 4294967296 (Nat.gcd t b)).length:Int)=1
  ·obtain⟨d,hd⟩:∃d,aC 4294967296 (Nat.gcd t b)=[d]:=List.length_eq_one_iff.1 (by omega)
   obtain⟨hgd,_,_⟩:=Sp hd
   have e1:bK 1 (bN (Nat.gcd t b)) (.sc (.int .i64 0)) [.row 0 [.agg [VB false,.tree [] .nil,.tree [] .nil]] 3 true]=some (.cU (uV d) 0):=aL (f:=uV) (xs:=aC 4294967296 (Nat.gcd t b)) (i:=0) (k := .i64) (by rw[hd];rfl) rfl
   by_cases h2:(d:Int)=1
   ·have hg1:Nat.gcd t b=1:=by omega
    simp only[uT,qA,dF,hl,c1,h1,h2,e1,aU,aV,aO,iR,Nat.reduceLeDiff,Nat.reduceLT,Nat.reduceSub,VX,Nat.reduceEqDiff,Nat.reduceAdd]
    rw[hg1,Nat.div_one,Nat.div_one]
    exact uM
   ·simp only[uT,qA,dF,hl,c1,c2,c3,h1,h2,e1,aU,aV,aO,iR,Nat.reduceLeDiff,Nat.reduceLT,Nat.reduceSub,VX,Nat.reduceEqDiff,Nat.reduceAdd]
    exact uM
  ·simp only[uT,qA,dF,hl,c1,c2,c3,h1,aU,aV,aO,iR,Nat.reduceLeDiff,Nat.reduceLT,Nat.reduceSub,VX,Nat.reduceEqDiff,Nat.reduceAdd]
   exact uM
theorem Yl {n:Int} (h0 : -9223372036854775808≤n) (h:n<0):IntKind.u64.wrap (0-IntKind.u64.wrap n)=(n.natAbs:Int):=by
 rw[wrap_u64,wrap_u64]
 omega
theorem HT (n:Int) (h0 : -9223372036854775808≤n) (h1:n≤9223372036854775807):TC 140 [VI n] (VK .u64 (n.natAbs:Int)):=by
 refine TC.walk ⟨true,false⟩ HL rfl (Nat.le_of_ble_eq_true rfl) rfl rfl ?_
 by_cases h:n<0
 ·simp only[xR,tQ,h,Yl h0 h,VX,Nat.reduceEqDiff,Nat.reduceAdd]
  exact aI rfl
 ·have w:IntKind.u64.wrap n=(n.natAbs:Int):=by rw[wrap_u64];omega
  simp only[xR,tQ,h,w,VX,Nat.reduceEqDiff,Nat.reduceAdd]
  exact aI rfl
theorem abE (n:Int):aQ (n:Rat) = .agg [VB (decide (n<0)),bN n.natAbs,bN 1]:=BE (by simp) (by simp) (by simp)
theorem rR (n:Int) (h0 : -9223372036854775808≤n) (h1:n≤9223372036854775807):TC 64 [VI n] (aQ (n:Rat)):=by
 refine TC.walk ⟨true,false⟩ Px rfl (Nat.le_of_ble_eq_true rfl) rfl (qB _) ?_
 have c1:=HT n h0 h1
 have c2:=mV n.natAbs (by omega)
 have c3:TC 139 [.sc (.int .u64 1)] (bN 1):=mV 1 (by decide)
 rw[abE]
 simp only[Ml,GJ,c1,c2,c3,aU,aV,aO,iR,Nat.reduceLeDiff,Nat.reduceLT,Nat.reduceSub,VX,Nat.reduceEqDiff,Nat.reduceAdd]
 exact uM
theorem J7 {q:Rat}:(((aC 4294967296 q.num.natAbs).length:Nat):Int)=0↔q.num=0:=by
 have:=wG (n:=q.num.natAbs)
 omega
theorem iT (q:Rat):TC 68 [aQ q] (VI (kV q)):=by
 refine TC.walk ⟨true,false⟩ F4 rfl (Nat.le_of_ble_eq_true rfl) (by simp[aM,gR]) rfl ?_
 unfold kV
 by_cases h0:q.num=0
 ·have hl:=J7.2 h0
  rw[if_pos h0]
  simp only[qO,nU,dF,hl,aF,jC,jB,aU,aV,aO,iR,Nat.reduceLeDiff,Nat.reduceLT,Nat.reduceSub,VX,Nat.reduceEqDiff,Nat.reduceAdd]
  exact aI rfl
 ·have hl:¬(((aC 4294967296 q.num.natAbs).length:Nat):Int)=0:=fun h=>h0 (J7.1 h)
  rw[if_neg h0]
  by_cases h1:q.num<0
  ·simp only[qO,nU,dF,hl,h1,aF,jC,jB,aU,aV,aO,iR,Nat.reduceLeDiff,Nat.reduceLT,Nat.reduceSub,VX,Nat.reduceEqDiff,Nat.reduceAdd]
   exact aI rfl
  ·simp only[qO,nU,dF,hl,h1,aF,jC,jB,aU,aV,aO,iR,Nat.reduceLeDiff,Nat.reduceLT,Nat.reduceSub,VX,Nat.reduceEqDiff,Nat.reduceAdd]
   exact aI rfl
theorem Iu (q:Rat):TC 177 [aQ q] (aQ (-q)):=by
 refine TC.walk ⟨true,false⟩ EN rfl (Nat.le_of_ble_eq_true rfl) (by simp[aM,gR]) (qB _) ?_
 have hq:aQ (-q) = .agg [VB (decide (0<q.num)),bN q.num.natAbs,bN q.den]:=BE (by simp) (by simp) (by simp)
 rw[hq]
 by_cases h1:q.num<0
 ·have h2:¬0<q.num:=by omega
  simp only[pO,mR,dF,h1,h2,aF,jC,jB,lJ,aU,aV,aO,iR,Nat.reduceLeDiff,Nat.reduceLT,Nat.reduceSub,VX,Nat.reduceEqDiff,Nat.reduceAdd]
  exact uM
 ·by_cases h0:q.num=0
  ·have hl:¬(0:Int)<((aC 4294967296 q.num.natAbs).length:Int):=by have:=J7.2 h0;omega
   have h2:¬0<q.num:=by omega
   simp only[pO,mR,dF,hl,h1,h2,aF,jC,jB,lJ,aU,aV,aO,iR,Nat.reduceLeDiff,Nat.reduceLT,Nat.reduceSub,VX,Nat.reduceEqDiff,Nat.reduceAdd]
   exact uM
  ·have hl:(0:Int)<((aC 4294967296 q.num.natAbs).length:Int):=by have:=mt J7.1 h0;omega
   have h2:0<q.num:=by omega
   simp only[pO,mR,dF,hl,h1,h2,aF,jC,jB,lJ,aU,aV,aO,iR,Nat.reduceLeDiff,Nat.reduceLT,Nat.reduceSub,VX,Nat.reduceEqDiff,Nat.reduceAdd]
   exact uM
end Go.PM
namespace Go.PM
open Go.Lib
theorem Ag (a b:Bool):MY false (.bool a) (.bool b)=some (.bool (a == b)):=by
 show some (Value.bool ((a == b) != false))=_
 rw[Bool.bne_false]
theorem oL (a b:Bool):MY true (.bool a) (.bool b)=some (.bool (a != b)):=by
 show some (Value.bool ((a == b) != true))=_
 cases a<;>cases b<;>rfl
theorem tR {q:Rat} {k:Nat} (h:aZ q≤k):bl q.num.natAbs≤k:=Nat.le_trans rG h
theorem tJ {q:Rat} {k:Nat} (h:aZ q≤k):bl q.den≤k:=Nat.le_trans pM h
theorem Hs {X Y B:Nat} {a b:Rat} (hB:B≠0) (ha:mkRat (kG (decide (a.num<0)) X) B=a) (hb:mkRat (kG (decide (b.num<0)) Y) B=b) :
  ((decide (a.num<0))=(decide (b.num<0))→mkRat (kG (decide (a.num<0)) (X+Y)) B=a+b) ∧
  ((decide (a.num<0))≠(decide (b.num<0))→Y≤X→mkRat (kG (decide (a.num<0)) (X-Y)) B=a+b) ∧
  ((decide (a.num<0))≠(decide (b.num<0))→X≤Y→mkRat (kG (decide (b.num<0)) (Y-X)) B=a+b):=by
 refine⟨fun h => ?_,fun h hx => ?_,fun h hx => ?_⟩
 ·conv=>rhs;rw[←ha,←hb,C1 _ _ hB,←h,PV]
 ·conv=>rhs;rw[←ha,←hb,C1 _ _ hB,Uc h hx]
 ·conv=>rhs;rw[←ha,←hb,C1 _ _ hB,UA h hx]
theorem xK (a b:Rat) (Nc:aZ a≤1099511627776) (HC:aZ b≤1099511627776):TC 69 [aQ a,aQ b] (aQ (a+b)):=by
 refine TC.walk ⟨true,false⟩ Hu rfl (Nat.le_of_ble_eq_true rfl) (by simp[aM,gR]) (qB _) ?_
 have ca:=iT a
 have cb:=iT b
 by_cases ha0:a.num=0
 ·have:a=0:=Rat.num_eq_zero.1 ha0
  rw[kS ha0] at ca
  rw[this,Rat.zero_add,←this]
  simp only[fY,eO,ca,cb,aF,dK,dD,aU,aV,aO,iR,Nat.reduceLeDiff,Nat.reduceLT,Nat.reduceSub,VX,Nat.reduceEqDiff,Nat.reduceAdd]
  exact qL _
 have hsa:¬kV a=0:=fun h=>ha0 (Rat.num_eq_zero.2 (Bs.1 h))
 by_cases hb0:b.num=0
 ·have:b=0:=Rat.num_eq_zero.1 hb0
  rw[kS hb0] at cb
  rw[this,Rat.add_zero,←this]
  simp only[fY,eO,ca,cb,hsa,aF,dK,dD,aU,aV,aO,iR,Nat.reduceLeDiff,Nat.reduceLT,Nat.reduceSub,VX,Nat.reduceEqDiff,Nat.reduceAdd]
  exact qL _
 have hsb:¬kV b=0:=fun h=>hb0 (Rat.num_eq_zero.2 (Bs.1 h))
 have la:=tR Nc
 have lb:=tR HC
 have lda:=tJ Nc
 have ldb:=tJ HC
 have fin:∀(X Y B:Nat),bl X≤2199023255552→bl Y≤2199023255552→bl B≤2199023255552→B≠0→mkRat (kG (decide (a.num<0)) X) B=a→mkRat (kG (decide (b.num<0)) Y) B=b →
   TC 145 [bN X,bN Y] (bN (X+Y))∧TC 142 [bN X,bN Y] (VI (eW X Y)) ∧
   (Y≤X→TC 146 [bN X,bN Y] (bN (X-Y)))∧(X≤Y→TC 146 [bN Y,bN X] (bN (Y-X))) ∧
   (∀neg,TC 144 [VB neg,bN (X+Y),bN B] (aQ (mkRat (kG neg (X+Y)) B))) ∧
   (∀neg,TC 144 [VB neg,bN (X-Y),bN B] (aQ (mkRat (kG neg (X-Y)) B))) ∧
   (∀neg,TC 144 [VB neg,bN (Y-X),bN B] (aQ (mkRat (kG neg (Y-X)) B))):=by
  intro X Y B hX hY hB hB0 _ _
  refine⟨CO X Y (fG (by omega)) (fG (by omega)),jX X Y (fG (by omega)) (fG (by omega)),fun h=>Dq X Y h (fG (by omega)),fun h=>Dq Y X h (fG (by omega)),fun neg=>qE neg _ _ hB0 ?_ (by omega),fun neg=>qE neg _ _ hB0 ?_ (by omega),fun neg=>qE neg _ _ hB0 ?_ (by omega)⟩
  ·exact Nat.le_trans (Ug hX hY) (by omega)
  ·exact Nat.le_trans (kB (Nat.sub_le _ _)) (by omega)
  ·exact Nat.le_trans (kB (Nat.sub_le _ _)) (by omega)
 by_cases hd:a.den=b.den
 ·have hBn:=a.den_nz
  have cc:=jX a.den b.den (fG (by omega)) (fG (by omega))
  rw[show eW a.den b.den=0 from AF.2 hd] at cc
  have eb:mkRat (kG (decide (b.num<0)) b.num.natAbs) a.den=b:=by rw[hd,JX]
  obtain⟨f1,f2,f3,f4,f5,f6,f7⟩:=fin a.num.natAbs b.num.natAbs a.den (by omega) (by omega) (by omega) hBn (JX a) eb
  obtain⟨p1,p2,p3⟩:=Hs hBn (JX a) eb
  by_cases hn:decide (a.num<0)=decide (b.num<0)
  ·have RF:(decide (a.num<0) == decide (b.num<0))=true:=by simpa using hn
   rw[←p1 hn]
   simp only[fY,eO,ca,cb,hsa,hsb,cc,f1,f5,Ag,oL,RF,aF,dK,jC,jB,lJ,dD,aU,aV,aO,iR,Nat.reduceLeDiff,Nat.reduceLT,Nat.reduceSub,VX,Nat.reduceEqDiff,Nat.reduceAdd]
   exact qL _
  ·have RF:(decide (a.num<0) == decide (b.num<0))=false:=by simpa using hn
   by_cases hx:(0:Int)≤eW a.num.natAbs b.num.natAbs
   ·have hle:b.num.natAbs≤a.num.natAbs:=by have := @uF a.num.natAbs b.num.natAbs;omega
    have c3:=f3 hle
    rw[←p2 hn hle]
    simp only[fY,eO,ca,cb,hsa,hsb,cc,f2,c3,f6,hx,Ag,oL,RF,aF,dK,jC,jB,lJ,dD,aU,aV,aO,iR,Nat.reduceLeDiff,Nat.reduceLT,Nat.reduceSub,VX,Nat.reduceEqDiff,Nat.reduceAdd]
    exact qL _
   ·have hle:a.num.natAbs≤b.num.natAbs:=by have := @uF a.num.natAbs b.num.natAbs;omega
    have c3:=f4 hle
    rw[←p3 hn hle]
    simp only[fY,eO,ca,cb,hsa,hsb,cc,f2,c3,f7,hx,Ag,oL,RF,aF,dK,jC,jB,lJ,dD,aU,aV,aO,iR,Nat.reduceLeDiff,Nat.reduceLT,Nat.reduceSub,VX,Nat.reduceEqDiff,Nat.reduceAdd]
    exact qL _
 ·have hBn:=Nat.mul_ne_zero a.den_nz b.den_nz
  have cc:=jX a.den b.den (fG (by omega)) (fG (by omega))
  have Tw:¬eW a.den b.den=0:=fun h=>hd (AF.1 h)
  have m1:=iF a.num.natAbs b.den (fG (by omega)) (fG (by omega))
  have m2:=iF b.num.natAbs a.den (fG (by omega)) (fG (by omega))
  have m3:=iF a.den b.den (fG (by omega)) (fG (by omega))
  have ea:mkRat (kG (decide (a.num<0)) (a.num.natAbs*b.den)) (a.den*b.den)=a:=DH a b.den_nz
  have eb:mkRat (kG (decide (b.num<0)) (b.num.natAbs*a.den)) (a.den*b.den)=b:=by rw[Nat.mul_comm a.den];exact DH b a.den_nz
  have k1:=nM a.num.natAbs b.den
  have k2:=nM b.num.natAbs a.den
  have k3:=nM a.den b.den
  obtain⟨f1,f2,f3,f4,f5,f6,f7⟩:=fin _ _ _ (by omega) (by omega) (by omega) hBn ea eb
  obtain⟨p1,p2,p3⟩:=Hs hBn ea eb
  by_cases hn:decide (a.num<0)=decide (b.num<0)
  ·have RF:(decide (a.num<0) == decide (b.num<0))=true:=by simpa using hn
   rw[←p1 hn]
   simp only[fY,eO,ca,cb,hsa,hsb,cc,Tw,m1,m2,m3,f1,f5,Ag,oL,RF,aF,dK,jC,jB,lJ,dD,aU,aV,aO,iR,Nat.reduceLeDiff,Nat.reduceLT,Nat.reduceSub,VX,Nat.reduceEqDiff,Nat.reduceAdd]
   exact qL _
  ·have RF:(decide (a.num<0) == decide (b.num<0))=false:=by simpa using hn
   by_cases hx:(0:Int)≤eW (a.num.natAbs*b.den) (b.num.natAbs*a.den)
   ·have hle:b.num.natAbs*a.den≤a.num.natAbs*b.den:=by have := @uF (a.num.natAbs*b.den) (b.num.natAbs*a.den);omega
    have c3:=f3 hle
    rw[←p2 hn hle]
    simp only[fY,eO,ca,cb,hsa,hsb,cc,Tw,m1,m2,m3,f2,c3,f6,hx,Ag,oL,RF,aF,dK,jC,jB,lJ,dD,aU,aV,aO,iR,Nat.reduceLeDiff,Nat.reduceLT,Nat.reduceSub,VX,Nat.reduceEqDiff,Nat.reduceAdd]
    exact qL _
   ·have hle:a.num.natAbs*b.den≤b.num.natAbs*a.den:=by have := @uF (a.num.natAbs*b.den) (b.num.natAbs*a.den);omega
    have c3:=f4 hle
    rw[←p3 hn hle]
    simp only[fY,eO,ca,cb,hsa,hsb,cc,Tw,m1,m2,m3,f2,c3,f7,hx,Ag,oL,RF,aF,dK,jC,jB,lJ,dD,aU,aV,aO,iR,Nat.reduceLeDiff,Nat.reduceLT,Nat.reduceSub,VX,Nat.reduceEqDiff,Nat.reduceAdd]
    exact qL _
theorem KB (a b:Rat) (Nc:aZ a≤1099511627776) (HC:aZ b≤1099511627776):TC 128 [aQ a,aQ b] (aQ (a-b)):=by
 refine TC.walk ⟨true,false⟩ Im rfl (Nat.le_of_ble_eq_true rfl) (by simp[aM,gR]) (qB _) ?_
 have c1:=Iu b
 have c2:=xK a (-b) Nc (by rw[Io];exact HC)
 rw[←Rat.sub_eq_add_neg] at c2
 simp only[CS,AK,c1,c2,aF,dK,dD,aU,aV,aO,iR,Nat.reduceLeDiff,Nat.reduceLT,Nat.reduceSub,VX,Nat.reduceEqDiff,Nat.reduceAdd]
 exact qL _
theorem Ks (a b:Rat) (Nc:aZ a≤1099511627776) (HC:aZ b≤1099511627776):TC 132 [aQ a,aQ b] (aQ (a*b)):=by
 refine TC.walk ⟨true,false⟩ G8 rfl (Nat.le_of_ble_eq_true rfl) (by simp[aM,gR]) (qB _) ?_
 have ca:=iT a
 have cb:=iT b
 have c0:TC 64 [VI 0] (aQ 0):=rR 0 (by decide) (by decide)
 by_cases ha0:a.num=0
 ·have:a=0:=Rat.num_eq_zero.1 ha0
  rw[kS ha0] at ca
  rw[show a*b=0 by rw[this,Rat.zero_mul]]
  simp only[sC,pI,ca,cb,c0,aF,dK,dD,aU,aV,aO,iR,Nat.reduceLeDiff,Nat.reduceLT,Nat.reduceSub,VX,Nat.reduceEqDiff,Nat.reduceAdd]
  exact qL _
 have hsa:¬kV a=0:=fun h=>ha0 (Rat.num_eq_zero.2 (Bs.1 h))
 by_cases hb0:b.num=0
 ·have:b=0:=Rat.num_eq_zero.1 hb0
  rw[kS hb0] at cb
  rw[show a*b=0 by rw[this,Rat.mul_zero]]
  simp only[sC,pI,ca,cb,hsa,c0,aF,dK,dD,aU,aV,aO,iR,Nat.reduceLeDiff,Nat.reduceLT,Nat.reduceSub,VX,Nat.reduceEqDiff,Nat.reduceAdd]
  exact qL _
 have hsb:¬kV b=0:=fun h=>hb0 (Rat.num_eq_zero.2 (Bs.1 h))
 have la:=tR Nc
 have lb:=tR HC
 have lda:=tJ Nc
 have ldb:=tJ HC
 have l1:=qE false a.num.natAbs b.den b.den_nz (by omega) (by omega)
 have l2:=qE false b.num.natAbs a.den a.den_nz (by omega) (by omega)
 obtain⟨d1,d2⟩:=Bn a.num.natAbs b.den_nz
 obtain⟨d3,d4⟩:=Bn b.num.natAbs a.den_nz
 have b1:=kB (Nat.le_of_dvd (by omega) d1)
 have b2:=kB (Nat.le_of_dvd (Nat.pos_of_ne_zero b.den_nz) d2)
 have b3:=kB (Nat.le_of_dvd (by omega) d3)
 have b4:=kB (Nat.le_of_dvd (Nat.pos_of_ne_zero a.den_nz) d4)
 obtain⟨e1,e2⟩:=WW a b
 have e3:=Re ha0 hb0
 generalize mkRat (kG false a.num.natAbs) b.den=u at *
 generalize mkRat (kG false b.num.natAbs) a.den=v at *
 have m1:=iF u.num.natAbs v.num.natAbs (fG (by omega)) (fG (by omega))
 have m2:=iF u.den v.den (fG (by omega)) (fG (by omega))
 rw[BE e3 e1 e2]
 simp only[sC,pI,ca,cb,hsa,hsb,l1,l2,m1,m2,Ag,oL,aF,dK,jC,jB,lJ,dD,aU,aV,aO,iR,Nat.reduceLeDiff,Nat.reduceLT,Nat.reduceSub,VX,Nat.reduceEqDiff,Nat.reduceAdd]
 exact uM
theorem YH {b:Rat} (h:b≠0):aQ b⁻¹ = .agg [VB (decide (b.num<0)),bN b.den,bN b.num.natAbs]:=by
 have hn:b.num≠0:=fun hn=>h (Rat.num_eq_zero.1 hn)
 have hd:(0:Int)<b.den:=by have:=b.den_nz;omega
 refine BE ?_ ?_ ?_
 ·rw[Rat.num_inv,decide_eq_true_eq]
  rcases Int.lt_or_gt_of_ne hn with h1 | h1
  ·rw[Int.sign_eq_neg_one_of_neg h1];omega
  ·rw[Int.sign_eq_one_of_pos h1];omega
 ·rw[Rat.num_inv,Int.natAbs_mul,Int.natAbs_natCast]
  rcases Int.lt_or_gt_of_ne hn with h1 | h1
  ·rw[Int.sign_eq_neg_one_of_neg h1];simp
  ·rw[Int.sign_eq_one_of_pos h1];simp
 ·rw[Rat.den_inv,if_neg hn]
theorem Jo (a b:Rat) (hb:b≠0) (Nc:aZ a≤1099511627776) (HC:aZ b≤1099511627776):TC 129 [aQ a,aQ b] (aQ (a / b)):=by
 refine TC.walk ⟨true,false⟩ GU rfl (Nat.le_of_ble_eq_true rfl) (by simp[aM,gR]) (qB _) ?_
 have c1:=Ks a b⁻¹ Nc (Nat.le_trans (NH b) HC)
 rw[←Rat.div_def,YH hb] at c1
 simp only[BV,zP,c1,aF,dK,jC,jB,lJ,dD,aU,aV,aO,iR,Nat.reduceLeDiff,Nat.reduceLT,Nat.reduceSub,VX,Nat.reduceEqDiff,Nat.reduceAdd]
 exact qL _
theorem I8 (q:Rat) : -1≤kV q∧kV q≤1:=by
 rcases Int.lt_trichotomy q.num 0 with h | h | h
 ·rw[pF h];omega
 ·rw[kS h];omega
 ·rw[oZ h];omega
theorem TU (m n:Nat) : -1≤eW m n∧eW m n≤1:=by
 rcases Nat.lt_trichotomy m n with h | h | h
 ·rw[eW,if_pos h];omega
 ·subst h;rw[eW,if_neg (by omega),if_pos rfl];omega
 ·rw[eW,if_neg (by omega),if_neg (by omega)];omega
theorem Lf (a b:Rat) (Nc:aZ a≤1099511627776) (HC:aZ b≤1099511627776):TC 148 [aQ a,aQ b] (VI (Sl a b)):=by
 refine TC.walk ⟨true,false⟩ Hv rfl (Nat.le_of_ble_eq_true rfl) (by simp[aM,gR]) rfl ?_
 have ca:=iT a
 have cb:=iT b
 have la:=tR Nc
 have lb:=tR HC
 have lda:=tJ Nc
 have ldb:=tJ HC
 have k1:=nM a.num.natAbs b.den
 have k2:=nM b.num.natAbs a.den
 have m1:=iF a.num.natAbs b.den (fG (by omega)) (fG (by omega))
 have m2:=iF b.num.natAbs a.den (fG (by omega)) (fG (by omega))
 have c1:=jX (a.num.natAbs*b.den) (b.num.natAbs*a.den) (fG (by omega)) (fG (by omega))
 have ra:=I8 a
 have rb:=I8 b
 have rc:=TU (a.num.natAbs*b.den) (b.num.natAbs*a.den)
 unfold Sl
 by_cases hs:kV a=kV b
 ·rw[if_pos hs]
  have w:IntKind.i64.wrap (0-eW (a.num.natAbs*b.den) (b.num.natAbs*a.den)) = -eW (a.num.natAbs*b.den) (b.num.natAbs*a.den):=by rw[wrap64 (by omega) (by omega)];omega
  by_cases hn:a.num<0
  ·rw[if_pos hn]
   simp only[rU,oX,ca,cb,hs,m1,m2,c1,hn,w,aF,dK,jC,jB,lJ,dD,aU,aV,aO,iR,Nat.reduceLeDiff,Nat.reduceLT,Nat.reduceSub,VX,Nat.reduceEqDiff,Nat.reduceAdd]
   exact aI rfl
  ·rw[if_neg hn]
   simp only[rU,oX,ca,cb,hs,m1,m2,c1,hn,aF,dK,jC,jB,lJ,dD,aU,aV,aO,iR,Nat.reduceLeDiff,Nat.reduceLT,Nat.reduceSub,VX,Nat.reduceEqDiff,Nat.reduceAdd]
   exact aI rfl
 ·rw[if_neg hs]
  have w:IntKind.i64.wrap (kV a-kV b)=kV a-kV b:=wrap64 (by omega) (by omega)
  simp only[rU,oX,ca,cb,hs,w,aF,dK,jC,jB,lJ,dD,aU,aV,aO,iR,Nat.reduceLeDiff,Nat.reduceLT,Nat.reduceSub,VX,Nat.reduceEqDiff,Nat.reduceAdd]
  exact aI rfl
end Go.PM
namespace Go.PM
theorem qI {n:Nat}:(0:Int)<((aC 1000000000 n).length:Int)↔n≠0:=by
 constructor
 ·intro h h0
  subst h0
  rw[cB] at h
  simp at h
 ·intro h
  have:=(lL (b:=1000000000) (by decide) (n:=n))
  have h2:aC 1000000000 n≠[]:=fun hx=>h (this.1 hx)
  have:=List.length_pos_iff.2 h2
  omega
theorem oN {n:Nat} (h:bl n≤4398046511104):(aC 1000000000 n).length<17592186044416:=by
 have:=aiD n
 omega
theorem EK (a b:Nat) (ha:(aC 1000000000 a).length<17592186044416) (hb:(aC 1000000000 b).length<17592186044416):TC 170 [bY a,bY b] (bY (Nat.gcd a b)):=by
 refine TC.walk ⟨true,false⟩ MJ rfl (Nat.le_of_ble_eq_true rfl) (by simp[aM,cI]) (nE _) ?_
 simp only[Ix,Eb,VX,Nat.reduceEqDiff,Nat.reduceAdd]
 refine aT (fun(t:Nat×Nat) ρ H=>H=[]∧Nat.gcd t.1 t.2=Nat.gcd a b∧(aC 1000000000 t.1).length<17592186044416∧(aC 1000000000 t.2).length<17592186044416∧ρ 0=bY t.1∧ρ 1=bY t.2) (fun t=>t.2) (a,b) ⟨rfl,rfl,ha,hb,rfl,rfl⟩ ?_
 rintro⟨x,y⟩ ρ H ⟨rfl,hg,hx,hy,g0,g1⟩
 simp only at hg hx hy g0 g1
 by_cases hy0:y=0
 ·subst hy0
  have hl:¬(0:Int)<((aC 1000000000 0).length:Int):=by rw[qI];omega
  rw[Nat.gcd_zero_right] at hg
  simp only[wR,g0,g1,cN,hl,VX,Nat.reduceEqDiff,Nat.reduceAdd]
  rw[hg]
  exact aI (cI _)
 ·have hl:(0:Int)<((aC 1000000000 y).length:Int):=qI.2 hy0
  have c3:=uA x y hy0 hx hy
  have hm:=Nat.mod_lt x (show 0<y by omega)
  simp only[wR,g0,g1,cN,hl,c3,VX,Nat.reduceEqDiff,Nat.reduceAdd]
  refine⟨(y,x % y),hm,?_,hy,?_,rfl,rfl⟩
  ·simp only
   rw[←hg,Nat.gcd_comm x y,Nat.gcd_rec y x,Nat.gcd_comm]
  ·simp only
   have:=dX (b:=1000000000) (by decide) (Nat.le_of_lt hm)
   omega
def bA (q:Rat):VV := .agg [VB (decide (q.num<0)),bY q.num.natAbs,bY q.den]
theorem jL (q:Rat):aP (bA q)=true:=by simp[bA,aP,aM,cI,kC]
theorem rX (q:Rat):iD (bA q)=true:=by simp[bA,iD,pY,nE,kC]
theorem J4 {q:Rat} {neg:Bool} {t b:Nat} (h0:q.num<0↔neg=true) (h1:q.num.natAbs=t) (h2:q.den=b):bA q = .agg [VB neg,bY t,bY b]:=by
 subst h1 h2
 unfold bA
 congr 4
 cases neg<;>simp_all
theorem aK (n:Nat):bP (bY n)=true:=rfl
theorem bF (n:Nat):isAny (bY n)=false:=rfl
theorem aY (n:Nat):aB (bY n)=[bY n]:=rfl
theorem mH (q:Rat):isAny (bA q)=false:=rfl
theorem bZ (q:Rat):aB (bA q)=[VB (decide (q.num<0)),bY q.num.natAbs,bY q.den]:=rfl
theorem fF (q:Rat):dC true 3 (bA q) 0=some (bA q):=rfl
theorem fQ (q:Rat):dC false 1 (bA q) 0=some (VB (decide (q.num<0))):=rfl
theorem gH (q:Rat):dC false 1 (bA q) 1=some (bY q.num.natAbs):=rfl
theorem gC (q:Rat):dC false 1 (bA q) 2=some (bY q.den):=rfl
theorem oU {H:aA} {neg:Bool} {t b:Nat}:fz depth H (.agg [VB neg,bY t,bY b])=some (.agg [VB neg,bY t,bY b]):=aI (by simp[aP,aM,cI,kC])
theorem BC {H:aA} (q:Rat):fz depth H (bA q)=some (bA q):=aI (jL q)
theorem Z2 (n:Int):bA (n:Rat) = .agg [VB (decide (n<0)),bY n.natAbs,bY 1]:=J4 (by simp) (by simp) (by simp)
theorem J0 {n lo:Nat} {H:aA} {K:VV→aA→Prop} (h:(aC 1000000000 n).length≤17592186044416):cQ 155 [bY n,.tree [VI 1] (.cl 1)] lo H K=K (VI (eW n 1)) H:=by
 have c:=uH n 1 h (by rw[CI (by decide) (by decide) (by decide)];simp)
 have e:bY 1 = .tree [VI 1] .op:=by rw[bY,CI (by decide) (by decide) (by decide)];rfl
 rw[e] at c
 exact TC.args c rfl (by simp only[aM,cI];rfl) (fz2 (aI (cI n)) (aiI rfl)) (by simp only[List.flatMap_cons,List.flatMap_nil,Fz (cI n),YO (es:=[VI 1]) rfl,List.append_nil]) lo K
theorem dU {d:Int} {H:aA}:jQ false [.int .i64 0] 1 [(0,VI d)] H=some (.tree [VI d] (.cl 1),H):=sG
theorem fO {e:Nat} {es:List VV}:bP (.tree es (.cl e))=true:=rfl
theorem dT {k:TK} {es:List VV}:aB (.tree es k)=[.tree es k]:=rfl
theorem fP {k:TK} {es:List VV}:isAny (.tree es k)=false:=rfl
theorem P9 {d:Nat} {H:aA}:fz (d+2) H (.tree [VI 1] (.cl 1))=some (bY 1):=by
 rw[Zo]
 unfold fz
 have:aP (.tree [VI 1] (.cl 1))=false:=by simp[aP]
 simp only[this,Bool.false_eq_true,if_false]
 rfl
theorem sO (neg:Bool) (t b:Nat) (hb:b≠0) (ht:bl t≤4398046511104) (uE:bl b≤4398046511104):TC 153 [VB neg,bY t,bY b] (bA (mkRat (kG neg t) b)):=by
 refine TC.walk ⟨true,false⟩ Mm rfl (Nat.le_of_ble_eq_true rfl) (by simp[aM,cI,aP,kC]) (rX _) ?_
 have hg0:Nat.gcd t b≠0:=Nat.gcd_ne_zero_right hb
 have hgl:bl (Nat.gcd t b)≤4398046511104:=Nat.le_trans (kB (Nat.gcd_le_right t (by omega))) uE
 have c1:=EK t b (oN ht) (oN uE)
 have c2:=uA t _ hg0 (oN ht) (oN hgl)
 have c3:=uA b _ hg0 (oN uE) (oN hgl)
 have c4:∀lo H K,_:=fun lo H K=>J0 (n:=Nat.gcd t b) (lo:=lo) (H:=H) (K:=K) (Nat.le_of_lt (oN hgl))
 have UO:bA (mkRat (kG neg t) b) = .agg [VB (neg&&decide (t / Nat.gcd t b≠0)),bY (t / Nat.gcd t b),bY (b / Nat.gcd t b)]:=by
  refine J4 ?_ (by rw[EO hb,nR]) (OS hb)
  rw[EO hb,OV,Bool.and_eq_true,decide_eq_true_eq]
 rw[UO]
 by_cases h1:eW (Nat.gcd t b) 1=0
 ·have hg1:=AF.1 h1
  have e1:t / Nat.gcd t b=t:=by rw[hg1,Nat.div_one]
  have e2:b / Nat.gcd t b=b:=by rw[hg1,Nat.div_one]
  rw[e1,e2]
  cases neg with
  |
   false =>
   simp only[mT,jO,c1,c4,h1,dU,aK,bF,aY,iR,Nat.reduceLeDiff,Nat.reduceLT,Nat.reduceSub,VX,Nat.reduceEqDiff,Nat.reduceAdd]
   exact oU
  |
   true =>
   by_cases h0:t=0
   ·have hl:¬(0:Int)<((aC 1000000000 t).length:Int):=by rw[qI];omega
    simp only[mT,jO,c1,c4,h1,hl,cN,dU,aK,bF,aY,iR,Nat.reduceLeDiff,Nat.reduceLT,Nat.reduceSub,VX,Nat.reduceEqDiff,Nat.reduceAdd]
    rw[h0]
    exact oU
   ·have hl:(0:Int)<((aC 1000000000 t).length:Int):=qI.2 h0
    simp only[mT,jO,c1,c4,h1,hl,cN,dU,aK,bF,aY,iR,Nat.reduceLeDiff,Nat.reduceLT,Nat.reduceSub,VX,Nat.reduceEqDiff,Nat.reduceAdd]
    rw[decide_eq_true h0]
    exact oU
 ·cases neg with
  |
   false =>
   simp only[mT,jO,c1,c2,c3,c4,h1,dU,aK,bF,aY,iR,Nat.reduceLeDiff,Nat.reduceLT,Nat.reduceSub,VX,Nat.reduceEqDiff,Nat.reduceAdd]
   exact oU
  |
   true =>
   generalize t / Nat.gcd t b=t' at *
   by_cases h0:t'=0
   ·have hl:¬(0:Int)<((aC 1000000000 t').length:Int):=by rw[qI];omega
    simp only[mT,jO,c1,c2,c3,c4,h1,hl,cN,dU,aK,bF,aY,iR,Nat.reduceLeDiff,Nat.reduceLT,Nat.reduceSub,VX,Nat.reduceEqDiff,Nat.reduceAdd]
    rw[h0]
    exact oU
   ·have hl:(0:Int)<((aC 1000000000 t').length:Int):=qI.2 h0
    simp only[mT,jO,c1,c2,c3,c4,h1,hl,cN,dU,aK,bF,aY,iR,Nat.reduceLeDiff,Nat.reduceLT,Nat.reduceSub,VX,Nat.reduceEqDiff,Nat.reduceAdd]
    rw[decide_eq_true h0]
    exact oU
theorem EH (n:Int) (h0 : -9223372036854775808<n) (h1:n≤9223372036854775807):TC 130 [VI n] (bA (n:Rat)):=by
 refine TC.walk ⟨true,false⟩ MN rfl (Nat.le_of_ble_eq_true rfl) rfl (rX _) ?_
 rw[Z2]
 by_cases h:n<0
 ·have w:IntKind.i64.wrap (0-n)=(n.natAbs:Int):=wrapN _ (by omega) (by omega)
  have c1:TC 178 [VI (n.natAbs:Int)] (bY n.natAbs):=qH (n.natAbs:Int) (by omega)
  rw[decide_eq_true h]
  simp only[Dl,zX,h,w,c1,dU,aK,bF,aY,fO,dT,fP,iR,Nat.reduceLeDiff,Nat.reduceLT,Nat.reduceSub,VX,Nat.reduceEqDiff,Nat.reduceAdd]
  exact qR (d:=6) (aaX rfl) (aJ (cI _)) (P9 (d:=5))
 ·have c1:TC 178 [VI n] (bY n.natAbs):=by
   have:=qH n h1
   rwa [show n.toNat=n.natAbs by omega] at this
  rw[decide_eq_false h]
  simp only[Dl,zX,h,c1,dU,aK,bF,aY,fO,dT,fP,iR,Nat.reduceLeDiff,Nat.reduceLT,Nat.reduceSub,VX,Nat.reduceEqDiff,Nat.reduceAdd]
  exact qR (d:=6) (aaX rfl) (aJ (cI _)) (P9 (d:=5))
theorem MO:TC 83 [] (bA 1):=by
 refine TC.walk ⟨true,false⟩ MS rfl (Nat.le_of_ble_eq_true rfl) rfl (rX _) ?_
 have c1:TC 130 [VI 1] (bA 1):=EH 1 (by decide) (by decide)
 simp only[I4,EC,c1,bZ,fF,mH,aK,iR,Nat.reduceLeDiff,Nat.reduceLT,Nat.reduceSub,VX,Nat.reduceEqDiff,Nat.reduceAdd]
 exact BC _
theorem wX:TC 77 [] (bA 0):=by
 refine TC.walk ⟨true,false⟩ Ll rfl (Nat.le_of_ble_eq_true rfl) rfl (rX _) ?_
 have c1:TC 130 [VI 0] (bA 0):=EH 0 (by decide) (by decide)
 simp only[FU,CQ,c1,bZ,fF,mH,aK,iR,Nat.reduceLeDiff,Nat.reduceLT,Nat.reduceSub,VX,Nat.reduceEqDiff,Nat.reduceAdd]
 exact BC _
theorem E2 (q:Rat):TC 157 [bA q] (bA (-q)):=by
 refine TC.walk ⟨true,false⟩ Fv rfl (Nat.le_of_ble_eq_true rfl) (by simp[aM,jL]) (rX _) ?_
 have hq:bA (-q) = .agg [VB (decide (0<q.num)),bY q.num.natAbs,bY q.den]:=J4 (by simp) (by simp) (by simp)
 rw[hq]
 by_cases h1:q.num<0
 ·have h2:¬0<q.num:=by omega
  simp only[oS,mM,cN,h1,h2,bZ,fQ,gH,gC,aK,bF,aY,iR,Nat.reduceLeDiff,Nat.reduceLT,Nat.reduceSub,VX,Nat.reduceEqDiff,Nat.reduceAdd]
  exact oU
 ·by_cases h0:q.num=0
  ·have hl:¬(0:Int)<((aC 1000000000 q.num.natAbs).length:Int):=by rw[qI];omega
   have h2:¬0<q.num:=by omega
   simp only[oS,mM,cN,hl,h1,h2,bZ,fQ,gH,gC,aK,bF,aY,iR,Nat.reduceLeDiff,Nat.reduceLT,Nat.reduceSub,VX,Nat.reduceEqDiff,Nat.reduceAdd]
   exact oU
  ·have hl:(0:Int)<((aC 1000000000 q.num.natAbs).length:Int):=by rw[qI];omega
   have h2:0<q.num:=by omega
   simp only[oS,mM,cN,hl,h1,h2,bZ,fQ,gH,gC,aK,bF,aY,iR,Nat.reduceLeDiff,Nat.reduceLT,Nat.reduceSub,VX,Nat.reduceEqDiff,Nat.reduceAdd]
   exact oU
theorem zU (a b:Rat) (Nc:aZ a≤1099511627776) (HC:aZ b≤1099511627776):TC 79 [bA a,bA b] (bA (a+b)):=by
 refine TC.walk ⟨true,false⟩ M6 rfl (Nat.le_of_ble_eq_true rfl) (by simp[aM,jL]) (rX _) ?_
 have la:=tR Nc
 have lb:=tR HC
 have lda:=tJ Nc
 have ldb:=tJ HC
 have hBn:=Nat.mul_ne_zero a.den_nz b.den_nz
 have m1:=gU a.num.natAbs b.den (Nat.le_of_lt (oN (by omega))) (Nat.le_of_lt (oN (by omega)))
 have m2:=gU b.num.natAbs a.den (Nat.le_of_lt (oN (by omega))) (Nat.le_of_lt (oN (by omega)))
 have m3:=gU a.den b.den (Nat.le_of_lt (oN (by omega))) (Nat.le_of_lt (oN (by omega)))
 have ea:mkRat (kG (decide (a.num<0)) (a.num.natAbs*b.den)) (a.den*b.den)=a:=DH a b.den_nz
 have eb:mkRat (kG (decide (b.num<0)) (b.num.natAbs*a.den)) (a.den*b.den)=b:=by rw[Nat.mul_comm a.den];exact DH b a.den_nz
 have k1:=nM a.num.natAbs b.den
 have k2:=nM b.num.natAbs a.den
 have k3:=nM a.den b.den
 obtain⟨p1,p2,p3⟩:=Hs hBn ea eb
 have hX:bl (a.num.natAbs*b.den)≤2199023255552:=by omega
 have hY:bl (b.num.natAbs*a.den)≤2199023255552:=by omega
 have hB:bl (a.den*b.den)≤4398046511104:=by omega
 generalize a.num.natAbs*b.den=X at *
 generalize b.num.natAbs*a.den=Y at *
 generalize a.den*b.den=B at *
 have f1:=HO X Y (oN (by omega)) (oN (by omega))
 have f2:=uH X Y (Nat.le_of_lt (oN (by omega))) (Nat.le_of_lt (oN (by omega)))
 have hS:bl (X+Y)≤4398046511104:=Nat.le_trans (Ug hX hY) (by decide)
 have hD1:bl (X-Y)≤4398046511104:=Nat.le_trans (kB (Nat.sub_le _ _)) (by omega)
 have hD2:bl (Y-X)≤4398046511104:=Nat.le_trans (kB (Nat.sub_le _ _)) (by omega)
 have f5:=fun neg=>sO neg (X+Y) B hBn hS hB
 have f6:=fun neg=>sO neg (X-Y) B hBn hD1 hB
 have f7:=fun neg=>sO neg (Y-X) B hBn hD2 hB
 by_cases hn:decide (a.num<0)=decide (b.num<0)
 ·have RF:(decide (a.num<0) == decide (b.num<0))=true:=by simpa using hn
  rw[←p1 hn]
  simp only[zC,uB,m1,m2,m3,f1,f5,Ag,oL,RF,bZ,fF,fQ,gH,gC,mH,aK,bF,aY,iR,Nat.reduceLeDiff,Nat.reduceLT,Nat.reduceSub,VX,Nat.reduceEqDiff,Nat.reduceAdd]
  exact BC _
 ·have RF:(decide (a.num<0) == decide (b.num<0))=false:=by simpa using hn
  by_cases hx:(0:Int)≤eW X Y
  ·have hle:Y≤X:=by have := @uF X Y;omega
   have c3:=yX X Y hle (Nat.le_of_lt (oN (by omega)))
   rw[←p2 hn hle]
   simp only[zC,uB,m1,m2,m3,f2,c3,f6,hx,Ag,oL,RF,bZ,fF,fQ,gH,gC,mH,aK,bF,aY,iR,Nat.reduceLeDiff,Nat.reduceLT,Nat.reduceSub,VX,Nat.reduceEqDiff,Nat.reduceAdd]
   exact BC _
  ·have hle:X≤Y:=by have := @uF X Y;omega
   have c3:=yX Y X hle (Nat.le_of_lt (oN (by omega)))
   rw[←p3 hn hle]
   simp only[zC,uB,m1,m2,m3,f2,c3,f7,hx,Ag,oL,RF,bZ,fF,fQ,gH,gC,mH,aK,bF,aY,iR,Nat.reduceLeDiff,Nat.reduceLT,Nat.reduceSub,VX,Nat.reduceEqDiff,Nat.reduceAdd]
   exact BC _
theorem JO (a b:Rat) (Nc:aZ a≤1099511627776) (HC:aZ b≤1099511627776):TC 82 [bA a,bA b] (bA (a-b)):=by
 refine TC.walk ⟨true,false⟩ Jx rfl (Nat.le_of_ble_eq_true rfl) (by simp[aM,jL]) (rX _) ?_
 have c1:=E2 b
 have c2:=zU a (-b) Nc (by rw[Io];exact HC)
 rw[←Rat.sub_eq_add_neg] at c2
 simp only[Ek,BT,c1,c2,bZ,fF,mH,aK,bF,aY,iR,Nat.reduceLeDiff,Nat.reduceLT,Nat.reduceSub,VX,Nat.reduceEqDiff,Nat.reduceAdd]
 exact BC _
theorem afP (a b:Int):kG (decide (a<0) != decide (b<0)) (a.natAbs*b.natAbs)=a*b:=by
 rcases Int.lt_trichotomy a 0 with h1 | h1 | h1<;>rcases Int.lt_trichotomy b 0 with h2 | h2 | h2
 ·rw[decide_eq_true h1,decide_eq_true h2]
  simp only[kG,bne_self_eq_false,Bool.false_eq_true,if_false,Int.natCast_mul]
  rw[show (a.natAbs:Int) = -a by omega,show (b.natAbs:Int) = -b by omega,Int.neg_mul_neg]
 ·subst h2;simp[xN]
 ·rw[decide_eq_true h1,decide_eq_false (show ¬b<0 by omega)]
  simp only[kG,Bool.true_bne,Bool.not_false,if_true,Int.natCast_mul]
  rw[show (a.natAbs:Int) = -a by omega,show (b.natAbs:Int)=b by omega,Int.neg_mul,Int.neg_neg]
 ·subst h1;simp[xN]
 ·subst h1;simp[xN]
 ·subst h1;simp[xN]
 ·rw[decide_eq_false (show ¬a<0 by omega),decide_eq_true h2]
  simp only[kG,Bool.false_bne,if_true,Int.natCast_mul]
  rw[show (a.natAbs:Int)=a by omega,show (b.natAbs:Int) = -b by omega,Int.mul_neg,Int.neg_neg]
 ·subst h2;simp[xN]
 ·rw[decide_eq_false (show ¬a<0 by omega),decide_eq_false (show ¬b<0 by omega)]
  simp only[kG,bne_self_eq_false,Bool.false_eq_true,if_false,Int.natCast_mul]
  rw[show (a.natAbs:Int)=a by omega,show (b.natAbs:Int)=b by omega]
theorem Ti {a b:Rat} (hb:b≠0):mkRat (kG (decide (a.num<0) != decide (b.num<0)) (a.num.natAbs*b.den)) (a.den*b.num.natAbs)=a / b:=by
 have hn:b.num≠0:=fun h=>hb (Rat.num_eq_zero.1 h)
 have i1:b⁻¹.num=b.num.sign*b.den:=Rat.num_inv b
 have i2:b⁻¹.den=b.num.natAbs:=by rw[Rat.den_inv,if_neg hn]
 have hd:(0:Int)<b.den:=by have:=b.den_nz;omega
 have i3:b⁻¹.num.natAbs=b.den:=by
  rw[i1,Int.natAbs_mul,Int.natAbs_natCast]
  rcases Int.lt_or_gt_of_ne hn with h1 | h1
  ·rw[Int.sign_eq_neg_one_of_neg h1];simp
  ·rw[Int.sign_eq_one_of_pos h1];simp
 have i4:decide (b⁻¹.num<0)=decide (b.num<0):=by
  rw[i1]
  rcases Int.lt_or_gt_of_ne hn with h1 | h1
  ·rw[Int.sign_eq_neg_one_of_neg h1,decide_eq_true h1];simp;omega
  ·rw[Int.sign_eq_one_of_pos h1,decide_eq_false (show ¬b.num<0 by omega)];simp
 rw[Rat.div_def,Rat.mul_def',←afP,i2,i3,i4]
theorem L5 (a b:Rat) (hb:b≠0) (Nc:aZ a≤1099511627776) (HC:aZ b≤1099511627776):TC 81 [bA a,bA b] (bA (a / b)):=by
 refine TC.walk ⟨true,false⟩ Km rfl (Nat.le_of_ble_eq_true rfl) (by simp[aM,jL]) (rX _) ?_
 have hn:b.num≠0:=fun h=>hb (Rat.num_eq_zero.1 h)
 have la:=tR Nc
 have lb:=tR HC
 have lda:=tJ Nc
 have ldb:=tJ HC
 have k1:=nM a.num.natAbs b.den
 have k3:=nM a.den b.num.natAbs
 have m1:=gU a.num.natAbs b.den (Nat.le_of_lt (oN (by omega))) (Nat.le_of_lt (oN (by omega)))
 have m3:=gU a.den b.num.natAbs (Nat.le_of_lt (oN (by omega))) (Nat.le_of_lt (oN (by omega)))
 have c1:=sO (decide (a.num<0) != decide (b.num<0)) (a.num.natAbs*b.den) (a.den*b.num.natAbs) (Nat.mul_ne_zero a.den_nz (by omega)) (by omega) (by omega)
 rw[Ti hb] at c1
 simp only[G3,Dp,m1,m3,c1,oL,bZ,fF,fQ,gH,gC,mH,aK,bF,aY,iR,Nat.reduceLeDiff,Nat.reduceLT,Nat.reduceSub,VX,Nat.reduceEqDiff,Nat.reduceAdd]
 exact BC _
theorem LP (q:Rat):TC 59 [bA q] (VB (decide (q=0))):=by
 refine TC.walk ⟨true,false⟩ Mf rfl (Nat.le_of_ble_eq_true rfl) (by simp[aM,jL]) rfl ?_
 by_cases h0:q=0
 ·have hl:(((aC 1000000000 q.num.natAbs).length:Nat):Int)=0:=by rw[h0];simp[cB]
  simp only[Be,xG,cN,hl,bZ,fQ,gH,gC,aK,bF,aY,iR,Nat.reduceLeDiff,Nat.reduceLT,Nat.reduceSub,VX,Nat.reduceEqDiff,Nat.reduceAdd]
  rw[decide_eq_true h0]
  exact aI rfl
 ·have hn:q.num≠0:=fun h=>h0 (Rat.num_eq_zero.1 h)
  have hl:¬(((aC 1000000000 q.num.natAbs).length:Nat):Int)=0:=by have := @qI q.num.natAbs;omega
  simp only[Be,xG,cN,hl,bZ,fQ,gH,gC,aK,bF,aY,iR,Nat.reduceLeDiff,Nat.reduceLT,Nat.reduceSub,VX,Nat.reduceEqDiff,Nat.reduceAdd]
  rw[decide_eq_false h0]
  exact aI rfl
theorem MM (q:Rat):TC 111 [bA q] (VB (decide (q.num<0))):=by
 refine TC.walk ⟨true,false⟩ MQ rfl (Nat.le_of_ble_eq_true rfl) (by simp[aM,jL]) rfl ?_
 simp only[I1,EA,bZ,fQ,aK,iR,Nat.reduceLeDiff,Nat.reduceLT,Nat.reduceSub,VX,Nat.reduceEqDiff,Nat.reduceAdd]
 exact aI rfl
end Go.PM
namespace Go.PM
open Go.Lib
theorem agN {m n:Nat} (h:decDigits m=decDigits n):m=n:=by
 have key:∀k m n:Nat,m<10^(k+1)→decDigits m=decDigits n→m=n:=by
  intro k
  induction k with
  |
   zero =>
   intro m n hm h
   rw[iL (by omega)] at h
   by_cases hn:n<10
   ·rw[iL hn] at h
    have h1:=List.singleton_inj.1 h
    unfold d10 at h1
    have:=congrArg UInt8.toNat h1
    simp at this
    omega
   ·rw[zE hn] at h
    have:=congrArg List.length h
    have h2:=List.length_pos_iff.2 (Pe (n / 10))
    simp only[List.length_append,List.length_cons,List.length_nil] at this
    omega
  |
   succ k ih =>
   intro m n hm h
   by_cases h1:m<10
   ·rw[iL h1] at h
    by_cases hn:n<10
    ·rw[iL hn] at h
     have h1:=List.singleton_inj.1 h
     unfold d10 at h1
     have:=congrArg UInt8.toNat h1
     simp at this
     omega
    ·rw[zE hn] at h
     have:=congrArg List.length h
     have h2:=List.length_pos_iff.2 (Pe (n / 10))
     simp only[List.length_append,List.length_cons,List.length_nil] at this
     omega
   ·rw[zE h1] at h
    by_cases hn:n<10
    ·rw[iL hn] at h
     have:=congrArg List.length h
     have h2:=List.length_pos_iff.2 (Pe (m / 10))
     simp only[List.length_append,List.length_cons,List.length_nil] at this
     omega
    ·rw[zE hn] at h
     obtain⟨h2,h3⟩:=List.append_inj' h rfl
     have h4:=ih (m / 10) (n / 10) (by rw[Nat.pow_succ] at hm;omega) h2
     have h5:=List.singleton_inj.1 h3
     unfold d10 at h5
     have:=congrArg UInt8.toNat h5
     simp at this
     omega
 exact key m m n (Nat.lt_trans (Nat.lt_pow_self (by decide)) (Nat.pow_lt_pow_right (by decide) (Nat.lt_succ_self m))) h
def Eg (q:Rat):List UInt8:=(if q.num<0 then [45] else [])++decDigits q.num.natAbs++(if q.den=1 then [] else 47::decDigits q.den)
def vP (q:Rat):Bool:=decide ((decDigits q.num.natAbs).length≤200)&&decide ((decDigits q.den).length≤200)
theorem AY (n:Nat):(decDigits n).length≤bl n+1:=by
 by_cases h:n=0
 ·subst h;rw[iL (by decide)];simp
 ·have h1:=ZQ h
  obtain⟨k,hk⟩:∃k,bl n=k+1:=⟨bl n-1,by omega⟩
  have h2:=Nn n
  rw[hk] at h2 ⊢
  have h3:2^(k+1)≤10^(k+1):=Nat.pow_le_pow_left (by decide) _
  have:=yH n k (by omega)
  omega
end Go.PM
namespace Go.PM
open Go.Lib
theorem P4 (a b:List UInt8):dH .neq (.string ⟨a.toArray⟩) (.string ⟨b.toArray⟩)=some (.bool (!decide (a=b))):=by
 have h:∀l:List UInt8,(ByteArray.toList ⟨l.toArray⟩)=l:=fun l=>by rw[ByteArray.toList_eq]
 show some (Value.bool (!(ByteArray.toList ⟨a.toArray⟩ == ByteArray.toList ⟨b.toArray⟩)))=_
 rw[h,h]
 congr 3
 cases h2:a == b
 ·rw[decide_eq_false (by simpa using h2)]
 ·rw[decide_eq_true (by simpa using h2)]
theorem Wm (a b:List UInt8):dH .eql (.string ⟨a.toArray⟩) (.string ⟨b.toArray⟩)=some (.bool (decide (a=b))):=by
 have h:∀l:List UInt8,(ByteArray.toList ⟨l.toArray⟩)=l:=fun l=>by rw[ByteArray.toList_eq]
 show some (Value.bool (ByteArray.toList ⟨a.toArray⟩ == ByteArray.toList ⟨b.toArray⟩))=_
 rw[h,h]
 congr 2
 cases h2:a == b
 ·rw[decide_eq_false (by simpa using h2)]
 ·rw[decide_eq_true (by simpa using h2)]
theorem LH {n:Nat}:(decDigits n=[49])↔n=1:=by
 have e:decDigits 1=[49]:=by rw[iL (by decide)];rfl
 rw[←e]
 exact⟨agN,fun h=>by rw[h]⟩
theorem JH (q:Rat) (hk:aZ q≤1099511627776):TC 180 [aQ q] (.eX [bB (Eg q),VB (vP q)]):=by
 refine TC.walk ⟨true,false⟩ GK rfl (Nat.le_of_ble_eq_true rfl) (by simp[aM,gR]) rfl ?_
 have la:=tR hk
 have lb:=tJ hk
 have t1:=B5 q.num.natAbs (aqI (by omega))
 have t2:=B5 q.den (aqI (by omega))
 have d1:=AY q.num.natAbs
 have d2:=AY q.den
 have a1:dH .add (.string ⟨#[45]⟩) (.string ⟨(decDigits q.num.natAbs).toArray⟩)=some (.string ⟨(45::decDigits q.num.natAbs).toArray⟩):=qP [45] _ (by simp only[List.length_cons,List.length_nil];omega)
 have a2:dH .add (.string ⟨#[47]⟩) (.string ⟨(decDigits q.den).toArray⟩)=some (.string ⟨(47::decDigits q.den).toArray⟩):=qP [47] (decDigits q.den) (by simp only[List.length_cons,List.length_nil];omega)
 have a3:=qP (45::decDigits q.num.natAbs) (47::decDigits q.den) (by simp only[List.length_cons];omega)
 have a4:=qP (decDigits q.num.natAbs) (47::decDigits q.den) (by simp only[List.length_cons];omega)
 have ne:dH .neq (.string ⟨(decDigits q.den).toArray⟩) (.string ⟨#[49]⟩)=_:=P4 (decDigits q.den) [49]
 have hf:vP q=(decide (((decDigits q.num.natAbs).length:Int)≤200)&&decide (((decDigits q.den).length:Int)≤200)):=by
  unfold vP
  congr 1<;>exact decide_eq_decide.2 (by omega)
 rw[hf]
 have hs:Eg q=(if q.num<0 then (45::decDigits q.num.natAbs) else decDigits q.num.natAbs)++(if q.den=1 then [] else 47::decDigits q.den):=by
  unfold Eg
  by_cases hn:q.num<0
  ·rw[if_pos hn,if_pos hn];rfl
  ·rw[if_neg hn,if_neg hn];rfl
 rw[hs]
 by_cases hd:q.den=1
 ·rw[decide_eq_true (LH.2 hd)] at ne
  rw[if_pos hd,List.append_nil]
  by_cases hn:q.num<0<;>by_cases hl:((decDigits q.num.natAbs).length:Int)≤200
  all_goals
   simp only[vA,sN,t1,t2,a1,a2,a3,a4,ne,hn,hl,bM,aF,dK,jC,jB,lJ,dD,aU,aV,aO,iR,Nat.reduceLeDiff,Nat.reduceLT,Nat.reduceSub,VX,Nat.reduceEqDiff,Nat.reduceAdd]
   exact aI rfl
 ·rw[decide_eq_false (mt LH.1 hd)] at ne
  rw[if_neg hd]
  by_cases hn:q.num<0<;>by_cases hl:((decDigits q.num.natAbs).length:Int)≤200
  all_goals
   simp only[vA,sN,t1,t2,a1,a2,a3,a4,ne,hn,hl,bM,aF,dK,jC,jB,lJ,dD,aU,aV,aO,iR,Nat.reduceLeDiff,Nat.reduceLT,Nat.reduceSub,VX,Nat.reduceEqDiff,Nat.reduceAdd]
   exact aI rfl
def Rn (q:Rat):VV:=if vP q=true then .eX [bB (Eg q),VB true] else .eX [bB [],VB false]
theorem XP (q:Rat):iD (Rn q)=true:=by unfold Rn;split<;>rfl
end Go.PM
namespace Go.PM
open Go.Lib
abbrev bV (b:UInt8):VV := .sc (.int .u8 (b.toNat:Int))
theorem KX:∀bs:List UInt8,Iv (bs.map bV)=some bs
 | []=>rfl
 |
  b::bs=>by
  rw[List.map_cons]
  show (Iv (bs.map bV)).map (UInt8.ofNat ((b.toNat:Int)).toNat :: ·)=_
  rw[KX bs]
  simp
structure Fy (v:VV) (H:aA) (bs:List UInt8):Prop where
 len:oK v H=some (VI bs.length)
 src:cT 1 v H=some (bs.map bV)
 nsc:∀x,v ≠ .sc x
theorem Fy.str {v:VV} {H:aA} {bs:List UInt8} (h:Fy v H bs) {fl:Fl} {lo:Nat} {x:Operand} {ρ:dS} (hx:eH ρ x=v):vop fl lo (.b2s x) ρ H=some (bB bs,H):=by
 have h1:=h.nsc
 have h2:=h.src
 unfold vop
 dsimp only
 rw[hx]
 cases v with
 | sc x=>exact absurd rfl (h1 x)
 | _=>simp only[h2,KX,Option.map_some]
theorem Yj {bs:List UInt8} {k:TK} {H:aA}:cT 1 (.tree (bs.map bV) k) H=some (bs.map bV):=by
 have:((bs.map bV).all fun x=>(aB x).length == 1&&(aB x).all bP)=true:=by
  rw[List.all_eq_true]
  intro x hx
  obtain⟨d,_,rfl⟩:=List.mem_map.1 hx
  rfl
 simp only[cT,this,if_true]
theorem Fy.tree {bs:List UInt8} {k:TK} {H:aA}:Fy (.tree (bs.map bV) k) H bs:=⟨dV,Yj,fun x=>by simp⟩
theorem Fy.row {bs:List UInt8} {H:aA} {b g:Nat} {w:Bool} (h:aH H b g=some (bs.map bV,1,w)):Fy (.ref b g 0 bs.length bs.length) H bs:=by
 refine⟨fL h,?_,fun x=>by simp⟩
 have pE:(((bs.map bV).drop 0).take bs.length).all (fun x=>(aB x).all bP)=true:=by
  rw[List.all_eq_true]
  intro x hx
  obtain⟨d,_,rfl⟩:=List.mem_map.1 (List.mem_of_mem_drop (List.mem_of_mem_take hx))
  rfl
 simp only[cT,h]
 rw[if_pos ⟨trivial,by simp,pE⟩,List.drop_zero,List.take_of_length_le (by simp)]
theorem Fy.cons {v:VV} {H:aA} {bs:List UInt8} (h:Fy v H bs) (x:UInt8) (hl:bs.length≤1000000) (lo:Nat):∃v' H',eJ lo 1 1 (.tree [bV x] (.cl 1)) (bs.map bV) H=some (v',H')∧Fy v' H' (x::bs):=by
 by_cases hb:bs=[]
 ·subst hb
  exact⟨_,_,rfl,Fy.tree (bs:=[x])⟩
 ·have fC:bs.length≠0:=fun h=>hb (List.length_eq_zero_iff.1 h)
  refine⟨.ref H.length 0 0 (x::bs).length (x::bs).length,H++[.row 0 ((x::bs).map bV) 1 true],?_,Fy.row (abH rfl)⟩
  simp only[eJ,List.length_map]
  rw[if_pos ⟨by decide,by decide⟩,if_pos trivial,if_neg fC,if_pos (by simp;omega)]
  simp[Nat.add_comm]
theorem RQ (r:Int):dH .rem (.int .i64 r) (.int .i64 10)=some (.int .i64 (r.tmod 10)):=rfl
theorem aiR (r:Int) (h0 : -9223372036854775808≤r) (h1:r≤9223372036854775807):dH .quo (.int .i64 r) (.int .i64 10)=some (.int .i64 (r.tdiv 10)):=by
 show some (Value.int .i64 (IntKind.i64.wrap (r.tdiv 10)))=_
 have h2:(r.tdiv 10).natAbs=r.natAbs / 10:=by rw[Int.natAbs_tdiv];rfl
 rw[wrap64 (by omega) (by omega)]
theorem NK {d:Nat} (h:d<10):(d10 d).toNat=48+d:=by
 unfold d10
 simp
 omega
theorem HR {n r:Nat} {bs:List UInt8} (h:decDigits n=decDigits r++bs):decDigits n=lQ (r / 10)++d10 (r % 10)::bs:=by
 rw[h]
 by_cases hr:r<10
 ·rw[iL hr,lQ,if_pos (by omega),Nat.mod_eq_of_lt hr];rfl
 ·rw[zE hr,lQ,if_neg (by omega),List.append_assoc];rfl
theorem MF (n:Int) (h0 : -9223372036854775808≤n) (h1:n≤9223372036854775807):TC 219 [VI n] (bB ((if n<0 then [45] else [])++decDigits n.natAbs)):=by
 refine TC.walk ⟨true,false⟩ MD rfl (Nat.le_of_ble_eq_true rfl) rfl rfl ?_
 have e0:∀lr,jQ lr [.int .u8 0] 0 [] []=some (.ref 0 0 0 0 0,[.row 0 (([]:List UInt8).map bV) 1 true]):=fun lr=>iC (H:=[]) rfl
 have e1:∀(x:UInt8) (H:aA),jQ false [.int .u8 0] 1 [(0,bV x)] H=some (.tree [bV x] (.cl 1),H):=fun x H=>gD rfl rfl rfl
 have hdl:=yH n.natAbs 19 (by omega)
 simp only[Jh,EJ,e0,VX,Nat.reduceEqDiff,Nat.reduceAdd]
 refine aT (fun(s:Int×List UInt8) ρ H => -9223372036854775808≤s.1∧s.1≤9223372036854775807∧(s.2=[]→s.1=n)∧(s.2≠[]→decDigits n.natAbs=lQ s.1.natAbs++s.2)∧Fy (ρ 3) H s.2∧ρ 0=VI n∧ρ 4=VI s.1) (fun s=>s.1.natAbs+(if s.2=[] then 1 else 0)) (n,[]) ⟨h0,h1,fun _=>rfl,fun h=>absurd rfl h,by simp only[VX,Nat.reduceEqDiff,Nat.reduceAdd];exact Fy.row (bs:=[]) aS,rfl,rfl⟩ ?_
 rintro⟨r,bs⟩ ρ H ⟨uK,FB,hn,hd,ho,g0,g4⟩
 simp only at uK FB hn hd ho g4
 generalize hv3:ρ 3=v3 at ho
 have hlen:=ho.len
 have AS:=ho.src
 by_cases K2:bs≠[]∧r=0
 ·obtain⟨hb,hr⟩:=K2
  subst hr
  have hl:¬(bs.length:Int)=0:=by have:=List.length_pos_iff.2 hb;omega
  have YP:=hd hb
  simp only[lQ,Int.natAbs_zero,if_true,List.nil_append] at YP
  by_cases oV:n<0
  ·obtain⟨v',H',ap,ho'⟩:=ho.cons 45 (by rw[←YP];omega) 0
   have Vn:jQ false [.int .u8 0] 1 [(0,.sc (.int .u8 45))] H=some (.tree [bV 45] (.cl 1),H):=e1 45 H
   have bs2:=fun bJ (h:eH bJ (.tmp 34)=v')=>ho'.str (fl:=⟨true,false⟩) (lo:=0) h
   simp only[jS,g0,g4,hv3,hlen,hl,VX,Nat.reduceEqDiff,Nat.reduceAdd]
   simp only[g0,oV,hv3,Vn,AS,ap,Pq,VX,Nat.reduceEqDiff,Nat.reduceAdd]
   rw[bs2 _ (by rfl)]
   simp only[VX,Nat.reduceEqDiff,Nat.reduceAdd]
   rw[YP]
   exact aI rfl
  ·have bs2:=fun bJ (h:eH bJ (.tmp 34)=v3)=>ho.str (fl:=⟨true,false⟩) (lo:=0) h
   simp only[jS,g0,g4,hv3,hlen,hl,VX,Nat.reduceEqDiff,Nat.reduceAdd]
   simp only[g0,oV,hv3,Pq,VX,Nat.reduceEqDiff,Nat.reduceAdd]
   rw[bs2 _ (by simp only[VX,Nat.reduceEqDiff,Nat.reduceAdd];try exact hv3)]
   simp only[VX,Nat.reduceEqDiff,Nat.reduceAdd]
   rw[YP]
   exact aI rfl
 ·have hm:r.tmod 10=if r<0 then -((r.natAbs % 10:Nat):Int) else ((r.natAbs % 10:Nat):Int):=by
   have:=Int.tmod_eq_emod_of_nonneg (a:=r) (b:=10)
   by_cases h:r<0
   ·rw[if_pos h]
    have h2:=Int.neg_tmod (-r) 10
    rw[Int.neg_neg] at h2
    rw[h2,Int.tmod_eq_emod_of_nonneg (by omega)]
    omega
   ·rw[if_neg h,this (by omega)]
    omega
  have hq:(r.tdiv 10).natAbs=r.natAbs / 10:=by rw[Int.natAbs_tdiv];rfl
  have hmd:=Nat.mod_lt r.natAbs (show 0<10 by decide)
  have q1:=aiR r uK FB
  have uE:bs.length≤19:=by
   by_cases hb:bs=[]
   ·subst hb;simp
   ·have h2:=hd hb
    have h3:=congrArg List.length h2
    rw[List.length_append] at h3
    have h4:r≠0:=fun h=>K2 ⟨hb,h⟩
    have h5:=List.length_pos_iff.2 (Pe r.natAbs)
    rw[lQ,if_neg (by omega)] at h3
    omega
  obtain⟨v',H',ap,ho'⟩:=ho.cons (d10 (r.natAbs % 10)) (by omega) 0
  have w2:IntKind.i64.wrap (48+((r.natAbs % 10:Nat):Int))=((48+r.natAbs % 10:Nat):Int):=wrapN _ (by omega) (by omega)
  have w3:IntKind.u8.wrap ((48+r.natAbs % 10:Nat):Int)=((48+r.natAbs % 10:Nat):Int):=by
   simp[IntKind.wrap,IntKind.bits,IntKind.signed]
   omega
  have hx:VV.sc (.int .u8 ((48+r.natAbs % 10:Nat):Int))=bV (d10 (r.natAbs % 10)):=by rw[bV,NK hmd]
  have Vn:=e1 (d10 (r.natAbs % 10)) H
  rw[←hx] at Vn ap
  have next:∃s':Int×List UInt8,s'.1.natAbs+(if s'.2=[] then 1 else 0)<r.natAbs+(if bs=[] then 1 else 0) ∧ -9223372036854775808≤s'.1∧s'.1≤9223372036854775807∧(s'.2=[]→s'.1=n)∧(s'.2≠[]→decDigits n.natAbs=lQ s'.1.natAbs++s'.2)∧Fy v' H' s'.2∧r.tdiv 10=s'.1:=by
   refine⟨(r.tdiv 10,d10 (r.natAbs % 10)::bs),?_,by simp only;omega,by simp only;omega,fun h=>(by simp at h),fun _ => ?_,ho',rfl⟩
   ·simp only[hq,List.cons_ne_nil,if_false]
    by_cases hb:bs=[]
    ·rw[if_pos hb];omega
    ·have h4:r≠0:=fun h=>K2 ⟨hb,h⟩
     rw[if_neg hb];omega
   ·simp only[hq]
    by_cases hb:bs=[]
    ·subst hb
     refine HR ?_
     rw[hn rfl,List.append_nil]
    ·have h4:r≠0:=fun h=>K2 ⟨hb,h⟩
     have h2:=hd hb
     rw[lQ,if_neg (by omega)] at h2
     exact HR h2
  by_cases hrn:r.tmod 10<0
  ·have w1:IntKind.i64.wrap (0-r.tmod 10)=((r.natAbs % 10:Nat):Int):=by
    have:r.tmod 10 = -((r.natAbs % 10:Nat):Int):=by
     by_cases h:r<0
     ·rw[if_pos h] at hm;exact hm
     ·rw[if_neg h] at hm;omega
    rw[this]
    exact wrapN _ (by omega) (by omega)
   by_cases hb:bs=[]
   ·have hl:(bs.length:Int)=0:=by rw[hb];rfl
    simp only[jS,g0,g4,hv3,hlen,hl,RQ,q1,hrn,w1,w2,w3,Vn,AS,ap,VX,Nat.reduceEqDiff,Nat.reduceAdd]
    obtain⟨s',n1,n2,n3,n4,n5,n6,n7⟩:=next
    exact⟨s',n1,n2,n3,n4,n5,n6,by rw[n7]⟩
   ·have hl:¬(bs.length:Int)=0:=by have:=List.length_pos_iff.2 hb;omega
    have hr:¬r=0:=fun h=>K2 ⟨hb,h⟩
    simp only[jS,g0,g4,hv3,hlen,hl,hr,RQ,q1,hrn,w1,w2,w3,Vn,AS,ap,VX,Nat.reduceEqDiff,Nat.reduceAdd]
    obtain⟨s',n1,n2,n3,n4,n5,n6,n7⟩:=next
    exact⟨s',n1,n2,n3,n4,n5,n6,by rw[n7]⟩
  ·have hmm:r.tmod 10=((r.natAbs % 10:Nat):Int):=by
    rw[hm] at hrn ⊢
    split
    ·rename_i h;rw[if_pos h] at hrn;omega
    ·rfl
   have apG:¬((r.natAbs % 10:Nat):Int)<0:=by omega
   by_cases hb:bs=[]
   ·have hl:(bs.length:Int)=0:=by rw[hb];rfl
    simp only[jS,g0,g4,hv3,hlen,hl,RQ,hmm,q1,apG,w2,w3,Vn,AS,ap,VX,Nat.reduceEqDiff,Nat.reduceAdd]
    obtain⟨s',n1,n2,n3,n4,n5,n6,n7⟩:=next
    exact⟨s',n1,n2,n3,n4,n5,n6,by rw[n7]⟩
   ·have hl:¬(bs.length:Int)=0:=by have:=List.length_pos_iff.2 hb;omega
    have hr:¬r=0:=fun h=>K2 ⟨hb,h⟩
    simp only[jS,g0,g4,hv3,hlen,hl,hr,RQ,hmm,q1,apG,w2,w3,Vn,AS,ap,VX,Nat.reduceEqDiff,Nat.reduceAdd]
    obtain⟨s',n1,n2,n3,n4,n5,n6,n7⟩:=next
    exact⟨s',n1,n2,n3,n4,n5,n6,by rw[n7]⟩
end Go.PM
namespace Go.PM
abbrev ZT (c:List (List ByteArray)):VV := .agg [sX c]
theorem Aq (c:List (List ByteArray)):aP (ZT c)=true:=by
 show aM [sX c]=true
 simp only[aM,Bo,Bool.and_self]
theorem OU {c:List (List ByteArray)}:dC false 1 (ZT c) 0=some (sX c):=rfl
def CY (n:Nat) (H:aA) (bare:Bool) (c:List (List ByteArray)) (r:VV):Prop:=∃c0,r = .agg [c0]∧xJ n H bare c c0
theorem CY.cK {n:Nat} {H H':aA} {bare:Bool} {s:List (List ByteArray)} {c:VV} (h:CY n H bare s c) (hk:∀b g x,n<b→aH H b g=some x→aH H' b g=some x):CY n H' bare s c:=by
 obtain⟨c0,rfl,h0⟩:=h
 exact⟨c0,rfl,h0.cK hk⟩
theorem CY.pre {n:Nat} {H H':aA} {bare:Bool} {s:List (List ByteArray)} {c:VV} (h:CY n H bare s c) (hh:H <+: H'):CY n H' bare s c:=h.cK fun _ _ _ _=>cS hh
theorem CY.fz {n:Nat} {H:aA} {bare:Bool} {s:List (List ByteArray)} {c:VV} (h:CY n H bare s c):PM.fz depth H c=some (ZT s):=by
 obtain⟨c0,rfl,h0⟩:=h
 have f0:=h0.fz (d:=4)
 have e:PM.fz (7+1) H (.agg [c0])=if aP (.agg [c0])=true then some (.agg [c0]) else ([c0].mapM (PM.fz 7 H)).map .agg:=rfl
 show PM.fz (7+1) H (.agg [c0])=_
 rw[e]
 by_cases hp:aP (.agg [c0])=true
 ·rw[if_pos hp]
  have hu:aP c0=true:=by simpa[aP,aM] using hp
  rw[aJ hu] at f0
  cases f0
  rfl
 ·rw[if_neg hp,List.mapM_cons,f0]
  rfl
end Go.PM
namespace Go.PM
open Go.Lib
def iB (c:UInt8):Bool:=decide (48≤c.toNat)&&decide (c.toNat≤57)
def dv (c:UInt8):Nat:=c.toNat-48
def Lh (a:Nat) (l:List UInt8):Nat:=l.foldl (fun a c=>a*10+dv c) a
def bX (l:List UInt8):Nat:=Lh 0 l
theorem VA (l:List UInt8):∀a,Lh a l=a*10^l.length+bX l:=by
 induction l with
 | nil=>intro a;simp[Lh,bX]
 |
  cons c l ih =>
  intro a
  have h1:Lh a (c::l)=Lh (a*10+dv c) l:=rfl
  have h2:bX (c::l)=Lh (0*10+dv c) l:=rfl
  rw[h1,h2,ih,ih (0*10+dv c),List.length_cons,Nat.pow_succ]
  grind
theorem Lo (a b:List UInt8):bX (a++b)=bX a*10^b.length+bX b:=by
 have:bX (a++b)=Lh (bX a) b:=by unfold bX Lh;rw[List.foldl_append]
 rw[this,VA]
theorem Lj:bX []=0:=rfl
theorem XF (a:List UInt8) (c:UInt8):bX (a++[c])=bX a*10+dv c:=by
 rw[Lo]
 simp[bX,Lh]
theorem aiJ {c:UInt8} (h:iB c=true):dv c<10:=by
 simp only[iB,Bool.and_eq_true,decide_eq_true_eq] at h
 unfold dv
 omega
theorem GR:∀ {l:List UInt8},l.all iB=true→bX l<10^l.length:=by
 intro l
 induction l with
 | nil=>intro _;decide
 |
  cons c l ih =>
  intro h
  rw[List.all_cons,Bool.and_eq_true] at h
  have h1:=aiJ h.1
  have h2:=ih h.2
  have h3:bX (c::l)=Lh (0*10+dv c) l:=rfl
  rw[h3,VA,List.length_cons,Nat.pow_succ]
  have h4:(0*10+dv c)*10^l.length≤9*10^l.length:=Nat.mul_le_mul_right _ (by omega)
  omega
theorem akY {M:Nat} (hM:1000000000000000000≤M):∀(l:List UInt8) (k acc:Nat),l.all iB=true→acc<10^k→k+l.length≤18→parseUintM M acc l = .ok (Lh acc l):=by
 intro l
 induction l with
 | nil=>intro k acc _ _ _;rfl
 |
  cons c l ih =>
  intro k acc h hk hl
  rw[List.all_cons,Bool.and_eq_true] at h
  have h1:=aiJ h.1
  have h0:=h.1
  simp only[iB,Bool.and_eq_true,decide_eq_true_eq] at h0
  rw[List.length_cons] at hl
  have h18:acc<10^17:=Nat.lt_of_lt_of_le hk (Nat.pow_le_pow_right (by decide) (by omega))
  have e17:(10:Nat)^17=100000000000000000:=by decide
  rw[e17] at h18
  have hd:c.toNat-48=dv c:=rfl
  rw[parseUintM,if_pos h0,if_neg (by omega),hd,if_neg (by omega),ih (k+1) _ h.2 (by rw[Nat.pow_succ];omega) (by omega)]
  rfl
theorem alP {l:List UInt8} (h:l.all iB=true) (h0:l≠[]) (hl:l.length≤18):parseUintB 64 l = .ok (bX l):=by
 unfold parseUintB
 rw[if_neg h0]
 exact akY (by decide) l 0 0 h (by decide) (by omega)
def gY (l:List UInt8):Bool:=l.all iB&&decide (1≤l.length)&&decide (l.length≤200)&&(decide (l.length=1) || !decide (l.getD 0 0=48))
theorem jI {l:List UInt8}:gY l=true↔l.all iB=true∧1≤l.length∧l.length≤200∧(l.length=1∨l.getD 0 0≠48):=by
 unfold gY
 simp only[Bool.and_eq_true,Bool.or_eq_true,Bool.not_eq_true',decide_eq_true_eq,decide_eq_false_iff_not,ne_eq,and_assoc]
theorem xH {l:List UInt8} (h:gY l=true):bl (bX l)≤665:=by
 obtain⟨h1,h2,h3,_⟩:=jI.1 h
 refine Gy (Nat.lt_of_lt_of_le (GR h1) ?_)
 exact Nat.le_trans (Nat.pow_le_pow_right (by decide) h3) (by decide +kernel)
def lX (c:UInt8):List UInt8→List UInt8×Option (List UInt8)
 | []=>([],none)
 | x::r=>if x=c then ([],some r) else (x::(lX c r).1,(lX c r).2)
theorem Ap {c:UInt8}:∀ {l:List UInt8},(lX c l).2=none→indexByte l c = -1∧(lX c l).1=l∧c∉l:=by
 intro l
 induction l with
 | nil=>intro _;exact⟨rfl,rfl,by simp⟩
 |
  cons x l ih =>
  intro h
  unfold lX at h ⊢
  by_cases hx:x=c
  ·rw[if_pos hx] at h
   cases h
  ·rw[if_neg hx] at h ⊢
   obtain⟨h1,h2,h3⟩:=ih h
   refine⟨?_,by rw[h2],?_⟩
   ·rw[indexByte,if_neg (by simpa using hx),h1]
    rfl
   ·rw[List.mem_cons,not_or]
    exact⟨fun h=>hx h.symm,h3⟩
theorem Hj {c:UInt8}:∀ {l r:List UInt8},(lX c l).2=some r→indexByte l c=((lX c l).1.length:Int)∧l=(lX c l).1++c::r∧c∉(lX c l).1:=by
 intro l
 induction l with
 | nil=>intro r h;cases h
 |
  cons x l ih =>
  intro r h
  unfold lX at h ⊢
  by_cases hx:x=c
  ·rw[if_pos hx] at h ⊢
   cases h
   subst hx
   refine⟨?_,rfl,by simp⟩
   rw[indexByte,if_pos (by simp)]
   rfl
  ·rw[if_neg hx] at h ⊢
   obtain⟨h1,h2,h3⟩:=ih h
   refine⟨?_,?_,?_⟩
   ·rw[indexByte,if_neg (by simpa using hx),h1,if_neg]
    ·simp
    ·simp
   ·conv=>lhs;rw[h2]
    rfl
   ·rw[List.mem_cons,not_or]
    exact⟨fun h=>hx h.symm,h3⟩
def oO (neg:Bool) (d:List UInt8) (s:Option (List UInt8)):Option Rat :=
 if gY d=false∨(neg=true∧bX d=0) then none else
 match s with
 | none=>some (mkRat (kG neg (bX d)) 1)
 | some t=>if gY t=true∧1<bX t∧Nat.gcd (bX d) (bX t)=1 then some (mkRat (kG neg (bX d)) (bX t)) else none
def isNeg (l:List UInt8):Bool:=decide (1≤l.length)&&decide (l.getD 0 0=45)
def xX (l:List UInt8):Option Rat:=oO (isNeg l) ((lX 47 (if isNeg l then l.drop 1 else l)).1) ((lX 47 (if isNeg l then l.drop 1 else l)).2)
theorem Uf {neg:Bool} {d:List UInt8} {s:Option (List UInt8)} {q:Rat} (h:oO neg d s=some q):gY d=true∧¬(neg=true∧bX d=0)∧((s=none∧q=mkRat (kG neg (bX d)) 1)∨∃t,s=some t∧gY t=true∧1<bX t∧Nat.gcd (bX d) (bX t)=1∧q=mkRat (kG neg (bX d)) (bX t)):=by
 unfold oO at h
 split at h
 ·cases h
 ·rename_i hc
  rw[not_or] at hc
  refine⟨by simpa using hc.1,hc.2,?_⟩
  split at h
  ·exact .inl ⟨rfl,(Option.some.inj h).symm⟩
  ·rename_i t
   split at h
   ·rename_i ht
    exact .inr ⟨t,rfl,ht.1,ht.2.1,ht.2.2,(Option.some.inj h).symm⟩
   ·cases h
theorem SU {neg:Bool} {d:List UInt8} {s:Option (List UInt8)} {q:Rat} (h:oO neg d s=some q):aZ q≤665:=by
 obtain⟨h1,_,h3⟩:=Uf h
 have hb:=xH h1
 rcases h3 with⟨_,rfl⟩ | ⟨t,_,h4,h5,_,rfl⟩
 ·exact Gd (by rw[nR];exact hb) (Gy (by decide +kernel)) (by decide)
 ·exact Gd (by rw[nR];exact hb) (xH h4) (by omega)
theorem UN {l:List UInt8} {q:Rat} (h:xX l=some q):aZ q≤665:=SU h
theorem IZ {neg:Bool} {t b:Nat} (hb:b≠0) (hg:Nat.gcd t b=1):(mkRat (kG neg t) b).num=kG neg t∧(mkRat (kG neg t) b).den=b:=by
 rw[EO hb,OS hb,hg,Nat.div_one,Nat.div_one]
 exact⟨rfl,rfl⟩
theorem EW {c:UInt8} {l:List UInt8}:isNeg (c::l)=decide (c=45):=by simp[isNeg]
theorem acI {l:List UInt8} (h:l.all iB=true):(47:UInt8)∉l:=by
 intro hm
 have:=List.all_eq_true.1 h _ hm
 exact absurd this (by decide)
end Go.PM
namespace Go.PM
open Go.Lib
theorem Dk (l:List UInt8) {i:Nat} (h:i<l.length):FQ (.string ⟨l.toArray⟩) (.int .i64 (i:Int))=some (.int .u8 ((l.getD i 0).toNat:Int)):=by
 have hs:(⟨l.toArray⟩:ByteArray).size=l.length:=by simp[ByteArray.size]
 have e1:(0:Int)≤i∧(i:Int)<(l.length:Int):=by omega
 simp only[FQ,hs,e1,and_self,if_true,Int.toNat_natCast]
theorem Hm (l:List UInt8) (h:0<l.length):FQ (.string ⟨l.toArray⟩) (.int .i64 0)=some (.int .u8 ((l.getD 0 0).toNat:Int)):=Dk l h
theorem Gi (l:List UInt8) (a b:Nat):(⟨l.toArray⟩:ByteArray).extract a b=⟨((l.drop a).take (b-a)).toArray⟩:=by
 rw[ByteArray.ext_iff,ByteArray.data_extract]
 simp[List.extract_toArray,List.extract_eq_take_drop]
theorem E4 (l:List UInt8) {a:Nat} (h:a≤l.length):uL (bB l) (some (VI (a:Int))) none=some (bB (l.drop a)):=by
 have hs:(⟨l.toArray⟩:ByteArray).size=l.length:=by simp[ByteArray.size]
 have e2:(0:Int)≤a∧(a:Int)≤(l.length:Int):=by omega
 simp only[uL,EV,yT,hs,eT,e2,and_self,if_true,Int.toNat_natCast,Gi]
 rw[List.take_of_length_le (by simp)]
theorem K5 (l:List UInt8) {b:Nat} (hb:b≤l.length):uL (bB l) none (some (VI (b:Int)))=some (bB (l.take b)):=by
 have hs:(⟨l.toArray⟩:ByteArray).size=l.length:=by simp[ByteArray.size]
 have e1:(0:Int)≤b∧(b:Int)≤(l.length:Int):=by omega
 simp only[uL,EV,yT,hs,eT,e1,and_self,if_true,Int.toNat_natCast,Gi]
 rw[List.drop_zero,Nat.sub_zero]
theorem Rc (l:List UInt8):dH .eql (.string ⟨l.toArray⟩) (.string ⟨#[]⟩)=some (.bool (decide (l=[]))):=Wm l []
theorem Jg (l:List UInt8):dH .neq (.string ⟨l.toArray⟩) (.string ⟨#[]⟩)=some (.bool (!decide (l=[]))):=P4 l []
theorem Rq (l:List UInt8):TC 210 [bB l,bB [45]] (VB (isNeg l)):=by
 refine TC.walk ⟨true,false⟩ rW rfl (Nat.le_of_ble_eq_true rfl) rfl rfl ?_
 have e1:zN (.string ⟨#[45]⟩)=some (.int .i64 1):=rfl
 by_cases h:(1:Int)≤(l.length:Int)
 ·have e2:=K5 l (b:=1) (by omega)
  have e2:uL (bB l) none (some (VI 1))=some (bB (l.take 1)):=e2
  have e3:dH .eql (.string ⟨(l.take 1).toArray⟩) (.string ⟨#[45]⟩)=some (.bool (decide (l.take 1=[45]))):=Wm (l.take 1) [45]
  have e4:isNeg l=decide (l.take 1=[45]):=by
   cases l with
   | nil=>exact absurd h (by decide)
   | cons c l=>rw[EW];simp
  rw[e4]
  simp only[gX,gA,bM,e1,ge_iff_le,h,e2,e3,VX,Nat.reduceEqDiff,Nat.reduceAdd]
  exact aI rfl
 ·have e4:isNeg l=false:=by unfold isNeg;rw[decide_eq_false (by omega)];rfl
  rw[e4]
  simp only[gX,gA,bM,e1,ge_iff_le,h,VX,Nat.reduceEqDiff,Nat.reduceAdd]
  exact aI rfl
theorem O4 (l:List UInt8):TC 191 [bB l,bB [45]] (.eX [bB (if isNeg l then l.drop 1 else l),VB (isNeg l)]):=by
 refine TC.walk ⟨true,false⟩ sL rfl (Nat.le_of_ble_eq_true rfl) rfl rfl ?_
 have e0:=Rq l
 have e1:zN (.string ⟨#[45]⟩)=some (.int .i64 1):=rfl
 cases h:isNeg l with
 |
  true =>
  rw[h] at e0
  have hl:1≤l.length:=by
   cases l with
   | nil=>cases h
   | cons c l=>simp
  have e2:uL (bB l) (some (VI 1)) none=some (bB (l.drop 1)):=E4 l (a:=1) hl
  simp only[gT,fZ,e0,e1,e2,VX,Nat.reduceEqDiff,Nat.reduceAdd]
  exact aI rfl
 |
  false =>
  rw[h] at e0
  simp only[gT,fZ,e0,Bool.false_eq_true,if_false,VX,Nat.reduceEqDiff,Nat.reduceAdd]
  exact aI rfl
theorem Rh (l:List UInt8):TC 173 [bB l,bB [45]] (.eX [bB (if isNeg l then l.drop 1 else l),VB (isNeg l)]):=by
 refine TC.walk ⟨true,false⟩ D0 rfl (Nat.le_of_ble_eq_true rfl) rfl rfl ?_
 have e0:=O4 l
 simp only[yZ,vU,e0,VX,Nat.reduceEqDiff,Nat.reduceAdd]
 exact aI rfl
theorem amB (l:List UInt8) (hl:l.length≤1000000000000):TC 190 [bB l,bB [47]] (.eX [bB (lX 47 l).1,bB ((lX 47 l).2.getD []),VB (lX 47 l).2.isSome]):=by
 refine TC.walk ⟨true,false⟩ yL rfl (Nat.le_of_ble_eq_true rfl) rfl rfl ?_
 have e0:=afB l 47
 have e1:zN (.string ⟨#[47]⟩)=some (.int .i64 1):=rfl
 cases h:(lX 47 l).2 with
 |
  none =>
  obtain⟨h1,h2,_⟩:=Ap h
  rw[h1] at e0
  rw[h2]
  simp only[lA,jR,e0,ge_iff_le,Int.reduceNeg,Int.reduceLE,VX,Nat.reduceEqDiff,Nat.reduceAdd]
  exact aI rfl
 |
  some r =>
  obtain⟨h1,h2,_⟩:=Hj h
  rw[h1] at e0
  generalize (lX 47 l).1=a at *
  subst h2
  rw[List.length_append,List.length_cons] at hl
  have h0:(0:Int)≤(a.length:Int):=by omega
  have e2:=K5 (a++47::r) (b:=a.length) (by simp)
  have e3:=E4 (a++47::r) (a:=a.length+1) (by simp)
  rw[List.take_left] at e2
  have ed:(a++47::r).drop (a.length+1)=r:=by rw[List.drop_append];simp
  rw[ed] at e3
  have w:IntKind.i64.wrap ((a.length:Int)+1)=((a.length+1:Nat):Int):=wrapN _ (by omega) (by omega)
  simp only[lA,jR,e0,e1,ge_iff_le,h0,w,e2,e3,VX,Nat.reduceEqDiff,Nat.reduceAdd]
  exact aI rfl
theorem arJ (l:List UInt8) (hl:l.length≤1000000000000):TC 172 [bB l,bB [47]] (.eX [bB (lX 47 l).1,bB ((lX 47 l).2.getD []),VB (lX 47 l).2.isSome]):=by
 refine TC.walk ⟨true,false⟩ Nb rfl (Nat.le_of_ble_eq_true rfl) rfl rfl ?_
 have e0:=amB l hl
 simp only[IH,Eu,e0,VX,Nat.reduceEqDiff,Nat.reduceAdd]
 exact aI rfl
def Aj (l:List UInt8):VV:=if gY l=true then .eX [bN (bX l),VB true] else .eX [bN 0,VB false]
theorem Xw (l:List UInt8):iD (Aj l)=true:=by
 unfold Aj
 split<;>simp[iD,pY,qF,kC]
theorem akE {d:Nat}:fz (d+1) [.row 0 [] 1 true] (.ref 0 0 0 0 0)=some (bN 0):=by
 rw[DG]
 cases d with
 | zero=>rfl
 | succ d=>rfl
theorem Mz {n:Nat} (hn:n≤9) {lo:Nat} {H:aA} {ρ:dS} {Q:VQ} (h58:ρ 58=VI n) (h59:ρ 59=VI 0) (h9:ρ 9=VK .u64 1) (hQ:∀bJ,(∀t,t<9→bJ t=ρ t)→bJ 9=VK .u64 ((10^n:Nat):Int)→Q .normal bJ H):VW ⟨true,false⟩ lo (.loop qK) (zR 4 Q) ρ H:=by
 refine aT (fun(i:Nat) bJ H'=>i≤n∧H'=H∧(∀t,t<9→bJ t=ρ t)∧bJ 58=VI n∧bJ 59=VI i∧bJ 9=VK .u64 ((10^i:Nat):Int)) (fun i=>n-i) 0 ⟨Nat.zero_le _,rfl,fun _ _=>rfl,h58,h59,h9⟩ ?_
 rintro i bJ H' ⟨hi,rfl,hk,g58,g59,g9⟩
 by_cases dA:(i:Int)<(n:Int)
 ·have wi:IntKind.i64.wrap ((i:Int)+1)=((i+1:Nat):Int):=wrapN (i+1) (by omega) (by omega)
  have hp:10^i≤10^8:=Nat.pow_le_pow_right (by decide) (by omega)
  have e8:(10:Nat)^8=100000000:=by decide
  have wp:IntKind.u64.wrap (((10^i:Nat):Int)*10)=((10^(i+1):Nat):Int):=by
   rw[Nat.pow_succ]
   generalize 10^i=p at *
   have:=dW (p*10) (by omega)
   rw[Int.natCast_mul] at this
   rw[Int.natCast_mul]
   exact this
  simp only[qK,g58,g59,g9,dA,wi,wp,VX,Nat.reduceEqDiff,Nat.reduceAdd]
  refine⟨i+1,by omega,by omega,fun t ht => ?_,rfl,rfl⟩
  try simp only[uP]
  repeat rw[if_neg (by omega)]
  exact hk t ht
 ·have oB:i=n:=by omega
  subst oB
  simp only[qK,g58,g59,dA,VX,Nat.reduceEqDiff,Nat.reduceAdd]
  refine hQ _ (fun t ht => ?_) ?_
  ·try simp only[uP]
   repeat rw[if_neg (by omega)]
   exact hk t ht
  ·simp only[g9,VX,Nat.reduceEqDiff,Nat.reduceAdd]
theorem ZO {l:List UInt8} {i:Nat} (h:i<l.length):(l.take (i+1)).all iB=((l.take i).all iB&&iB (l.getD i 0)):=by
 rw[List.take_add_one,List.all_append]
 have:l[i]? = some (l.getD i 0):=by rw[List.getElem?_eq_getElem h,List.getD_eq_getElem?_getD,List.getElem?_eq_getElem h];rfl
 rw[this]
 simp
theorem Mj {l:List UInt8} (hl:l.length≤1000000000000) {lo:Nat} {H:aA} {ρ:dS} {Q:VQ} (h0:ρ 0=bB l) (h29:ρ 29=VI l.length) (h30:ρ 30=VI 0)
  (hR:l.all iB=false→∀bJ:dS,bJ 2 = .tree [] .nil→bJ 3=VB false→Q .ret bJ H) (hN:l.all iB=true→∀bJ:dS,(∀t,t<5→bJ t=ρ t)→Q .normal bJ H):VW ⟨true,false⟩ lo (.loop kL) (zR 0 Q) ρ H:=by
 refine aT (fun(i:Nat) bJ H'=>i≤l.length∧H'=H∧(l.take i).all iB=true∧(∀t,t<5→bJ t=ρ t)∧bJ 29=VI l.length∧bJ 30=VI i) (fun i=>l.length-i) 0 ⟨Nat.zero_le _,rfl,rfl,fun _ _=>rfl,h29,h30⟩ ?_
 rintro i bJ H' ⟨hi,rfl,hd,hk,g29,g30⟩
 have g0:=(hk 0 (by decide)).trans h0
 by_cases dA:(i:Int)<(l.length:Int)
 ·have UF:i<l.length:=by omega
  have e1:=Dk l UF
  have wi:IntKind.i64.wrap ((i:Int)+1)=((i+1:Nat):Int):=wrapN (i+1) (by omega) (by omega)
  have ht:=ZO UF
  rw[hd,Bool.true_and] at ht
  have Uz:iB (l.getD i 0)=(decide (48≤(l.getD i 0).toNat)&&decide ((l.getD i 0).toNat≤57)):=rfl
  have pE:iB (l.getD i 0)=false→l.all iB=false:=by
   intro h
   rw[h] at ht
   rw[←List.take_append_drop (i+1) l,List.all_append,ht,Bool.false_and]
  generalize (l.getD i 0).toNat=c at *
  by_cases q1:(c:Int)<48
  ·have:=pE (by rw[Uz,decide_eq_false (by omega)];rfl)
   simp only[kL,g0,g29,g30,dA,e1,q1,VX,Nat.reduceEqDiff,Nat.reduceAdd]
   exact hR this _ (by simp only[VX,Nat.reduceEqDiff,Nat.reduceAdd]) (by simp only[VX,Nat.reduceEqDiff,Nat.reduceAdd])
  ·by_cases q2:(57:Int)<(c:Int)
   ·have:=pE (by rw[Uz,decide_eq_false (show ¬c≤57 by omega),Bool.and_false])
    simp only[kL,g0,g29,g30,dA,e1,q1,q2,VX,Nat.reduceEqDiff,Nat.reduceAdd]
    exact hR this _ (by simp only[VX,Nat.reduceEqDiff,Nat.reduceAdd]) (by simp only[VX,Nat.reduceEqDiff,Nat.reduceAdd])
   ·rw[Uz,decide_eq_true (by omega),decide_eq_true (by omega),Bool.and_self] at ht
    simp only[kL,g0,g29,g30,dA,e1,q1,q2,wi,VX,Nat.reduceEqDiff,Nat.reduceAdd]
    refine⟨i+1,by omega,by omega,ht,fun t ht => ?_,rfl⟩
    try simp only[uP]
    repeat rw[if_neg (by omega)]
    exact hk t ht
 ·have oB:i=l.length:=by omega
  subst oB
  rw[List.take_length] at hd
  simp only[kL,g29,g30,dA,VX,Nat.reduceEqDiff,Nat.reduceAdd]
  refine hN hd _ fun t ht => ?_
  try simp only[uP]
  repeat rw[if_neg (by omega)]
  exact hk t ht
set_option maxHeartbeats 2000000 in
theorem Lr {l:List UInt8} (hd:l.all iB=true) (hl:l.length≤200) (fC:l≠[]) {ρ:dS} {Q:VQ} (h0:ρ 0=bB l) (h4:ρ 4 = .ref 0 0 0 0 0)
  (hQ:∀(bJ:dS),bJ 4=bN (bX l)→Q .normal bJ [.row 0 [] 1 false]):VW ⟨true,false⟩ 0 (.loop nD) (zR 2 Q) ρ [.row 0 [] 1 true]:=by
 refine aT (fun(s:List UInt8×List UInt8) bJ H'=>l=s.1++s.2∧bJ 0=bB s.2∧((H'=[.row 0 [] 1 true]∧bJ 4 = .ref 0 0 0 0 0∧s.1=[])∨(H'=[.row 0 [] 1 false]∧bJ 4=bN (bX s.1)))) (fun s=>s.2.length) ([],l) ⟨rfl,h0,.inl ⟨rfl,h4,rfl⟩⟩ ?_
 rintro⟨pre,rest⟩ bJ H' ⟨T9,g0,hv⟩
 simp only at T9 g0 hv
 have e1:=Jg rest
 by_cases he:rest=[]
 ·subst he
  rw[List.append_nil] at T9
  subst T9
  rcases hv with⟨_,_,h⟩ | ⟨rfl,g4⟩
  ·exact absurd h fC
  have Vn:dH .neq (.string ⟨#[]⟩) (.string ⟨#[]⟩)=some (.bool false):=by
   have:=Jg []
   rw[decide_eq_true rfl] at this
   exact this
  simp only[nD,g0,Vn,VX,Nat.reduceEqDiff,Nat.reduceAdd]
  exact hQ _ (by simp only[g4,VX,Nat.reduceEqDiff,Nat.reduceAdd])
 ·rw[T9,List.all_append,Bool.and_eq_true] at hd
  obtain⟨hd1,hd2⟩:=hd
  rw[T9,List.length_append] at hl
  have lC:0<rest.length:=List.length_pos_iff.2 he
  have Vn:dH .neq (.string ⟨rest.toArray⟩) (.string ⟨#[]⟩)=some (.bool true):=by rw[e1,decide_eq_false he];rfl
  have wm:(rest.length:Int).tmod 9=((rest.length % 9:Nat):Int):=by rw[Int.tmod_eq_emod_of_nonneg (by omega)];simp
  have er:dH .rem (.int .i64 (rest.length:Int)) (.int .i64 9)=some (.int .i64 ((rest.length % 9:Nat):Int)):=by
   rw[←wm]
   rfl
  obtain⟨n,hn⟩:∃n,n=if rest.length % 9=0 then 9 else rest.length % 9:=⟨_,rfl⟩
  have hn1:1≤n∧n≤9∧n≤rest.length:=by
   rw[hn]
   split<;>omega
  obtain⟨n1,n9,nl⟩:=hn1
  have e2:=K5 rest nl
  have e3:=E4 rest nl
  have hch:(rest.take n).length=n:=by rw[List.length_take];omega
  have hcd:(rest.take n).all iB=true:=by
   rw[←List.take_append_drop n rest,List.all_append,Bool.and_eq_true] at hd2
   exact hd2.1
  have hp:=agT (rest.take n) (bX (rest.take n)) (by omega) (alP hcd (fun h=>by rw[h] at hch;simp at hch;omega) (by omega))
  have FE:=GR hcd
  rw[hch] at FE
  have hp9:10^n≤10^9:=Nat.pow_le_pow_right (by decide) n9
  have e9:(10:Nat)^9=1000000000:=by decide
  have aBI:bX (rest.take n)<1000000000:=by omega
  have c1:=mV (10^n) (by omega)
  have c2:=mV (bX (rest.take n)) (by omega)
  have hbp:bl (bX pre)≤665:=by
   refine Gy (Nat.lt_of_lt_of_le (GR hd1) ?_)
   exact Nat.le_trans (Nat.pow_le_pow_right (by decide) (by omega:pre.length≤200)) (by decide +kernel)
  have hb9:bl (10^n)≤64:=Gy (by omega)
  have hbm:=nM (bX pre) (10^n)
  have hbc:bl (bX (rest.take n))≤64:=Gy (by omega)
  have tm:=iF (bX pre) (10^n) (fG (by omega)) (fG (by omega))
  have c4:=CO (bX pre*10^n) (bX (rest.take n)) (fG (by omega)) (fG (by omega))
  have rQ:bX pre*10^n+bX (rest.take n)=bX (pre++rest.take n):=by rw[Lo,hch]
  rw[rQ] at c4
  have fin:(rest.drop n).length<rest.length∧pre++rest=(pre++rest.take n)++rest.drop n:=⟨by rw[List.length_drop];omega,by rw[List.append_assoc,List.take_append_drop]⟩
  obtain⟨v4,g4,c3⟩:∃v4,bJ 4=v4∧∀lo K,cQ 143 [v4,bN (10^n)] lo H' K=K (bN (bX pre*10^n)) [.row 0 [] 1 false]:=by
   rcases hv with⟨rfl,g4,hp0⟩ | ⟨rfl,g4⟩
   ·refine⟨_,g4,fun lo K => ?_⟩
    subst hp0
    have:=tm.De (H:=[.row 0 [] 1 true]) (args:=[.ref 0 0 0 0 0,bN (10^n)]) (lo:=lo) (k:=K) rfl (by simp[aM,bR]) (fz2 akE (aJ (bR _))) rfl
    rw[this,show KU (bN (bX []*10^n))=false from rfl,if_neg (by decide),List.flatMap_cons,List.flatMap_cons,List.flatMap_nil,Fz (bR _),NQ (n:=0) (c:=0) (es:=[]) (e:=1) (w:=true) aS rfl rfl]
    rfl
   ·exact⟨_,g4,fun lo K=>tm lo [.row 0 [] 1 false] K⟩
  clear hv
  obtain⟨P,hP⟩:∃P,P=10^n:=⟨_,rfl⟩
  rw[←hP] at c1 c4 c3
  have hnI:(rest.length % 9:Nat)=0∨¬(rest.length % 9:Nat)=0:=by omega
  rcases hnI with h9 | h9
  ·rw[if_pos h9] at hn
   subst hn
   have q:((rest.length % 9:Nat):Int)=0:=by omega
   have e2':uL (bB rest) none (some (VI 9))=some (bB (rest.take 9)):=e2
   have e3':uL (bB rest) (some (VI 9)) none=some (bB (rest.drop 9)):=e3
   simp only[nD,g0,g4,Vn,bM,er,q,e2',hp,VX,Nat.reduceEqDiff,Nat.reduceAdd]
   refine Mz (n:=9) (by decide) ?_ ?_ ?_ fun wO k1 q9 => ?_
   ·simp only[VX,Nat.reduceEqDiff,Nat.reduceAdd];rfl
   ·simp only[VX,Nat.reduceEqDiff,Nat.reduceAdd]
   ·simp only[VX,Nat.reduceEqDiff,Nat.reduceAdd]
   rw[←hP] at q9
   have u0:wO 0=bB rest:=by rw[k1 0 (by decide)];simp only[g0,VX,Nat.reduceEqDiff,Nat.reduceAdd]
   have u4:wO 4=v4:=by rw[k1 4 (by decide)];simp only[g4,VX,Nat.reduceEqDiff,Nat.reduceAdd]
   have u6:wO 6=VI 9:=by rw[k1 6 (by decide)];simp only[VX,Nat.reduceEqDiff,Nat.reduceAdd]
   have u7:wO 7=VK .u64 (bX (rest.take 9)):=by rw[k1 7 (by decide)];simp only[VX,Nat.reduceEqDiff,Nat.reduceAdd]
   simp only[u0,u4,u6,u7,q9,c1,c2,c3,c4,e3',VX,Nat.reduceEqDiff,Nat.reduceAdd]
   exact⟨(pre++rest.take 9,rest.drop 9),fin.1,T9.trans fin.2,rfl,.inr rfl⟩
  ·rw[if_neg h9] at hn
   rw[←hn] at er
   have q:¬(n:Int)=0:=by omega
   simp only[nD,g0,g4,Vn,bM,er,q,e2,hp,VX,Nat.reduceEqDiff,Nat.reduceAdd]
   refine Mz (n:=n) n9 ?_ ?_ ?_ fun wO k1 q9 => ?_
   ·simp only[VX,Nat.reduceEqDiff,Nat.reduceAdd]
   ·simp only[VX,Nat.reduceEqDiff,Nat.reduceAdd]
   ·simp only[VX,Nat.reduceEqDiff,Nat.reduceAdd]
   rw[←hP] at q9
   have u0:wO 0=bB rest:=by rw[k1 0 (by decide)];simp only[g0,VX,Nat.reduceEqDiff,Nat.reduceAdd]
   have u4:wO 4=v4:=by rw[k1 4 (by decide)];simp only[g4,VX,Nat.reduceEqDiff,Nat.reduceAdd]
   have u6:wO 6=VI n:=by rw[k1 6 (by decide)];simp only[VX,Nat.reduceEqDiff,Nat.reduceAdd]
   have u7:wO 7=VK .u64 (bX (rest.take n)):=by rw[k1 7 (by decide)];simp only[VX,Nat.reduceEqDiff,Nat.reduceAdd]
   simp only[u0,u4,u6,u7,q9,c1,c2,c3,c4,e3,VX,Nat.reduceEqDiff,Nat.reduceAdd]
   exact⟨(pre++rest.take n,rest.drop n),fin.1,T9.trans fin.2,rfl,.inr rfl⟩
set_option maxHeartbeats 2000000 in
theorem Cw (l:List UInt8) (hl:l.length≤1000000000000):TC 174 [bB l] (Aj l):=by
 refine TC.walk ⟨true,false⟩ KK rfl (Nat.le_of_ble_eq_true rfl) rfl (Xw l) ?_
 have e1:=Rc l
 by_cases he:l=[]
 ·have hk:gY l=false:=by rw[he];rfl
  have Vn:dH .eql (.string ⟨l.toArray⟩) (.string ⟨#[]⟩)=some (.bool true):=by rw[e1,decide_eq_true he]
  unfold Aj
  rw[hk]
  simp only[oY,lM,Vn,Bool.false_eq_true,if_false,VX,Nat.reduceEqDiff,Nat.reduceAdd]
  exact bT (d:=6) wD (aJ (v:=VB false) rfl)
 have lC:0<l.length:=List.length_pos_iff.2 he
 by_cases agG:(200:Int)<(l.length:Int)
 ·have hk:gY l=false:=by
   cases h:gY l with
   | false=>rfl
   | true=>have:=(jI.1 h).2.2.1;omega
  unfold Aj
  rw[hk]
  simp only[oY,lM,e1,he,decide_false,bM,agG,Bool.false_eq_true,if_false,VX,Nat.reduceEqDiff,Nat.reduceAdd]
  exact bT (d:=6) wD (aJ (v:=VB false) rfl)
 have e2:=Hm l lC
 by_cases hz:(((l.getD 0 0).toNat:Int)=48∧1<(l.length:Int))
 ·obtain⟨Ir,SX⟩:=hz
  have hk:gY l=false:=by
   cases h:gY l with
   | false=>rfl
   |
    true =>
    rcases(jI.1 h).2.2.2 with h1 | h1
    ·omega
    ·exact absurd (UInt8.toNat_inj.1 (by rw[show (48:UInt8).toNat=48 from rfl];omega)) h1
  unfold Aj
  rw[hk]
  simp only[oY,lM,e1,he,decide_false,bM,agG,e2,Ir,SX,Bool.false_eq_true,if_false,VX,Nat.reduceEqDiff,Nat.reduceAdd]
  exact bT (d:=6) wD (aJ (v:=VB false) rfl)
 have arC:l.length=1∨l.getD 0 0≠48:=by
  by_cases h1:l.length=1
  ·exact .inl h1
  ·right
   intro h2
   apply hz
   rw[h2]
   exact⟨rfl,by omega⟩
 have e3:∀lr,jQ lr [.int .u32 0] 0 [] []=some (.ref 0 0 0 0 0,[.row 0 [] 1 true]):=fun lr=>iC (H:=[]) (lr:=lr) (z:=[.int .u32 0]) rfl
 have kN:l.all iB=true→gY l=true:=fun h=>jI.2 ⟨h,lC,by omega,arC⟩
 have kF:l.all iB=false→gY l=false:=fun h=>by unfold gY;rw[h];rfl
 have rF:gY l=false→Aj l = .eX [bN 0,VB false]:=fun h=>by unfold Aj;rw[h];rfl
 have rT:gY l=true→Aj l = .eX [bN (bX l),VB true]:=fun h=>if_pos h
 by_cases hA:(((l.getD 0 0).toNat:Int)=48)
 ·have hB:¬1<(l.length:Int):=fun h=>hz ⟨hA,h⟩
  simp only[oY,lM,e1,e3,he,decide_false,bM,agG,e2,hA,hB,Bool.false_eq_true,if_false,VX,Nat.reduceEqDiff,Nat.reduceAdd]
  refine Mj hl ?_ ?_ ?_ (fun hd wO g2 g3 => ?_) fun hd wO k1 => ?_
  ·simp only[VX,Nat.reduceEqDiff,Nat.reduceAdd]
  ·simp only[VX,Nat.reduceEqDiff,Nat.reduceAdd]
  ·simp only[VX,Nat.reduceEqDiff,Nat.reduceAdd]
  ·rw[rF (kF hd)]
   simp only[g2,g3,VX,Nat.reduceEqDiff,Nat.reduceAdd]
   exact bT (d:=6) wD (aJ (v:=VB false) rfl)
  ·rw[rT (kN hd)]
   simp only[VX,Nat.reduceEqDiff,Nat.reduceAdd]
   refine Lr hd (by omega) he ?_ ?_ fun NA g4 => ?_
   ·rw[k1 0 (by decide)];simp only[VX,Nat.reduceEqDiff,Nat.reduceAdd]
   ·rw[k1 4 (by decide)];simp only[VX,Nat.reduceEqDiff,Nat.reduceAdd]
   ·simp only[g4,VX,Nat.reduceEqDiff,Nat.reduceAdd]
    exact bT (d:=6) (aJ (bR _)) (aJ (v:=VB true) rfl)
 ·simp only[oY,lM,e1,e3,he,decide_false,bM,agG,e2,hA,Bool.false_eq_true,if_false,VX,Nat.reduceEqDiff,Nat.reduceAdd]
  refine Mj hl ?_ ?_ ?_ (fun hd wO g2 g3 => ?_) fun hd wO k1 => ?_
  ·simp only[VX,Nat.reduceEqDiff,Nat.reduceAdd]
  ·simp only[VX,Nat.reduceEqDiff,Nat.reduceAdd]
  ·simp only[VX,Nat.reduceEqDiff,Nat.reduceAdd]
  ·rw[rF (kF hd)]
   simp only[g2,g3,VX,Nat.reduceEqDiff,Nat.reduceAdd]
   exact bT (d:=6) wD (aJ (v:=VB false) rfl)
  ·rw[rT (kN hd)]
   simp only[VX,Nat.reduceEqDiff,Nat.reduceAdd]
   refine Lr hd (by omega) he ?_ ?_ fun NA g4 => ?_
   ·rw[k1 0 (by decide)];simp only[VX,Nat.reduceEqDiff,Nat.reduceAdd]
   ·rw[k1 4 (by decide)];simp only[VX,Nat.reduceEqDiff,Nat.reduceAdd]
   ·simp only[g4,VX,Nat.reduceEqDiff,Nat.reduceAdd]
    exact bT (d:=6) (aJ (bR _)) (aJ (v:=VB true) rfl)
def ET:VV := .agg [VB false,bN 0,bN 0]
def CX (l:List UInt8):VV:=match xX l with
 | some q => .eX [aQ q,VB true]
 | none => .eX [ET,VB false]
theorem Oh:aP ET=true:=by simp[ET,aP,aM,bR,kC]
theorem F1:iD ET=true:=by simp[ET,iD,pY,qF,kC]
theorem Uw (l:List UInt8):iD (CX l)=true:=by
 unfold CX
 split<;>simp[iD,pY,qB,F1,kC]
theorem gE {d:Nat} {H:aA}:fz (d+2) H (.agg [VB false,.tree [] .nil,.tree [] .nil])=some ET:=qR (aJ (v:=VB false) rfl) wD wD
theorem Ly {neg:Bool} {t b:Nat} (hb:b≠0) (hg:Nat.gcd t b=1) (hn:¬(neg=true∧t=0)):aQ (mkRat (kG neg t) b) = .agg [VB neg,bN t,bN b]:=by
 obtain⟨e1,e2⟩:=IZ (neg:=neg) hb hg
 refine BE ?_ (by rw[e1,nR]) e2
 rw[e1]
 cases neg with
 | false=>unfold kG;simp
 |
  true =>
  have:t≠0:=fun h=>hn ⟨rfl,h⟩
  unfold kG
  simp
  omega
theorem TZ (l:List UInt8):xX l=oO (isNeg (lX 47 l).1) (if isNeg (lX 47 l).1 then (lX 47 l).1.drop 1 else (lX 47 l).1) (lX 47 l).2:=by
 cases l with
 | nil=>rfl
 |
  cons c r =>
  unfold xX
  by_cases h47:c=47
  ·subst h47
   rfl
  ·have e:lX 47 (c::r)=(c::(lX 47 r).1,(lX 47 r).2):=by rw[lX,if_neg h47]
   by_cases h45:c=45
   ·subst h45
    rw[e]
    rfl
   ·rw[e,EW,EW,decide_eq_false h45]
    simp only[Bool.false_eq_true,if_false,e]
theorem QO {c:UInt8}:∀ {l:List UInt8},(lX c l).1.length≤l.length∧∀t,(lX c l).2=some t→t.length≤l.length:=by
 intro l
 cases h:(lX c l).2 with
 | none=>rw[(Ap h).2.1];exact⟨Nat.le_refl _,fun t ht=>by cases ht⟩
 |
  some r =>
  have:=congrArg List.length (Hj h).2.1
  rw[List.length_append,List.length_cons] at this
  exact⟨by omega,fun t ht=>by cases ht;omega⟩
theorem Oo {n:Nat}:(((aC 4294967296 n).length:Nat):Int)=0↔n=0:=by
 rw[←lL (b:=4294967296) (n:=n) (by decide),←List.length_eq_zero_iff]
 omega
set_option maxRecDepth 100000 in
set_option maxHeartbeats 4000000 in
theorem KQ (l:List UInt8) (hl:l.length≤1000000000000):TC 115 [bB l] (CX l):=by
 refine TC.walk ⟨true,false⟩ KJ rfl (Nat.le_of_ble_eq_true rfl) rfl (Uw l) ?_
 have e1:=arJ l hl
 obtain⟨l1,l2⟩:=QO (c:=47) (l:=l)
 have hq:=TZ l
 unfold CX
 rw[hq]
 clear hq
 generalize (lX 47 l).1=f at *
 generalize (lX 47 l).2=s2 at *
 have e2:=Rh f
 have ld:(if isNeg f=true then f.drop 1 else f).length≤f.length:=by split<;>simp
 generalize (if isNeg f=true then f.drop 1 else f)=d at *
 generalize isNeg f=neg at *
 have e3:=Cw d (by omega)
 have c1:TC 139 [.sc (.int .u64 1)] (bN 1):=mV 1 (by decide)
 cases hd:gY d with
 |
  false =>
  have hp:oO neg d s2=none:=if_pos (.inl hd)
  rw[hp]
  unfold Aj at e3
  rw[hd,if_neg (by decide)] at e3
  simp only[eU,dE,e1,e2,e3,aF,iR,Nat.reduceLeDiff,Nat.reduceLT,Nat.reduceSub,VX,Nat.reduceEqDiff,Nat.reduceAdd]
  exact bT (d:=6) gE (aJ (v:=VB false) rfl)
 |
  true =>
  unfold Aj at e3
  rw[hd,if_pos rfl] at e3
  by_cases hz:neg=true∧bX d=0
  ·have hp:oO neg d s2=none:=if_pos (.inr hz)
   rw[hp]
   obtain⟨rfl,D8⟩:=hz
   rw[D8] at e3
   have Ba:(((aC 4294967296 0).length:Nat):Int)=0:=Oo.2 rfl
   simp only[eU,dE,e1,e2,e3,dF,Ba,aF,iR,Nat.reduceLeDiff,Nat.reduceLT,Nat.reduceSub,VX,Nat.reduceEqDiff,Nat.reduceAdd]
   exact bT (d:=6) gE (aJ (v:=VB false) rfl)
  ·have hbt:=xH hd
   have Ba:neg=true→¬(((aC 4294967296 (bX d)).length:Nat):Int)=0:=fun h h0=>hz ⟨h,Oo.1 h0⟩
   cases s2 with
   |
    none =>
    have hp:oO neg d none=some (mkRat (kG neg (bX d)) 1):=if_neg (by rw[hd];rintro(h | h);exact absurd h (by decide);exact hz h)
    rw[hp]
    simp only[]
    rw[Ly (by decide) (Nat.gcd_one_right _) hz]
    cases neg with
    |
     false =>
     simp only[eU,dE,e1,e2,e3,c1,Option.isSome_none,Option.getD_none,aF,aV,aU,aO,iR,Nat.reduceLeDiff,Nat.reduceLT,Nat.reduceSub,VX,Nat.reduceEqDiff,Nat.reduceAdd]
     exact bT (d:=6) (qR (aJ (v:=VB false) rfl) (aJ (bR _)) (aJ (bR _))) (aJ (v:=VB true) rfl)
    |
     true =>
     have Ba:=Ba rfl
     simp only[eU,dE,e1,e2,e3,c1,dF,Ba,Option.isSome_none,Option.getD_none,aF,aV,aU,aO,iR,Nat.reduceLeDiff,Nat.reduceLT,Nat.reduceSub,VX,Nat.reduceEqDiff,Nat.reduceAdd]
     exact bT (d:=6) (qR (aJ (v:=VB true) rfl) (aJ (bR _)) (aJ (bR _))) (aJ (v:=VB true) rfl)
   |
    some t =>
    have e4:=Cw t (by have:=l2 t rfl;omega)
    have hp:oO neg d (some t)=if gY t=true∧1<bX t∧Nat.gcd (bX d) (bX t)=1 then some (mkRat (kG neg (bX d)) (bX t)) else none:=if_neg (by rw[hd];rintro(h | h);exact absurd h (by decide);exact hz h)
    rw[hp]
    cases ht:gY t with
    |
     false =>
     rw[if_neg (fun h=>absurd h.1 (by decide))]
     unfold Aj at e4
     rw[ht,if_neg (by decide)] at e4
     cases neg with
     |
      false =>
      simp only[eU,dE,e1,e2,e3,e4,c1,Option.isSome_some,Option.getD_some,aF,aV,aU,aO,iR,Nat.reduceLeDiff,Nat.reduceLT,Nat.reduceSub,VX,Nat.reduceEqDiff,Nat.reduceAdd]
      exact bT (d:=6) gE (aJ (v:=VB false) rfl)
     |
      true =>
      have Ba:=Ba rfl
      simp only[eU,dE,e1,e2,e3,e4,c1,dF,Ba,Option.isSome_some,Option.getD_some,aF,aV,aU,aO,iR,Nat.reduceLeDiff,Nat.reduceLT,Nat.reduceSub,VX,Nat.reduceEqDiff,Nat.reduceAdd]
      exact bT (d:=6) gE (aJ (v:=VB false) rfl)
    |
     true =>
     have Kh:=xH ht
     unfold Aj at e4
     rw[ht,if_pos rfl] at e4
     have c2:=jX (bX t) 1 (fG (by omega)) (fG (Nat.le_trans (Gy (n:=1) (k:=1) (by decide)) (by decide)))
     have c3:=CH (bX d) (bX t) (fG (by omega)) (fG (by omega))
     by_cases h1:eW (bX t) 1≤0
     ·have hle:¬1<bX t:=fun h=>by unfold eW at h1;rw[if_neg (by omega),if_neg (by omega)] at h1;exact absurd h1 (by decide)
      rw[if_neg (fun h=>hle h.2.1)]
      cases neg with
      |
       false =>
       simp only[eU,dE,e1,e2,e3,e4,c1,c2,h1,Option.isSome_some,Option.getD_some,aF,aV,aU,aO,iR,Nat.reduceLeDiff,Nat.reduceLT,Nat.reduceSub,VX,Nat.reduceEqDiff,Nat.reduceAdd]
       exact bT (d:=6) gE (aJ (v:=VB false) rfl)
      |
       true =>
       have Ba:=Ba rfl
       simp only[eU,dE,e1,e2,e3,e4,c1,c2,h1,dF,Ba,Option.isSome_some,Option.getD_some,aF,aV,aU,aO,iR,Nat.reduceLeDiff,Nat.reduceLT,Nat.reduceSub,VX,Nat.reduceEqDiff,Nat.reduceAdd]
       exact bT (d:=6) gE (aJ (v:=VB false) rfl)
     ·have bH:1<bX t:=by
       rcases Nat.lt_or_ge 1 (bX t) with h | h
       ·exact h
       ·exfalso
        apply h1
        unfold eW
        split
        ·decide
        ·rw[if_pos (by omega)];decide
      have hgl:bl (Nat.gcd (bX d) (bX t))≤665:=Nat.le_trans (kB (Nat.le_of_dvd (by omega) (Nat.gcd_dvd_right _ _))) Kh
      have c4:=jX (Nat.gcd (bX d) (bX t)) 1 (fG (by omega)) (fG (Nat.le_trans (Gy (n:=1) (k:=1) (by decide)) (by decide)))
      by_cases hg:Nat.gcd (bX d) (bX t)=1
      ·have h4:eW (Nat.gcd (bX d) (bX t)) 1=0:=by rw[hg];rfl
       rw[if_pos ⟨rfl,bH,hg⟩]
       simp only[]
       rw[Ly (by omega) hg hz]
       cases neg with
       |
        false =>
        simp only[eU,dE,e1,e2,e3,e4,c1,c2,c3,c4,h1,h4,Option.isSome_some,Option.getD_some,aF,aV,aU,aO,iR,Nat.reduceLeDiff,Nat.reduceLT,Nat.reduceSub,VX,Nat.reduceEqDiff,Nat.reduceAdd]
        exact bT (d:=6) (qR (aJ (v:=VB false) rfl) (aJ (bR _)) (aJ (bR _))) (aJ (v:=VB true) rfl)
       |
        true =>
        have Ba:=Ba rfl
        simp only[eU,dE,e1,e2,e3,e4,c1,c2,c3,c4,h1,h4,dF,Ba,Option.isSome_some,Option.getD_some,aF,aV,aU,aO,iR,Nat.reduceLeDiff,Nat.reduceLT,Nat.reduceSub,VX,Nat.reduceEqDiff,Nat.reduceAdd]
        exact bT (d:=6) (qR (aJ (v:=VB true) rfl) (aJ (bR _)) (aJ (bR _))) (aJ (v:=VB true) rfl)
      ·have h4:¬eW (Nat.gcd (bX d) (bX t)) 1=0:=by
        unfold eW
        split<;>(try split)<;>first | decide | omega
       rw[if_neg (fun h=>hg h.2.2)]
       cases neg with
       |
        false =>
        simp only[eU,dE,e1,e2,e3,e4,c1,c2,c3,c4,h1,h4,Option.isSome_some,Option.getD_some,aF,aV,aU,aO,iR,Nat.reduceLeDiff,Nat.reduceLT,Nat.reduceSub,VX,Nat.reduceEqDiff,Nat.reduceAdd]
        exact bT (d:=6) gE (aJ (v:=VB false) rfl)
       |
        true =>
        have Ba:=Ba rfl
        simp only[eU,dE,e1,e2,e3,e4,c1,c2,c3,c4,h1,h4,dF,Ba,Option.isSome_some,Option.getD_some,aF,aV,aU,aO,iR,Nat.reduceLeDiff,Nat.reduceLT,Nat.reduceSub,VX,Nat.reduceEqDiff,Nat.reduceAdd]
        exact bT (d:=6) gE (aJ (v:=VB false) rfl)
end Go.PM
namespace Go.PM
open Go.Lib
theorem RM {l:List UInt8} {q:Rat} (h:xX l=some q):CX l = .eX [aQ q,VB true]:=by unfold CX;rw[h]
theorem SJ {l:List UInt8} (h:xX l=none):CX l = .eX [ET,VB false]:=by unfold CX;rw[h]
theorem Cy:aB ET=[VB false,bN 0,bN 0]:=rfl
theorem E6:isAny ET=false:=rfl
theorem Kq:dC true 3 ET 0=some ET:=rfl
end Go.PM
namespace Go.PM
open Go.Lib
end Go.PM