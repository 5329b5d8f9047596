/- Texts of a claim, in one: part 10. -/
import Derived.Lib.Bytealg
import Derived.Lib.ParseIntB
import Derived.Test.YtjmflicajplclaaGreatDoorKBi
set_option linter.unusedSimpArgs false
set_option linter.unusedVariables false
namespace Go.PM
open Go.Lib
def aP (q:Rat):VV := .agg [VB (decide (q.num<0)),bN q.num.natAbs,bN q.den]
theorem fN (q:Rat):aQ (aP q)=true:=by simp[aP,aQ,aO,bU,lG]
theorem rG (q:Rat):fX (aP q)=true:=by simp[aP,fX,rE,rH,lG]
theorem C4 {q:Rat} {neg:Bool} {t b:Nat} (h0:q.num<0↔neg=true) (h1:q.num.natAbs=t) (h2:q.den=b):aP q = .agg [VB neg,bN t,bN b]:=by
 subst h1 h2
 unfold aP
 congr 4
 cases neg<;>simp_all
theorem alN {neg:Bool} {t b:Nat} (hb:b≠0) (ht:t≠0):aP (mkRat (lJ neg t) b) = .agg [VB neg,bN (t / Nat.gcd t b),bN (b / Nat.gcd t b)]:=by
 refine C4 ?_ ?_ (SJ hb)
 ·rw[GM hb,RD]
  have h1:t / Nat.gcd t b≠0:=by
   have:=Nat.div_pos (Nat.le_of_dvd (by omega) (Nat.gcd_dvd_left t b)) (Nat.gcd_pos_of_pos_left b (by omega))
   omega
  simp[h1]
 ·rw[GM hb,pD]
theorem abL:aP 0 = .agg [VB false,.tree [] .op,bN 1]:=by
 rw[C4 (q:=0) (neg:=false) (t:=0) (b:=1) (by simp) rfl rfl,Fz]
theorem aS (n:Nat):bS (bN n)=true:=rfl
theorem aT (n:Nat):isAny (bN n)=false:=rfl
theorem aN (n:Nat):aB (bN n)=[bN n]:=rfl
theorem cM (q:Rat):isAny (aP q)=false:=rfl
theorem aH (q:Rat):aB (aP q)=[VB (decide (q.num<0)),bN q.num.natAbs,bN q.den]:=rfl
theorem cZ (q:Rat):dM true 3 (aP q) 0=some (aP q):=rfl
theorem kE (q:Rat):dM false 1 (aP q) 0=some (VB (decide (q.num<0))):=rfl
theorem kC (q:Rat):dM false 1 (aP q) 1=some (bN q.num.natAbs):=rfl
theorem mN (q:Rat):dM false 1 (aP q) 2=some (bN q.den):=rfl
theorem sD {d:Nat} {H:aA} {u u' v v' w w':VV} (h1:fz (d+1) H u=some u') (h2:fz (d+1) H v=some v') (h3:fz (d+1) H w=some w'):fz (d+2) H (.agg [u,v,w])=some (.agg [u',v',w']):=by
 have e:fz (d+2) H (.agg [u,v,w])=if aQ (.agg [u,v,w])=true then some (.agg [u,v,w]) else ([u,v,w].mapM (fz (d+1) H)).map .agg:=rfl
 rw[e]
 by_cases hp:aQ (.agg [u,v,w])=true
 ·rw[if_pos hp]
  simp only[aQ,aO,Bool.and_eq_true,and_true] at hp
  rw[aI hp.1] at h1
  rw[aI hp.2.1] at h2
  rw[aI hp.2.2] at h3
  cases h1
  cases h2
  cases h3
  rfl
 ·rw[if_neg hp,List.mapM_cons,h1,List.mapM_cons,h2,List.mapM_cons,h3]
  rfl
theorem aiL {d:Nat} {H:aA} {v:Value} (h:lG v=true):fz (d+1) H (.sc v)=some (.sc v):=aI h
theorem wX {H:aA} {neg:Bool} {t b:Nat}:fz depth H (.agg [VB neg,bN t,bN b])=some (.agg [VB neg,bN t,bN b]):=aE (by simp[aQ,aO,bU,lG])
theorem sC {H:aA} (q:Rat):fz depth H (aP q)=some (aP q):=aE (fN q)
theorem ayC {n:Nat} (h:bl n≤2199023255552):(aC 4294967296 n).length≤68719476736:=by
 have:=apE n
 omega
theorem fZ {n:Nat} (h:bl n≤4398046511104):(aC 4294967296 n).length≤17592186044416:=by
 have:=apE n
 omega
theorem rK (neg:Bool) (t b:Nat) (hb:b≠0) (ht:bl t≤4398046511104) (vB:bl b≤4398046511104):TC 144 [VB neg,bN t,bN b] (aP (mkRat (lJ neg t) b)):=by
 refine TC.walk ⟨true,false⟩ PB rfl (Nat.le_of_ble_eq_true rfl) (by simp[aO,bU,aQ,lG]) (rG _) ?_
 by_cases h0:t=0
 ·subst h0
  have hl:(((aC 4294967296 0).length:Nat):Int)=0:=by rw[cF];rfl
  have c1:TC 139 [.sc (.int .u64 1)] (bN 1):=nT 1 (by decide)
  rw[Ai,Rat.zero_mkRat,abL,←Fz]
  simp only[wW,rO,dT,hl,c1,aS,aT,aN,iB,Nat.reduceLeDiff,Nat.reduceLT,Nat.reduceSub,VX,Nat.reduceEqDiff,Nat.reduceAdd]
  exact sD (aiL rfl) yN (aI (bU _))
 ·have hl:¬(((aC 4294967296 t).length:Nat):Int)=0:=by have:=yP.2 h0;omega
  have c1:=E7 t b (fZ ht) (fZ vB)
  have hg0:Nat.gcd t b≠0:=Nat.gcd_ne_zero_right hb
  have hgl:bl (Nat.gcd t b)≤4398046511104:=Nat.le_trans (lE (Nat.gcd_le_right t (by omega))) vB
  have c2:=zJ t _ hg0 (fZ ht) (fZ hgl)
  have c3:=zJ b _ hg0 (fZ vB) (fZ hgl)
  rw[alN hb h0]
  by_cases h1:((aC 4294967296 (Nat.gcd t b)).length:Int)=1
  ·obtain⟨d,hd⟩:∃d,aC 4294967296 (Nat.gcd t b)=[d]:=List.length_eq_one_iff.1 (by omega)
   obtain⟨hgd,_,_⟩:=T1 hd
   have e1:bL 1 (bN (Nat.gcd t b)) (.sc (.int .i64 0)) [.row 0 [.agg [VB false,.tree [] .nil,.tree [] .nil]] 3 true]=some (.dA (uV d) 0):=aK (f:=uV) (xs:=aC 4294967296 (Nat.gcd t b)) (i:=0) (k := .i64) (by rw[hd];rfl) rfl
   by_cases h2:(d:Int)=1
   ·have hg1:Nat.gcd t b=1:=by omega
    simp only[wW,rO,dT,hl,c1,h1,h2,e1,aS,aT,aN,iB,Nat.reduceLeDiff,Nat.reduceLT,Nat.reduceSub,VX,Nat.reduceEqDiff,Nat.reduceAdd]
    rw[hg1,Nat.div_one,Nat.div_one]
    exact wX
   ·simp only[wW,rO,dT,hl,c1,c2,c3,h1,h2,e1,aS,aT,aN,iB,Nat.reduceLeDiff,Nat.reduceLT,Nat.reduceSub,VX,Nat.reduceEqDiff,Nat.reduceAdd]
    exact wX
  ·simp only[wW,rO,dT,hl,c1,c2,c3,h1,aS,aT,aN,iB,Nat.reduceLeDiff,Nat.reduceLT,Nat.reduceSub,VX,Nat.reduceEqDiff,Nat.reduceAdd]
   exact wX
theorem ZL {n:Int} (h0 : -9223372036854775808≤n) (h:n<0):IntKind.u64.wrap (0-IntKind.u64.wrap n)=(n.natAbs:Int):=by
 rw[wrap_u64,wrap_u64]
 omega
theorem JB (n:Int) (h0 : -9223372036854775808≤n) (h1:n≤9223372036854775807):TC 140 [VI n] (VK .u64 (n.natAbs:Int)):=by
 refine TC.walk ⟨true,false⟩ Kk rfl (Nat.le_of_ble_eq_true rfl) rfl rfl ?_
 by_cases h:n<0
 ·simp only[AA,vK,h,ZL h0 h,VX,Nat.reduceEqDiff,Nat.reduceAdd]
  exact aE rfl
 ·have w:IntKind.u64.wrap n=(n.natAbs:Int):=by rw[wrap_u64];omega
  simp only[AA,vK,h,w,VX,Nat.reduceEqDiff,Nat.reduceAdd]
  exact aE rfl
theorem ajH (n:Int):aP (n:Rat) = .agg [VB (decide (n<0)),bN n.natAbs,bN 1]:=C4 (by simp) (by simp) (by simp)
theorem qP (n:Int) (h0 : -9223372036854775808≤n) (h1:n≤9223372036854775807):TC 64 [VI n] (aP (n:Rat)):=by
 refine TC.walk ⟨true,false⟩ Su rfl (Nat.le_of_ble_eq_true rfl) rfl (rG _) ?_
 have c1:=JB n h0 h1
 have c2:=nT n.natAbs (by omega)
 have c3:TC 139 [.sc (.int .u64 1)] (bN 1):=nT 1 (by decide)
 rw[ajH]
 simp only[MR,HF,c1,c2,c3,aS,aT,aN,iB,Nat.reduceLeDiff,Nat.reduceLT,Nat.reduceSub,VX,Nat.reduceEqDiff,Nat.reduceAdd]
 exact wX
theorem MO {q:Rat}:(((aC 4294967296 q.num.natAbs).length:Nat):Int)=0↔q.num=0:=by
 have:=yP (n:=q.num.natAbs)
 omega
theorem iE (q:Rat):TC 68 [aP q] (VI (kS q)):=by
 refine TC.walk ⟨true,false⟩ Jg rfl (Nat.le_of_ble_eq_true rfl) (by simp[aO,fN]) rfl ?_
 unfold kS
 by_cases h0:q.num=0
 ·have hl:=MO.2 h0
  rw[if_pos h0]
  simp only[rX,pE,dT,hl,aH,kE,kC,aS,aT,aN,iB,Nat.reduceLeDiff,Nat.reduceLT,Nat.reduceSub,VX,Nat.reduceEqDiff,Nat.reduceAdd]
  exact aE rfl
 ·have hl:¬(((aC 4294967296 q.num.natAbs).length:Nat):Int)=0:=fun h=>h0 (MO.1 h)
  rw[if_neg h0]
  by_cases h1:q.num<0
  ·simp only[rX,pE,dT,hl,h1,aH,kE,kC,aS,aT,aN,iB,Nat.reduceLeDiff,Nat.reduceLT,Nat.reduceSub,VX,Nat.reduceEqDiff,Nat.reduceAdd]
   exact aE rfl
  ·simp only[rX,pE,dT,hl,h1,aH,kE,kC,aS,aT,aN,iB,Nat.reduceLeDiff,Nat.reduceLT,Nat.reduceSub,VX,Nat.reduceEqDiff,Nat.reduceAdd]
   exact aE rfl
theorem Jp (q:Rat):TC 177 [aP q] (aP (-q)):=by
 refine TC.walk ⟨true,false⟩ Hu rfl (Nat.le_of_ble_eq_true rfl) (by simp[aO,fN]) (rG _) ?_
 have hq:aP (-q) = .agg [VB (decide (0<q.num)),bN q.num.natAbs,bN q.den]:=C4 (by simp) (by simp) (by simp)
 rw[hq]
 by_cases h1:q.num<0
 ·have h2:¬0<q.num:=by omega
  simp only[qI,oD,dT,h1,h2,aH,kE,kC,mN,aS,aT,aN,iB,Nat.reduceLeDiff,Nat.reduceLT,Nat.reduceSub,VX,Nat.reduceEqDiff,Nat.reduceAdd]
  exact wX
 ·by_cases h0:q.num=0
  ·have hl:¬(0:Int)<((aC 4294967296 q.num.natAbs).length:Int):=by have:=MO.2 h0;omega
   have h2:¬0<q.num:=by omega
   simp only[qI,oD,dT,hl,h1,h2,aH,kE,kC,mN,aS,aT,aN,iB,Nat.reduceLeDiff,Nat.reduceLT,Nat.reduceSub,VX,Nat.reduceEqDiff,Nat.reduceAdd]
   exact wX
  ·have hl:(0:Int)<((aC 4294967296 q.num.natAbs).length:Int):=by have:=mt MO.1 h0;omega
   have h2:0<q.num:=by omega
   simp only[qI,oD,dT,hl,h1,h2,aH,kE,kC,mN,aS,aT,aN,iB,Nat.reduceLeDiff,Nat.reduceLT,Nat.reduceSub,VX,Nat.reduceEqDiff,Nat.reduceAdd]
   exact wX
end Go.PM
namespace Go.PM
open Go.Lib
theorem wA (a b:Bool):Pv false (.bool a) (.bool b)=some (.bool (a == b)):=by
 show some (Value.bool ((a == b) != false))=_
 rw[Bool.bne_false]
theorem oO (a b:Bool):Pv true (.bool a) (.bool b)=some (.bool (a != b)):=by
 show some (Value.bool ((a == b) != true))=_
 cases a<;>cases b<;>rfl
theorem sK {q:Rat} {k:Nat} (h:aZ q≤k):bl q.num.natAbs≤k:=Nat.le_trans oK h
theorem sU {q:Rat} {k:Nat} (h:aZ q≤k):bl q.den≤k:=Nat.le_trans mP h
theorem JQ {X Y B:Nat} {a b:Rat} (hB:B≠0) (ha:mkRat (lJ (decide (a.num<0)) X) B=a) (hb:mkRat (lJ (decide (b.num<0)) Y) B=b) :
  ((decide (a.num<0))=(decide (b.num<0))→mkRat (lJ (decide (a.num<0)) (X+Y)) B=a+b) ∧
  ((decide (a.num<0))≠(decide (b.num<0))→Y≤X→mkRat (lJ (decide (a.num<0)) (X-Y)) B=a+b) ∧
  ((decide (a.num<0))≠(decide (b.num<0))→X≤Y→mkRat (lJ (decide (b.num<0)) (Y-X)) B=a+b):=by
 refine⟨fun h => ?_,fun h hx => ?_,fun h hx => ?_⟩
 ·conv=>rhs;rw[←ha,←hb,Et _ _ hB,←h,Sl]
 ·conv=>rhs;rw[←ha,←hb,Et _ _ hB,Wv h hx]
 ·conv=>rhs;rw[←ha,←hb,Et _ _ hB,V5 h hx]
theorem zI (a b:Rat) (J4:aZ a≤1099511627776) (G2:aZ b≤1099511627776):TC 69 [aP a,aP b] (aP (a+b)):=by
 refine TC.walk ⟨true,false⟩ Ke rfl (Nat.le_of_ble_eq_true rfl) (by simp[aO,fN]) (rG _) ?_
 have ca:=iE a
 have cb:=iE b
 by_cases ha0:a.num=0
 ·have:a=0:=Rat.num_eq_zero.1 ha0
  rw[lC ha0] at ca
  rw[this,Rat.zero_add,←this]
  simp only[hC,fH,ca,cb,aH,cZ,cM,aS,aT,aN,iB,Nat.reduceLeDiff,Nat.reduceLT,Nat.reduceSub,VX,Nat.reduceEqDiff,Nat.reduceAdd]
  exact sC _
 have hsa:¬kS a=0:=fun h=>ha0 (Rat.num_eq_zero.2 (CP.1 h))
 by_cases XE:b.num=0
 ·have:b=0:=Rat.num_eq_zero.1 XE
  rw[lC XE] at cb
  rw[this,Rat.add_zero,←this]
  simp only[hC,fH,ca,cb,hsa,aH,cZ,cM,aS,aT,aN,iB,Nat.reduceLeDiff,Nat.reduceLT,Nat.reduceSub,VX,Nat.reduceEqDiff,Nat.reduceAdd]
  exact sC _
 have hsb:¬kS b=0:=fun h=>XE (Rat.num_eq_zero.2 (CP.1 h))
 have la:=sK J4
 have lb:=sK G2
 have lda:=sU J4
 have ldb:=sU G2
 have fin:∀(X Y B:Nat),bl X≤2199023255552→bl Y≤2199023255552→bl B≤2199023255552→B≠0→mkRat (lJ (decide (a.num<0)) X) B=a→mkRat (lJ (decide (b.num<0)) Y) B=b →
   TC 145 [bN X,bN Y] (bN (X+Y))∧TC 142 [bN X,bN Y] (VI (fK X Y)) ∧
   (Y≤X→TC 146 [bN X,bN Y] (bN (X-Y)))∧(X≤Y→TC 146 [bN Y,bN X] (bN (Y-X))) ∧
   (∀neg,TC 144 [VB neg,bN (X+Y),bN B] (aP (mkRat (lJ neg (X+Y)) B))) ∧
   (∀neg,TC 144 [VB neg,bN (X-Y),bN B] (aP (mkRat (lJ neg (X-Y)) B))) ∧
   (∀neg,TC 144 [VB neg,bN (Y-X),bN B] (aP (mkRat (lJ neg (Y-X)) B))):=by
  intro X Y B hX hY hB hB0 _ _
  refine⟨Ei X Y (fZ (by omega)) (fZ (by omega)),kW X Y (fZ (by omega)) (fZ (by omega)),fun h=>EV X Y h (fZ (by omega)),fun h=>EV Y X h (fZ (by omega)),fun neg=>rK neg _ _ hB0 ?_ (by omega),fun neg=>rK neg _ _ hB0 ?_ (by omega),fun neg=>rK neg _ _ hB0 ?_ (by omega)⟩
  ·exact Nat.le_trans (VN hX hY) (by omega)
  ·exact Nat.le_trans (lE (Nat.sub_le _ _)) (by omega)
  ·exact Nat.le_trans (lE (Nat.sub_le _ _)) (by omega)
 by_cases hd:a.den=b.den
 ·have hBn:=a.den_nz
  have cc:=kW a.den b.den (fZ (by omega)) (fZ (by omega))
  rw[show fK a.den b.den=0 from yZ.2 hd] at cc
  have eb:mkRat (lJ (decide (b.num<0)) b.num.natAbs) a.den=b:=by rw[hd,My]
  obtain⟨f1,f2,f3,f4,f5,f6,f7⟩:=fin a.num.natAbs b.num.natAbs a.den (by omega) (by omega) (by omega) hBn (My a) eb
  obtain⟨p1,p2,p3⟩:=JQ hBn (My a) eb
  by_cases hn:decide (a.num<0)=decide (b.num<0)
  ·have UP:(decide (a.num<0) == decide (b.num<0))=true:=by simpa using hn
   rw[←p1 hn]
   simp only[hC,fH,ca,cb,hsa,hsb,cc,f1,f5,wA,oO,UP,aH,cZ,kE,kC,mN,cM,aS,aT,aN,iB,Nat.reduceLeDiff,Nat.reduceLT,Nat.reduceSub,VX,Nat.reduceEqDiff,Nat.reduceAdd]
   exact sC _
  ·have UP:(decide (a.num<0) == decide (b.num<0))=false:=by simpa using hn
   by_cases hx:(0:Int)≤fK a.num.natAbs b.num.natAbs
   ·have hle:b.num.natAbs≤a.num.natAbs:=by have := @wD a.num.natAbs b.num.natAbs;omega
    have c3:=f3 hle
    rw[←p2 hn hle]
    simp only[hC,fH,ca,cb,hsa,hsb,cc,f2,c3,f6,hx,wA,oO,UP,aH,cZ,kE,kC,mN,cM,aS,aT,aN,iB,Nat.reduceLeDiff,Nat.reduceLT,Nat.reduceSub,VX,Nat.reduceEqDiff,Nat.reduceAdd]
    exact sC _
   ·have hle:a.num.natAbs≤b.num.natAbs:=by have := @wD a.num.natAbs b.num.natAbs;omega
    have c3:=f4 hle
    rw[←p3 hn hle]
    simp only[hC,fH,ca,cb,hsa,hsb,cc,f2,c3,f7,hx,wA,oO,UP,aH,cZ,kE,kC,mN,cM,aS,aT,aN,iB,Nat.reduceLeDiff,Nat.reduceLT,Nat.reduceSub,VX,Nat.reduceEqDiff,Nat.reduceAdd]
    exact sC _
 ·have hBn:=Nat.mul_ne_zero a.den_nz b.den_nz
  have cc:=kW a.den b.den (fZ (by omega)) (fZ (by omega))
  have Sv:¬fK a.den b.den=0:=fun h=>hd (yZ.1 h)
  have m1:=jB a.num.natAbs b.den (fZ (by omega)) (fZ (by omega))
  have m2:=jB b.num.natAbs a.den (fZ (by omega)) (fZ (by omega))
  have m3:=jB a.den b.den (fZ (by omega)) (fZ (by omega))
  have ea:mkRat (lJ (decide (a.num<0)) (a.num.natAbs*b.den)) (a.den*b.den)=a:=Fu a b.den_nz
  have eb:mkRat (lJ (decide (b.num<0)) (b.num.natAbs*a.den)) (a.den*b.den)=b:=by rw[Nat.mul_comm a.den];exact Fu b a.den_nz
  have k1:=lL a.num.natAbs b.den
  have k2:=lL b.num.natAbs a.den
  have k3:=lL a.den b.den
  obtain⟨f1,f2,f3,f4,f5,f6,f7⟩:=fin _ _ _ (by omega) (by omega) (by omega) hBn ea eb
  obtain⟨p1,p2,p3⟩:=JQ hBn ea eb
  by_cases hn:decide (a.num<0)=decide (b.num<0)
  ·have UP:(decide (a.num<0) == decide (b.num<0))=true:=by simpa using hn
   rw[←p1 hn]
   simp only[hC,fH,ca,cb,hsa,hsb,cc,Sv,m1,m2,m3,f1,f5,wA,oO,UP,aH,cZ,kE,kC,mN,cM,aS,aT,aN,iB,Nat.reduceLeDiff,Nat.reduceLT,Nat.reduceSub,VX,Nat.reduceEqDiff,Nat.reduceAdd]
   exact sC _
  ·have UP:(decide (a.num<0) == decide (b.num<0))=false:=by simpa using hn
   by_cases hx:(0:Int)≤fK (a.num.natAbs*b.den) (b.num.natAbs*a.den)
   ·have hle:b.num.natAbs*a.den≤a.num.natAbs*b.den:=by have := @wD (a.num.natAbs*b.den) (b.num.natAbs*a.den);omega
    have c3:=f3 hle
    rw[←p2 hn hle]
    simp only[hC,fH,ca,cb,hsa,hsb,cc,Sv,m1,m2,m3,f2,c3,f6,hx,wA,oO,UP,aH,cZ,kE,kC,mN,cM,aS,aT,aN,iB,Nat.reduceLeDiff,Nat.reduceLT,Nat.reduceSub,VX,Nat.reduceEqDiff,Nat.reduceAdd]
    exact sC _
   ·have hle:a.num.natAbs*b.den≤b.num.natAbs*a.den:=by have := @wD (a.num.natAbs*b.den) (b.num.natAbs*a.den);omega
    have c3:=f4 hle
    rw[←p3 hn hle]
    simp only[hC,fH,ca,cb,hsa,hsb,cc,Sv,m1,m2,m3,f2,c3,f7,hx,wA,oO,UP,aH,cZ,kE,kC,mN,cM,aS,aT,aN,iB,Nat.reduceLeDiff,Nat.reduceLT,Nat.reduceSub,VX,Nat.reduceEqDiff,Nat.reduceAdd]
    exact sC _
theorem Nx (a b:Rat) (J4:aZ a≤1099511627776) (G2:aZ b≤1099511627776):TC 128 [aP a,aP b] (aP (a-b)):=by
 refine TC.walk ⟨true,false⟩ JY rfl (Nat.le_of_ble_eq_true rfl) (by simp[aO,fN]) (rG _) ?_
 have c1:=Jp b
 have c2:=zI a (-b) J4 (by rw[Kr];exact G2)
 rw[←Rat.sub_eq_add_neg] at c2
 simp only[EP,BR,c1,c2,aH,cZ,cM,aS,aT,aN,iB,Nat.reduceLeDiff,Nat.reduceLT,Nat.reduceSub,VX,Nat.reduceEqDiff,Nat.reduceAdd]
 exact sC _
theorem EL (a b:Rat) (J4:aZ a≤1099511627776) (G2:aZ b≤1099511627776):TC 132 [aP a,aP b] (aP (a*b)):=by
 refine TC.walk ⟨true,false⟩ JW rfl (Nat.le_of_ble_eq_true rfl) (by simp[aO,fN]) (rG _) ?_
 have ca:=iE a
 have cb:=iE b
 have c0:TC 64 [VI 0] (aP 0):=qP 0 (by decide) (by decide)
 by_cases ha0:a.num=0
 ·have:a=0:=Rat.num_eq_zero.1 ha0
  rw[lC ha0] at ca
  rw[show a*b=0 by rw[this,Rat.zero_mul]]
  simp only[tL,qO,ca,cb,c0,aH,cZ,cM,aS,aT,aN,iB,Nat.reduceLeDiff,Nat.reduceLT,Nat.reduceSub,VX,Nat.reduceEqDiff,Nat.reduceAdd]
  exact sC _
 have hsa:¬kS a=0:=fun h=>ha0 (Rat.num_eq_zero.2 (CP.1 h))
 by_cases XE:b.num=0
 ·have:b=0:=Rat.num_eq_zero.1 XE
  rw[lC XE] at cb
  rw[show a*b=0 by rw[this,Rat.mul_zero]]
  simp only[tL,qO,ca,cb,hsa,c0,aH,cZ,cM,aS,aT,aN,iB,Nat.reduceLeDiff,Nat.reduceLT,Nat.reduceSub,VX,Nat.reduceEqDiff,Nat.reduceAdd]
  exact sC _
 have hsb:¬kS b=0:=fun h=>XE (Rat.num_eq_zero.2 (CP.1 h))
 have la:=sK J4
 have lb:=sK G2
 have lda:=sU J4
 have ldb:=sU G2
 have l1:=rK false a.num.natAbs b.den b.den_nz (by omega) (by omega)
 have l2:=rK false b.num.natAbs a.den a.den_nz (by omega) (by omega)
 obtain⟨d1,d2⟩:=Ct a.num.natAbs b.den_nz
 obtain⟨d3,d4⟩:=Ct b.num.natAbs a.den_nz
 have b1:=lE (Nat.le_of_dvd (by omega) d1)
 have b2:=lE (Nat.le_of_dvd (Nat.pos_of_ne_zero b.den_nz) d2)
 have b3:=lE (Nat.le_of_dvd (by omega) d3)
 have b4:=lE (Nat.le_of_dvd (Nat.pos_of_ne_zero a.den_nz) d4)
 obtain⟨e1,e2⟩:=ZX a b
 have e3:=Ug ha0 XE
 generalize mkRat (lJ false a.num.natAbs) b.den=u at *
 generalize mkRat (lJ false b.num.natAbs) a.den=v at *
 have m1:=jB u.num.natAbs v.num.natAbs (fZ (by omega)) (fZ (by omega))
 have m2:=jB u.den v.den (fZ (by omega)) (fZ (by omega))
 rw[C4 e3 e1 e2]
 simp only[tL,qO,ca,cb,hsa,hsb,l1,l2,m1,m2,wA,oO,aH,cZ,kE,kC,mN,cM,aS,aT,aN,iB,Nat.reduceLeDiff,Nat.reduceLT,Nat.reduceSub,VX,Nat.reduceEqDiff,Nat.reduceAdd]
 exact wX
theorem agZ {b:Rat} (h:b≠0):aP b⁻¹ = .agg [VB (decide (b.num<0)),bN b.den,bN b.num.natAbs]:=by
 have hn:b.num≠0:=fun hn=>h (Rat.num_eq_zero.1 hn)
 have hd:(0:Int)<b.den:=by have:=b.den_nz;omega
 refine C4 ?_ ?_ ?_
 ·rw[Rat.num_inv,decide_eq_true_eq]
  rcases Int.lt_or_gt_of_ne hn with h1 | h1
  ·rw[Int.sign_eq_neg_one_of_neg h1];omega
  ·rw[Int.sign_eq_one_of_pos h1];omega
 ·rw[Rat.num_inv,Int.natAbs_mul,Int.natAbs_natCast]
  rcases Int.lt_or_gt_of_ne hn with h1 | h1
  ·rw[Int.sign_eq_neg_one_of_neg h1];simp
  ·rw[Int.sign_eq_one_of_pos h1];simp
 ·rw[Rat.den_inv,if_neg hn]
theorem Mm (a b:Rat) (hb:b≠0) (J4:aZ a≤1099511627776) (G2:aZ b≤1099511627776):TC 129 [aP a,aP b] (aP (a / b)):=by
 refine TC.walk ⟨true,false⟩ HX rfl (Nat.le_of_ble_eq_true rfl) (by simp[aO,fN]) (rG _) ?_
 have c1:=EL a b⁻¹ J4 (Nat.le_trans (QO b) G2)
 rw[←Rat.div_def,agZ hb] at c1
 simp only[Di,AN,c1,aH,cZ,kE,kC,mN,cM,aS,aT,aN,iB,Nat.reduceLeDiff,Nat.reduceLT,Nat.reduceSub,VX,Nat.reduceEqDiff,Nat.reduceAdd]
 exact sC _
theorem Lr (q:Rat) : -1≤kS q∧kS q≤1:=by
 rcases Int.lt_trichotomy q.num 0 with h | h | h
 ·rw[pC h];omega
 ·rw[lC h];omega
 ·rw[pF h];omega
theorem WV (m n:Nat) : -1≤fK m n∧fK m n≤1:=by
 rcases Nat.lt_trichotomy m n with h | h | h
 ·rw[fK,if_pos h];omega
 ·subst h;rw[fK,if_neg (by omega),if_pos rfl];omega
 ·rw[fK,if_neg (by omega),if_neg (by omega)];omega
theorem EO (a b:Rat) (J4:aZ a≤1099511627776) (G2:aZ b≤1099511627776):TC 148 [aP a,aP b] (VI (Pj a b)):=by
 refine TC.walk ⟨true,false⟩ Km rfl (Nat.le_of_ble_eq_true rfl) (by simp[aO,fN]) rfl ?_
 have ca:=iE a
 have cb:=iE b
 have la:=sK J4
 have lb:=sK G2
 have lda:=sU J4
 have ldb:=sU G2
 have k1:=lL a.num.natAbs b.den
 have k2:=lL b.num.natAbs a.den
 have m1:=jB a.num.natAbs b.den (fZ (by omega)) (fZ (by omega))
 have m2:=jB b.num.natAbs a.den (fZ (by omega)) (fZ (by omega))
 have c1:=kW (a.num.natAbs*b.den) (b.num.natAbs*a.den) (fZ (by omega)) (fZ (by omega))
 have ra:=Lr a
 have rb:=Lr b
 have rc:=WV (a.num.natAbs*b.den) (b.num.natAbs*a.den)
 unfold Pj
 by_cases hs:kS a=kS b
 ·rw[if_pos hs]
  have w:IntKind.i64.wrap (0-fK (a.num.natAbs*b.den) (b.num.natAbs*a.den)) = -fK (a.num.natAbs*b.den) (b.num.natAbs*a.den):=by rw[wrap64 (by omega) (by omega)];omega
  by_cases hn:a.num<0
  ·rw[if_pos hn]
   simp only[tH,qC,ca,cb,hs,m1,m2,c1,hn,w,aH,cZ,kE,kC,mN,cM,aS,aT,aN,iB,Nat.reduceLeDiff,Nat.reduceLT,Nat.reduceSub,VX,Nat.reduceEqDiff,Nat.reduceAdd]
   exact aE rfl
  ·rw[if_neg hn]
   simp only[tH,qC,ca,cb,hs,m1,m2,c1,hn,aH,cZ,kE,kC,mN,cM,aS,aT,aN,iB,Nat.reduceLeDiff,Nat.reduceLT,Nat.reduceSub,VX,Nat.reduceEqDiff,Nat.reduceAdd]
   exact aE rfl
 ·rw[if_neg hs]
  have w:IntKind.i64.wrap (kS a-kS b)=kS a-kS b:=wrap64 (by omega) (by omega)
  simp only[tH,qC,ca,cb,hs,w,aH,cZ,kE,kC,mN,cM,aS,aT,aN,iB,Nat.reduceLeDiff,Nat.reduceLT,Nat.reduceSub,VX,Nat.reduceEqDiff,Nat.reduceAdd]
  exact aE rfl
theorem KE (a:Rat) (J4:aZ a≤1099511627776):TC 161 [aP a] (VB (decide (a=1))):=by
 refine TC.walk ⟨true,false⟩ Hg rfl (Nat.le_of_ble_eq_true rfl) (by simp[aO,fN]) rfl ?_
 have c1:=EO a 1 J4 (by rw[Cn];decide)
 have c2:TC 64 [VI 1] (aP 1):=qP 1 (by decide) (by decide)
 by_cases h:Pj a 1=0
 ·rw[decide_eq_true (Rm.1 h)]
  simp only[vM,sW,c1,c2,h,aH,cZ,cM,aS,aT,aN,iB,Nat.reduceLeDiff,Nat.reduceLT,Nat.reduceSub,VX,Nat.reduceEqDiff,Nat.reduceAdd]
  exact aE rfl
 ·rw[decide_eq_false (mt Rm.2 h)]
  simp only[vM,sW,c1,c2,h,aH,cZ,cM,aS,aT,aN,iB,Nat.reduceLeDiff,Nat.reduceLT,Nat.reduceSub,VX,Nat.reduceEqDiff,Nat.reduceAdd]
  exact aE rfl
end Go.PM
namespace Go.PM
theorem rL {n:Nat}:(0:Int)<((aC 1000000000 n).length:Int)↔n≠0:=by
 constructor
 ·intro h h0
  subst h0
  rw[cF] at h
  simp at h
 ·intro h
  have:=(nA (b:=1000000000) (by decide) (n:=n))
  have h2:aC 1000000000 n≠[]:=fun hx=>h (this.1 hx)
  have:=List.length_pos_iff.2 h2
  omega
theorem lI {n:Nat} (h:bl n≤4398046511104):(aC 1000000000 n).length<17592186044416:=by
 have:=aoL n
 omega
theorem Gk (a b:Nat) (ha:(aC 1000000000 a).length<17592186044416) (hb:(aC 1000000000 b).length<17592186044416):TC 170 [cA a,cA b] (cA (Nat.gcd a b)):=by
 refine TC.walk ⟨true,false⟩ Pc rfl (Nat.le_of_ble_eq_true rfl) (by simp[aO,cL]) (oH _) ?_
 simp only[KH,Gd,VX,Nat.reduceEqDiff,Nat.reduceAdd]
 refine aV (fun(t:Nat×Nat) ρ H=>H=[]∧Nat.gcd t.1 t.2=Nat.gcd a b∧(aC 1000000000 t.1).length<17592186044416∧(aC 1000000000 t.2).length<17592186044416∧ρ 0=cA t.1∧ρ 1=cA t.2) (fun t=>t.2) (a,b) ⟨rfl,rfl,ha,hb,rfl,rfl⟩ ?_
 rintro⟨x,y⟩ ρ H ⟨rfl,hg,hx,hy,g0,g1⟩
 simp only at hg hx hy g0 g1
 by_cases hy0:y=0
 ·subst hy0
  have hl:¬(0:Int)<((aC 1000000000 0).length:Int):=by rw[rL];omega
  rw[Nat.gcd_zero_right] at hg
  simp only[AI,g0,g1,cQ,hl,VX,Nat.reduceEqDiff,Nat.reduceAdd]
  rw[hg]
  exact aE (cL _)
 ·have hl:(0:Int)<((aC 1000000000 y).length:Int):=rL.2 hy0
  have c3:=vP x y hy0 hx hy
  have hm:=Nat.mod_lt x (show 0<y by omega)
  simp only[AI,g0,g1,cQ,hl,c3,VX,Nat.reduceEqDiff,Nat.reduceAdd]
  refine⟨(y,x % y),hm,?_,hy,?_,rfl,rfl⟩
  ·simp only
   rw[←hg,Nat.gcd_comm x y,Nat.gcd_rec y x,Nat.gcd_comm]
  ·simp only
   have:=eZ (b:=1000000000) (by decide) (Nat.le_of_lt hm)
   omega
def aY (q:Rat):VV := .agg [VB (decide (q.num<0)),cA q.num.natAbs,cA q.den]
theorem jE (q:Rat):aQ (aY q)=true:=by simp[aY,aQ,aO,cL,lG]
theorem rJ (q:Rat):fX (aY q)=true:=by simp[aY,fX,rE,oH,lG]
theorem MK {q:Rat} {neg:Bool} {t b:Nat} (h0:q.num<0↔neg=true) (h1:q.num.natAbs=t) (h2:q.den=b):aY q = .agg [VB neg,cA t,cA b]:=by
 subst h1 h2
 unfold aY
 congr 4
 cases neg<;>simp_all
theorem aL (n:Nat):bS (cA n)=true:=rfl
theorem bD (n:Nat):isAny (cA n)=false:=rfl
theorem bA (n:Nat):aB (cA n)=[cA n]:=rfl
theorem iP (q:Rat):isAny (aY q)=false:=rfl
theorem bJ (q:Rat):aB (aY q)=[VB (decide (q.num<0)),cA q.num.natAbs,cA q.den]:=rfl
theorem dJ (q:Rat):dM true 3 (aY q) 0=some (aY q):=rfl
theorem dS (q:Rat):dM false 1 (aY q) 0=some (VB (decide (q.num<0))):=rfl
theorem eT (q:Rat):dM false 1 (aY q) 1=some (cA q.num.natAbs):=rfl
theorem eY (q:Rat):dM false 1 (aY q) 2=some (cA q.den):=rfl
theorem qR {H:aA} {neg:Bool} {t b:Nat}:fz depth H (.agg [VB neg,cA t,cA b])=some (.agg [VB neg,cA t,cA b]):=aE (by simp[aQ,aO,cL,lG])
theorem AU {H:aA} (q:Rat):fz depth H (aY q)=some (aY q):=aE (jE q)
theorem ahY (n:Int):aY (n:Rat) = .agg [VB (decide (n<0)),cA n.natAbs,cA 1]:=MK (by simp) (by simp) (by simp)
theorem MI {n lo:Nat} {H:aA} {K:VV→aA→Prop} (h:(aC 1000000000 n).length≤17592186044416):cO 155 [cA n,.tree [VI 1] (.cl 1)] lo H K=K (VI (fK n 1)) H:=by
 have c:=rP n 1 h (by rw[Fb (by decide) (by decide) (by decide)];simp)
 have e:cA 1 = .tree [VI 1] .op:=by rw[cA,Fb (by decide) (by decide) (by decide)];rfl
 rw[e] at c
 exact TC.args c rfl (by simp only[aO,cL];rfl) (fz2 (aE (cL n)) (aoB rfl)) (by simp only[List.flatMap_cons,List.flatMap_nil,G5 (cL n),ajV (es:=[VI 1]) rfl,List.append_nil]) lo K
theorem eQ {d:Int} {H:aA}:kD false [.int .i64 0] 1 [(0,VI d)] H=some (.tree [VI d] (.cl 1),H):=uT
theorem gJ {e:Nat} {es:List VV}:bS (.tree es (.cl e))=true:=rfl
theorem eK {k:TK} {es:List VV}:aB (.tree es k)=[.tree es k]:=rfl
theorem gF {k:TK} {es:List VV}:isAny (.tree es k)=false:=rfl
theorem RN {d:Nat} {H:aA}:fz (d+2) H (.tree [VI 1] (.cl 1))=some (cA 1):=by
 rw[aeE]
 unfold fz
 have:aQ (.tree [VI 1] (.cl 1))=false:=by simp[aQ]
 simp only[this,Bool.false_eq_true,if_false]
 rfl
theorem pM (neg:Bool) (t b:Nat) (hb:b≠0) (ht:bl t≤4398046511104) (vB:bl b≤4398046511104):TC 153 [VB neg,cA t,cA b] (aY (mkRat (lJ neg t) b)):=by
 refine TC.walk ⟨true,false⟩ MS rfl (Nat.le_of_ble_eq_true rfl) (by simp[aO,cL,aQ,lG]) (rJ _) ?_
 have hg0:Nat.gcd t b≠0:=Nat.gcd_ne_zero_right hb
 have hgl:bl (Nat.gcd t b)≤4398046511104:=Nat.le_trans (lE (Nat.gcd_le_right t (by omega))) vB
 have c1:=Gk t b (lI ht) (lI vB)
 have c2:=vP t _ hg0 (lI ht) (lI hgl)
 have c3:=vP b _ hg0 (lI vB) (lI hgl)
 have c4:∀lo H K,_:=fun lo H K=>MI (n:=Nat.gcd t b) (lo:=lo) (H:=H) (K:=K) (Nat.le_of_lt (lI hgl))
 have XH:aY (mkRat (lJ neg t) b) = .agg [VB (neg&&decide (t / Nat.gcd t b≠0)),cA (t / Nat.gcd t b),cA (b / Nat.gcd t b)]:=by
  refine MK ?_ (by rw[GM hb,pD]) (SJ hb)
  rw[GM hb,RD,Bool.and_eq_true,decide_eq_true_eq]
 rw[XH]
 by_cases h1:fK (Nat.gcd t b) 1=0
 ·have hg1:=yZ.1 h1
  have e1:t / Nat.gcd t b=t:=by rw[hg1,Nat.div_one]
  have e2:b / Nat.gcd t b=b:=by rw[hg1,Nat.div_one]
  rw[e1,e2]
  cases neg with
  |
   false =>
   simp only[nS,kU,c1,c4,h1,eQ,aL,bD,bA,iB,Nat.reduceLeDiff,Nat.reduceLT,Nat.reduceSub,VX,Nat.reduceEqDiff,Nat.reduceAdd]
   exact qR
  |
   true =>
   by_cases h0:t=0
   ·have hl:¬(0:Int)<((aC 1000000000 t).length:Int):=by rw[rL];omega
    simp only[nS,kU,c1,c4,h1,hl,cQ,eQ,aL,bD,bA,iB,Nat.reduceLeDiff,Nat.reduceLT,Nat.reduceSub,VX,Nat.reduceEqDiff,Nat.reduceAdd]
    rw[h0]
    exact qR
   ·have hl:(0:Int)<((aC 1000000000 t).length:Int):=rL.2 h0
    simp only[nS,kU,c1,c4,h1,hl,cQ,eQ,aL,bD,bA,iB,Nat.reduceLeDiff,Nat.reduceLT,Nat.reduceSub,VX,Nat.reduceEqDiff,Nat.reduceAdd]
    rw[decide_eq_true h0]
    exact qR
 ·cases neg with
  |
   false =>
   simp only[nS,kU,c1,c2,c3,c4,h1,eQ,aL,bD,bA,iB,Nat.reduceLeDiff,Nat.reduceLT,Nat.reduceSub,VX,Nat.reduceEqDiff,Nat.reduceAdd]
   exact qR
  |
   true =>
   generalize t / Nat.gcd t b=t' at *
   by_cases h0:t'=0
   ·have hl:¬(0:Int)<((aC 1000000000 t').length:Int):=by rw[rL];omega
    simp only[nS,kU,c1,c2,c3,c4,h1,hl,cQ,eQ,aL,bD,bA,iB,Nat.reduceLeDiff,Nat.reduceLT,Nat.reduceSub,VX,Nat.reduceEqDiff,Nat.reduceAdd]
    rw[h0]
    exact qR
   ·have hl:(0:Int)<((aC 1000000000 t').length:Int):=rL.2 h0
    simp only[nS,kU,c1,c2,c3,c4,h1,hl,cQ,eQ,aL,bD,bA,iB,Nat.reduceLeDiff,Nat.reduceLT,Nat.reduceSub,VX,Nat.reduceEqDiff,Nat.reduceAdd]
    rw[decide_eq_true h0]
    exact qR
theorem F5 (n:Int) (h0 : -9223372036854775808<n) (h1:n≤9223372036854775807):TC 130 [VI n] (aY (n:Rat)):=by
 refine TC.walk ⟨true,false⟩ Ph rfl (Nat.le_of_ble_eq_true rfl) rfl (rJ _) ?_
 rw[ahY]
 by_cases h:n<0
 ·have w:IntKind.i64.wrap (0-n)=(n.natAbs:Int):=wrapN _ (by omega) (by omega)
  have c1:TC 178 [VI (n.natAbs:Int)] (cA n.natAbs):=rQ (n.natAbs:Int) (by omega)
  rw[decide_eq_true h]
  simp only[EJ,Bk,h,w,c1,eQ,aL,bD,bA,gJ,eK,gF,iB,Nat.reduceLeDiff,Nat.reduceLT,Nat.reduceSub,VX,Nat.reduceEqDiff,Nat.reduceAdd]
  exact sD (d:=6) (aiL rfl) (aI (cL _)) (RN (d:=5))
 ·have c1:TC 178 [VI n] (cA n.natAbs):=by
   have:=rQ n h1
   rwa [show n.toNat=n.natAbs by omega] at this
  rw[decide_eq_false h]
  simp only[EJ,Bk,h,c1,eQ,aL,bD,bA,gJ,eK,gF,iB,Nat.reduceLeDiff,Nat.reduceLT,Nat.reduceSub,VX,Nat.reduceEqDiff,Nat.reduceAdd]
  exact sD (d:=6) (aiL rfl) (aI (cL _)) (RN (d:=5))
theorem GH:TC 83 [] (aY 1):=by
 refine TC.walk ⟨true,false⟩ Py rfl (Nat.le_of_ble_eq_true rfl) rfl (rJ _) ?_
 have c1:TC 130 [VI 1] (aY 1):=F5 1 (by decide) (by decide)
 simp only[KR,Gl,c1,bJ,dJ,iP,aL,iB,Nat.reduceLeDiff,Nat.reduceLT,Nat.reduceSub,VX,Nat.reduceEqDiff,Nat.reduceAdd]
 exact AU _
theorem AB:TC 77 [] (aY 0):=by
 refine TC.walk ⟨true,false⟩ Nw rfl (Nat.le_of_ble_eq_true rfl) rfl (rJ _) ?_
 have c1:TC 130 [VI 0] (aY 0):=F5 0 (by decide) (by decide)
 simp only[Ip,E3,c1,bJ,dJ,iP,aL,iB,Nat.reduceLeDiff,Nat.reduceLT,Nat.reduceSub,VX,Nat.reduceEqDiff,Nat.reduceAdd]
 exact AU _
theorem G0 (q:Rat):TC 157 [aY q] (aY (-q)):=by
 refine TC.walk ⟨true,false⟩ Hw rfl (Nat.le_of_ble_eq_true rfl) (by simp[aO,jE]) (rJ _) ?_
 have hq:aY (-q) = .agg [VB (decide (0<q.num)),cA q.num.natAbs,cA q.den]:=MK (by simp) (by simp) (by simp)
 rw[hq]
 by_cases h1:q.num<0
 ·have h2:¬0<q.num:=by omega
  simp only[qT,nX,cQ,h1,h2,bJ,dS,eT,eY,aL,bD,bA,iB,Nat.reduceLeDiff,Nat.reduceLT,Nat.reduceSub,VX,Nat.reduceEqDiff,Nat.reduceAdd]
  exact qR
 ·by_cases h0:q.num=0
  ·have hl:¬(0:Int)<((aC 1000000000 q.num.natAbs).length:Int):=by rw[rL];omega
   have h2:¬0<q.num:=by omega
   simp only[qT,nX,cQ,hl,h1,h2,bJ,dS,eT,eY,aL,bD,bA,iB,Nat.reduceLeDiff,Nat.reduceLT,Nat.reduceSub,VX,Nat.reduceEqDiff,Nat.reduceAdd]
   exact qR
  ·have hl:(0:Int)<((aC 1000000000 q.num.natAbs).length:Int):=by rw[rL];omega
   have h2:0<q.num:=by omega
   simp only[qT,nX,cQ,hl,h1,h2,bJ,dS,eT,eY,aL,bD,bA,iB,Nat.reduceLeDiff,Nat.reduceLT,Nat.reduceSub,VX,Nat.reduceEqDiff,Nat.reduceAdd]
   exact qR
theorem Bi (a b:Rat) (J4:aZ a≤1099511627776) (G2:aZ b≤1099511627776):TC 79 [aY a,aY b] (aY (a+b)):=by
 refine TC.walk ⟨true,false⟩ PA rfl (Nat.le_of_ble_eq_true rfl) (by simp[aO,jE]) (rJ _) ?_
 have la:=sK J4
 have lb:=sK G2
 have lda:=sU J4
 have ldb:=sU G2
 have hBn:=Nat.mul_ne_zero a.den_nz b.den_nz
 have m1:=dO a.num.natAbs b.den (Nat.le_of_lt (lI (by omega))) (Nat.le_of_lt (lI (by omega)))
 have m2:=dO b.num.natAbs a.den (Nat.le_of_lt (lI (by omega))) (Nat.le_of_lt (lI (by omega)))
 have m3:=dO a.den b.den (Nat.le_of_lt (lI (by omega))) (Nat.le_of_lt (lI (by omega)))
 have ea:mkRat (lJ (decide (a.num<0)) (a.num.natAbs*b.den)) (a.den*b.den)=a:=Fu a b.den_nz
 have eb:mkRat (lJ (decide (b.num<0)) (b.num.natAbs*a.den)) (a.den*b.den)=b:=by rw[Nat.mul_comm a.den];exact Fu b a.den_nz
 have k1:=lL a.num.natAbs b.den
 have k2:=lL b.num.natAbs a.den
 have k3:=lL a.den b.den
 obtain⟨p1,p2,p3⟩:=JQ hBn ea eb
 have hX:bl (a.num.natAbs*b.den)≤2199023255552:=by omega
 have hY:bl (b.num.natAbs*a.den)≤2199023255552:=by omega
 have hB:bl (a.den*b.den)≤4398046511104:=by omega
 generalize a.num.natAbs*b.den=X at *
 generalize b.num.natAbs*a.den=Y at *
 generalize a.den*b.den=B at *
 have f1:=Ky X Y (lI (by omega)) (lI (by omega))
 have f2:=rP X Y (Nat.le_of_lt (lI (by omega))) (Nat.le_of_lt (lI (by omega)))
 have hS:bl (X+Y)≤4398046511104:=Nat.le_trans (VN hX hY) (by decide)
 have hD1:bl (X-Y)≤4398046511104:=Nat.le_trans (lE (Nat.sub_le _ _)) (by omega)
 have hD2:bl (Y-X)≤4398046511104:=Nat.le_trans (lE (Nat.sub_le _ _)) (by omega)
 have f5:=fun neg=>pM neg (X+Y) B hBn hS hB
 have f6:=fun neg=>pM neg (X-Y) B hBn hD1 hB
 have f7:=fun neg=>pM neg (Y-X) B hBn hD2 hB
 by_cases hn:decide (a.num<0)=decide (b.num<0)
 ·have UP:(decide (a.num<0) == decide (b.num<0))=true:=by simpa using hn
  rw[←p1 hn]
  simp only[AS,wJ,m1,m2,m3,f1,f5,wA,oO,UP,bJ,dJ,dS,eT,eY,iP,aL,bD,bA,iB,Nat.reduceLeDiff,Nat.reduceLT,Nat.reduceSub,VX,Nat.reduceEqDiff,Nat.reduceAdd]
  exact AU _
 ·have UP:(decide (a.num<0) == decide (b.num<0))=false:=by simpa using hn
  by_cases hx:(0:Int)≤fK X Y
  ·have hle:Y≤X:=by have := @wD X Y;omega
   have c3:=AX X Y hle (Nat.le_of_lt (lI (by omega)))
   rw[←p2 hn hle]
   simp only[AS,wJ,m1,m2,m3,f2,c3,f6,hx,wA,oO,UP,bJ,dJ,dS,eT,eY,iP,aL,bD,bA,iB,Nat.reduceLeDiff,Nat.reduceLT,Nat.reduceSub,VX,Nat.reduceEqDiff,Nat.reduceAdd]
   exact AU _
  ·have hle:X≤Y:=by have := @wD X Y;omega
   have c3:=AX Y X hle (Nat.le_of_lt (lI (by omega)))
   rw[←p3 hn hle]
   simp only[AS,wJ,m1,m2,m3,f2,c3,f7,hx,wA,oO,UP,bJ,dJ,dS,eT,eY,iP,aL,bD,bA,iB,Nat.reduceLeDiff,Nat.reduceLT,Nat.reduceSub,VX,Nat.reduceEqDiff,Nat.reduceAdd]
   exact AU _
theorem Mj (a b:Rat) (J4:aZ a≤1099511627776) (G2:aZ b≤1099511627776):TC 82 [aY a,aY b] (aY (a-b)):=by
 refine TC.walk ⟨true,false⟩ Mc rfl (Nat.le_of_ble_eq_true rfl) (by simp[aO,jE]) (rJ _) ?_
 have c1:=G0 b
 have c2:=Bi a (-b) J4 (by rw[Kr];exact G2)
 rw[←Rat.sub_eq_add_neg] at c2
 simp only[Gt,DN,c1,c2,bJ,dJ,iP,aL,bD,bA,iB,Nat.reduceLeDiff,Nat.reduceLT,Nat.reduceSub,VX,Nat.reduceEqDiff,Nat.reduceAdd]
 exact AU _
theorem Yy (a b:Int):lJ (decide (a<0) != decide (b<0)) (a.natAbs*b.natAbs)=a*b:=by
 rcases Int.lt_trichotomy a 0 with h1 | h1 | h1<;>rcases Int.lt_trichotomy b 0 with h2 | h2 | h2
 ·rw[decide_eq_true h1,decide_eq_true h2]
  simp only[lJ,bne_self_eq_false,Bool.false_eq_true,if_false,Int.natCast_mul]
  rw[show (a.natAbs:Int) = -a by omega,show (b.natAbs:Int) = -b by omega,Int.neg_mul_neg]
 ·subst h2;simp[Ai]
 ·rw[decide_eq_true h1,decide_eq_false (show ¬b<0 by omega)]
  simp only[lJ,Bool.true_bne,Bool.not_false,if_true,Int.natCast_mul]
  rw[show (a.natAbs:Int) = -a by omega,show (b.natAbs:Int)=b by omega,Int.neg_mul,Int.neg_neg]
 ·subst h1;simp[Ai]
 ·subst h1;simp[Ai]
 ·subst h1;simp[Ai]
 ·rw[decide_eq_false (show ¬a<0 by omega),decide_eq_true h2]
  simp only[lJ,Bool.false_bne,if_true,Int.natCast_mul]
  rw[show (a.natAbs:Int)=a by omega,show (b.natAbs:Int) = -b by omega,Int.mul_neg,Int.neg_neg]
 ·subst h2;simp[Ai]
 ·rw[decide_eq_false (show ¬a<0 by omega),decide_eq_false (show ¬b<0 by omega)]
  simp only[lJ,bne_self_eq_false,Bool.false_eq_true,if_false,Int.natCast_mul]
  rw[show (a.natAbs:Int)=a by omega,show (b.natAbs:Int)=b by omega]
theorem L5 (a b:Rat) (J4:aZ a≤1099511627776) (G2:aZ b≤1099511627776):TC 125 [aY a,aY b] (aY (a*b)):=by
 refine TC.walk ⟨true,false⟩ Mv rfl (Nat.le_of_ble_eq_true rfl) (by simp[aO,jE]) (rJ _) ?_
 have la:=sK J4
 have lb:=sK G2
 have lda:=sU J4
 have ldb:=sU G2
 have k1:=lL a.num.natAbs b.num.natAbs
 have k3:=lL a.den b.den
 have m1:=dO a.num.natAbs b.num.natAbs (Nat.le_of_lt (lI (by omega))) (Nat.le_of_lt (lI (by omega)))
 have m3:=dO a.den b.den (Nat.le_of_lt (lI (by omega))) (Nat.le_of_lt (lI (by omega)))
 have c1:=pM (decide (a.num<0) != decide (b.num<0)) (a.num.natAbs*b.num.natAbs) (a.den*b.den) (Nat.mul_ne_zero a.den_nz b.den_nz) (by omega) (by omega)
 rw[Yy,←Rat.mul_def'] at c1
 simp only[Gq,Dw,m1,m3,c1,oO,bJ,dJ,dS,eT,eY,iP,aL,bD,bA,iB,Nat.reduceLeDiff,Nat.reduceLT,Nat.reduceSub,VX,Nat.reduceEqDiff,Nat.reduceAdd]
 exact AU _
theorem WH {a b:Rat} (hb:b≠0):mkRat (lJ (decide (a.num<0) != decide (b.num<0)) (a.num.natAbs*b.den)) (a.den*b.num.natAbs)=a / b:=by
 have hn:b.num≠0:=fun h=>hb (Rat.num_eq_zero.1 h)
 have i1:b⁻¹.num=b.num.sign*b.den:=Rat.num_inv b
 have i2:b⁻¹.den=b.num.natAbs:=by rw[Rat.den_inv,if_neg hn]
 have hd:(0:Int)<b.den:=by have:=b.den_nz;omega
 have i3:b⁻¹.num.natAbs=b.den:=by
  rw[i1,Int.natAbs_mul,Int.natAbs_natCast]
  rcases Int.lt_or_gt_of_ne hn with h1 | h1
  ·rw[Int.sign_eq_neg_one_of_neg h1];simp
  ·rw[Int.sign_eq_one_of_pos h1];simp
 have i4:decide (b⁻¹.num<0)=decide (b.num<0):=by
  rw[i1]
  rcases Int.lt_or_gt_of_ne hn with h1 | h1
  ·rw[Int.sign_eq_neg_one_of_neg h1,decide_eq_true h1];simp;omega
  ·rw[Int.sign_eq_one_of_pos h1,decide_eq_false (show ¬b.num<0 by omega)];simp
 rw[Rat.div_def,Rat.mul_def',←Yy,i2,i3,i4]
theorem Nk (a b:Rat) (hb:b≠0) (J4:aZ a≤1099511627776) (G2:aZ b≤1099511627776):TC 81 [aY a,aY b] (aY (a / b)):=by
 refine TC.walk ⟨true,false⟩ NW rfl (Nat.le_of_ble_eq_true rfl) (by simp[aO,jE]) (rJ _) ?_
 have hn:b.num≠0:=fun h=>hb (Rat.num_eq_zero.1 h)
 have la:=sK J4
 have lb:=sK G2
 have lda:=sU J4
 have ldb:=sU G2
 have k1:=lL a.num.natAbs b.den
 have k3:=lL a.den b.num.natAbs
 have m1:=dO a.num.natAbs b.den (Nat.le_of_lt (lI (by omega))) (Nat.le_of_lt (lI (by omega)))
 have m3:=dO a.den b.num.natAbs (Nat.le_of_lt (lI (by omega))) (Nat.le_of_lt (lI (by omega)))
 have c1:=pM (decide (a.num<0) != decide (b.num<0)) (a.num.natAbs*b.den) (a.den*b.num.natAbs) (Nat.mul_ne_zero a.den_nz (by omega)) (by omega) (by omega)
 rw[WH hb] at c1
 simp only[IH,Ee,m1,m3,c1,oO,bJ,dJ,dS,eT,eY,iP,aL,bD,bA,iB,Nat.reduceLeDiff,Nat.reduceLT,Nat.reduceSub,VX,Nat.reduceEqDiff,Nat.reduceAdd]
 exact AU _
theorem Nj (q:Rat):TC 59 [aY q] (VB (decide (q=0))):=by
 refine TC.walk ⟨true,false⟩ MY rfl (Nat.le_of_ble_eq_true rfl) (by simp[aO,jE]) rfl ?_
 by_cases h0:q=0
 ·have hl:(((aC 1000000000 q.num.natAbs).length:Nat):Int)=0:=by rw[h0];simp[cF]
  simp only[C7,Aj,cQ,hl,bJ,dS,eT,eY,aL,bD,bA,iB,Nat.reduceLeDiff,Nat.reduceLT,Nat.reduceSub,VX,Nat.reduceEqDiff,Nat.reduceAdd]
  rw[decide_eq_true h0]
  exact aE rfl
 ·have hn:q.num≠0:=fun h=>h0 (Rat.num_eq_zero.1 h)
  have hl:¬(((aC 1000000000 q.num.natAbs).length:Nat):Int)=0:=by have := @rL q.num.natAbs;omega
  simp only[C7,Aj,cQ,hl,bJ,dS,eT,eY,aL,bD,bA,iB,Nat.reduceLeDiff,Nat.reduceLT,Nat.reduceSub,VX,Nat.reduceEqDiff,Nat.reduceAdd]
  rw[decide_eq_false h0]
  exact aE rfl
theorem Pm (q:Rat):TC 111 [aY q] (VB (decide (q.num<0))):=by
 refine TC.walk ⟨true,false⟩ PC rfl (Nat.le_of_ble_eq_true rfl) (by simp[aO,jE]) rfl ?_
 simp only[KU,Ge,bJ,dS,aL,iB,Nat.reduceLeDiff,Nat.reduceLT,Nat.reduceSub,VX,Nat.reduceEqDiff,Nat.reduceAdd]
 exact aE rfl
end Go.PM
namespace Go.PM
open Go.Lib
theorem amQ {m n:Nat} (h:decDigits m=decDigits n):m=n:=by
 have key:∀k m n:Nat,m<10^(k+1)→decDigits m=decDigits n→m=n:=by
  intro k
  induction k with
  |
   zero =>
   intro m n hm h
   rw[jL (by omega)] at h
   by_cases hn:n<10
   ·rw[jL hn] at h
    have h1:=List.singleton_inj.1 h
    unfold d10 at h1
    have:=congrArg UInt8.toNat h1
    simp at this
    omega
   ·rw[AZ hn] at h
    have:=congrArg List.length h
    have h2:=List.length_pos_iff.2 (RT (n / 10))
    simp only[List.length_append,List.length_cons,List.length_nil] at this
    omega
  |
   succ k ih =>
   intro m n hm h
   by_cases h1:m<10
   ·rw[jL h1] at h
    by_cases hn:n<10
    ·rw[jL hn] at h
     have h1:=List.singleton_inj.1 h
     unfold d10 at h1
     have:=congrArg UInt8.toNat h1
     simp at this
     omega
    ·rw[AZ hn] at h
     have:=congrArg List.length h
     have h2:=List.length_pos_iff.2 (RT (n / 10))
     simp only[List.length_append,List.length_cons,List.length_nil] at this
     omega
   ·rw[AZ h1] at h
    by_cases hn:n<10
    ·rw[jL hn] at h
     have:=congrArg List.length h
     have h2:=List.length_pos_iff.2 (RT (m / 10))
     simp only[List.length_append,List.length_cons,List.length_nil] at this
     omega
    ·rw[AZ hn] at h
     obtain⟨h2,h3⟩:=List.append_inj' h rfl
     have h4:=ih (m / 10) (n / 10) (by rw[Nat.pow_succ] at hm;omega) h2
     have h5:=List.singleton_inj.1 h3
     unfold d10 at h5
     have:=congrArg UInt8.toNat h5
     simp at this
     omega
 exact key m m n (Nat.lt_trans (Nat.lt_pow_self (by decide)) (Nat.pow_lt_pow_right (by decide) (Nat.lt_succ_self m))) h
def Gm (q:Rat):List UInt8:=(if q.num<0 then [45] else [])++decDigits q.num.natAbs++(if q.den=1 then [] else 47::decDigits q.den)
def xU (q:Rat):Bool:=decide ((decDigits q.num.natAbs).length≤200)&&decide ((decDigits q.den).length≤200)
theorem Ce (n:Nat):(decDigits n).length≤bl n+1:=by
 by_cases h:n=0
 ·subst h;rw[jL (by decide)];simp
 ·have h1:=aeI h
  obtain⟨k,hk⟩:∃k,bl n=k+1:=⟨bl n-1,by omega⟩
  have h2:=QR n
  rw[hk] at h2 ⊢
  have h3:2^(k+1)≤10^(k+1):=Nat.pow_le_pow_left (by decide) _
  have:=AE n k (by omega)
  omega
end Go.PM
namespace Go.PM
open Go.Lib
theorem SI (a b:List UInt8):dN .neq (.string ⟨a.toArray⟩) (.string ⟨b.toArray⟩)=some (.bool (!decide (a=b))):=by
 have h:∀l:List UInt8,(ByteArray.toList ⟨l.toArray⟩)=l:=fun l=>by rw[ByteArray.toList_eq]
 show some (Value.bool (!(ByteArray.toList ⟨a.toArray⟩ == ByteArray.toList ⟨b.toArray⟩)))=_
 rw[h,h]
 congr 3
 cases h2:a == b
 ·rw[decide_eq_false (by simpa using h2)]
 ·rw[decide_eq_true (by simpa using h2)]
theorem Y2 (a b:List UInt8):dN .eql (.string ⟨a.toArray⟩) (.string ⟨b.toArray⟩)=some (.bool (decide (a=b))):=by
 have h:∀l:List UInt8,(ByteArray.toList ⟨l.toArray⟩)=l:=fun l=>by rw[ByteArray.toList_eq]
 show some (Value.bool (ByteArray.toList ⟨a.toArray⟩ == ByteArray.toList ⟨b.toArray⟩))=_
 rw[h,h]
 congr 2
 cases h2:a == b
 ·rw[decide_eq_false (by simpa using h2)]
 ·rw[decide_eq_true (by simpa using h2)]
theorem OM {n:Nat}:(decDigits n=[49])↔n=1:=by
 have e:decDigits 1=[49]:=by rw[jL (by decide)];rfl
 rw[←e]
 exact⟨amQ,fun h=>by rw[h]⟩
theorem LH (q:Rat) (hk:aZ q≤1099511627776):TC 180 [aP q] (.dQ [bE (Gm q),VB (xU q)]):=by
 refine TC.walk ⟨true,false⟩ Iv rfl (Nat.le_of_ble_eq_true rfl) (by simp[aO,fN]) rfl ?_
 have la:=sK hk
 have lb:=sU hk
 have t1:=DJ q.num.natAbs (ayC (by omega))
 have t2:=DJ q.den (ayC (by omega))
 have d1:=Ce q.num.natAbs
 have d2:=Ce q.den
 have a1:dN .add (.string ⟨#[45]⟩) (.string ⟨(decDigits q.num.natAbs).toArray⟩)=some (.string ⟨(45::decDigits q.num.natAbs).toArray⟩):=sB [45] _ (by simp only[List.length_cons,List.length_nil];omega)
 have a2:dN .add (.string ⟨#[47]⟩) (.string ⟨(decDigits q.den).toArray⟩)=some (.string ⟨(47::decDigits q.den).toArray⟩):=sB [47] (decDigits q.den) (by simp only[List.length_cons,List.length_nil];omega)
 have a3:=sB (45::decDigits q.num.natAbs) (47::decDigits q.den) (by simp only[List.length_cons];omega)
 have a4:=sB (decDigits q.num.natAbs) (47::decDigits q.den) (by simp only[List.length_cons];omega)
 have ne:dN .neq (.string ⟨(decDigits q.den).toArray⟩) (.string ⟨#[49]⟩)=_:=SI (decDigits q.den) [49]
 have hf:xU q=(decide (((decDigits q.num.natAbs).length:Int)≤200)&&decide (((decDigits q.den).length:Int)≤200)):=by
  unfold xU
  congr 1<;>exact decide_eq_decide.2 (by omega)
 rw[hf]
 have hs:Gm q=(if q.num<0 then (45::decDigits q.num.natAbs) else decDigits q.num.natAbs)++(if q.den=1 then [] else 47::decDigits q.den):=by
  unfold Gm
  by_cases hn:q.num<0
  ·rw[if_pos hn,if_pos hn];rfl
  ·rw[if_neg hn,if_neg hn];rfl
 rw[hs]
 by_cases hd:q.den=1
 ·rw[decide_eq_true (OM.2 hd)] at ne
  rw[if_pos hd,List.append_nil]
  by_cases hn:q.num<0<;>by_cases hl:((decDigits q.num.natAbs).length:Int)≤200
  all_goals
   simp only[xN,tP,t1,t2,a1,a2,a3,a4,ne,hn,hl,bO,aH,cZ,kE,kC,mN,cM,aS,aT,aN,iB,Nat.reduceLeDiff,Nat.reduceLT,Nat.reduceSub,VX,Nat.reduceEqDiff,Nat.reduceAdd]
   exact aE rfl
 ·rw[decide_eq_false (mt OM.1 hd)] at ne
  rw[if_neg hd]
  by_cases hn:q.num<0<;>by_cases hl:((decDigits q.num.natAbs).length:Int)≤200
  all_goals
   simp only[xN,tP,t1,t2,a1,a2,a3,a4,ne,hn,hl,bO,aH,cZ,kE,kC,mN,cM,aS,aT,aN,iB,Nat.reduceLeDiff,Nat.reduceLT,Nat.reduceSub,VX,Nat.reduceEqDiff,Nat.reduceAdd]
   exact aE rfl
def UZ (q:Rat):VV:=if xU q=true then .dQ [bE (Gm q),VB true] else .dQ [bE [],VB false]
theorem aaO (q:Rat):fX (UZ q)=true:=by unfold UZ;split<;>rfl
end Go.PM
namespace Go.PM
open Go.Lib
abbrev bV (b:UInt8):VV := .sc (.int .u8 (b.toNat:Int))
theorem Nb:∀bs:List UInt8,J2 (bs.map bV)=some bs
 | []=>rfl
 |
  b::bs=>by
  rw[List.map_cons]
  show (J2 (bs.map bV)).map (UInt8.ofNat ((b.toNat:Int)).toNat :: ·)=_
  rw[Nb bs]
  simp
structure GZ (v:VV) (H:aA) (bs:List UInt8):Prop where
 len:pW v H=some (VI bs.length)
 src:cT 1 v H=some (bs.map bV)
 nsc:∀x,v ≠ .sc x
theorem GZ.str {v:VV} {H:aA} {bs:List UInt8} (h:GZ v H bs) {fl:Fl} {lo:Nat} {x:Operand} {ρ:dU} (hx:fE ρ x=v):vop fl lo (.b2s x) ρ H=some (bE bs,H):=by
 have h1:=h.nsc
 have h2:=h.src
 unfold vop
 dsimp only
 rw[hx]
 cases v with
 | sc x=>exact absurd rfl (h1 x)
 | _=>simp only[h2,Nb,Option.map_some]
theorem acA {bs:List UInt8} {k:TK} {H:aA}:cT 1 (.tree (bs.map bV) k) H=some (bs.map bV):=by
 have:((bs.map bV).all fun x=>(aB x).length == 1&&(aB x).all bS)=true:=by
  rw[List.all_eq_true]
  intro x hx
  obtain⟨d,_,rfl⟩:=List.mem_map.1 hx
  rfl
 simp only[cT,this,if_true]
theorem GZ.tree {bs:List UInt8} {k:TK} {H:aA}:GZ (.tree (bs.map bV) k) H bs:=⟨eX,acA,fun x=>by simp⟩
theorem GZ.row {bs:List UInt8} {H:aA} {b g:Nat} {w:Bool} (h:aJ H b g=some (bs.map bV,1,w)):GZ (.ref b g 0 bs.length bs.length) H bs:=by
 refine⟨eR h,?_,fun x=>by simp⟩
 have kB:(((bs.map bV).drop 0).take bs.length).all (fun x=>(aB x).all bS)=true:=by
  rw[List.all_eq_true]
  intro x hx
  obtain⟨d,_,rfl⟩:=List.mem_map.1 (List.mem_of_mem_drop (List.mem_of_mem_take hx))
  rfl
 simp only[cT,h]
 rw[if_pos ⟨trivial,by simp,kB⟩,List.drop_zero,List.take_of_length_le (by simp)]
theorem GZ.cons {v:VV} {H:aA} {bs:List UInt8} (h:GZ v H bs) (x:UInt8) (hl:bs.length≤1000000) (lo:Nat):∃v' H',eE lo 1 1 (.tree [bV x] (.cl 1)) (bs.map bV) H=some (v',H')∧GZ v' H' (x::bs):=by
 by_cases hb:bs=[]
 ·subst hb
  exact⟨_,_,rfl,GZ.tree (bs:=[x])⟩
 ·have fT:bs.length≠0:=fun h=>hb (List.length_eq_zero_iff.1 h)
  refine⟨.ref H.length 0 0 (x::bs).length (x::bs).length,H++[.row 0 ((x::bs).map bV) 1 true],?_,GZ.row (TQ rfl)⟩
  simp only[eE,List.length_map]
  rw[if_pos ⟨by decide,by decide⟩,if_pos trivial,if_neg fT,if_pos (by simp;omega)]
  simp[Nat.add_comm]
theorem TW (r:Int):dN .rem (.int .i64 r) (.int .i64 10)=some (.int .i64 (r.tmod 10)):=rfl
theorem aoY (r:Int) (h0 : -9223372036854775808≤r) (h1:r≤9223372036854775807):dN .quo (.int .i64 r) (.int .i64 10)=some (.int .i64 (r.tdiv 10)):=by
 show some (Value.int .i64 (IntKind.i64.wrap (r.tdiv 10)))=_
 have h2:(r.tdiv 10).natAbs=r.natAbs / 10:=by rw[Int.natAbs_tdiv];rfl
 rw[wrap64 (by omega) (by omega)]
theorem Qp {d:Nat} (h:d<10):(d10 d).toNat=48+d:=by
 unfold d10
 simp
 omega
theorem JI {n r:Nat} {bs:List UInt8} (h:decDigits n=decDigits r++bs):decDigits n=mR (r / 10)++d10 (r % 10)::bs:=by
 rw[h]
 by_cases hr:r<10
 ·rw[jL hr,mR,if_pos (by omega),Nat.mod_eq_of_lt hr];rfl
 ·rw[AZ hr,mR,if_neg (by omega),List.append_assoc];rfl
theorem PJ (n:Int) (h0 : -9223372036854775808≤n) (h1:n≤9223372036854775807):TC 219 [VI n] (bE ((if n<0 then [45] else [])++decDigits n.natAbs)):=by
 refine TC.walk ⟨true,false⟩ Pg rfl (Nat.le_of_ble_eq_true rfl) rfl rfl ?_
 have e0:∀lr,kD lr [.int .u8 0] 0 [] []=some (.ref 0 0 0 0 0,[.row 0 (([]:List UInt8).map bV) 1 true]):=fun lr=>gY (H:=[]) rfl
 have e1:∀(x:UInt8) (H:aA),kD false [.int .u8 0] 1 [(0,bV x)] H=some (.tree [bV x] (.cl 1),H):=fun x H=>fU rfl rfl rfl
 have hdl:=AE n.natAbs 19 (by omega)
 simp only[KV,F7,e0,VX,Nat.reduceEqDiff,Nat.reduceAdd]
 refine aV (fun(s:Int×List UInt8) ρ H => -9223372036854775808≤s.1∧s.1≤9223372036854775807∧(s.2=[]→s.1=n)∧(s.2≠[]→decDigits n.natAbs=mR s.1.natAbs++s.2)∧GZ (ρ 3) H s.2∧ρ 0=VI n∧ρ 4=VI s.1) (fun s=>s.1.natAbs+(if s.2=[] then 1 else 0)) (n,[]) ⟨h0,h1,fun _=>rfl,fun h=>absurd rfl h,by simp only[VX,Nat.reduceEqDiff,Nat.reduceAdd];exact GZ.row (bs:=[]) bB,rfl,rfl⟩ ?_
 rintro⟨r,bs⟩ ρ H ⟨DR,HC,hn,hd,ho,g0,g4⟩
 simp only at DR HC hn hd ho g4
 generalize hv3:ρ 3=v3 at ho
 have hlen:=ho.len
 have Ca:=ho.src
 by_cases OO:bs≠[]∧r=0
 ·obtain⟨hb,hr⟩:=OO
  subst hr
  have hl:¬(bs.length:Int)=0:=by have:=List.length_pos_iff.2 hb;omega
  have hdd:=hd hb
  simp only[mR,Int.natAbs_zero,if_true,List.nil_append] at hdd
  by_cases lM:n<0
  ·obtain⟨v',H',ap,ho'⟩:=ho.cons 45 (by rw[←hdd];omega) 0
   have XW:kD false [.int .u8 0] 1 [(0,.sc (.int .u8 45))] H=some (.tree [bV 45] (.cl 1),H):=e1 45 H
   have bs2:=fun bI (h:fE bI (.tmp 34)=v')=>ho'.str (fl:=⟨true,false⟩) (lo:=0) h
   simp only[kT,g0,g4,hv3,hlen,hl,VX,Nat.reduceEqDiff,Nat.reduceAdd]
   simp only[g0,lM,hv3,XW,Ca,ap,Rs,VX,Nat.reduceEqDiff,Nat.reduceAdd]
   rw[bs2 _ (by rfl)]
   simp only[VX,Nat.reduceEqDiff,Nat.reduceAdd]
   rw[hdd]
   exact aE rfl
  ·have bs2:=fun bI (h:fE bI (.tmp 34)=v3)=>ho.str (fl:=⟨true,false⟩) (lo:=0) h
   simp only[kT,g0,g4,hv3,hlen,hl,VX,Nat.reduceEqDiff,Nat.reduceAdd]
   simp only[g0,lM,hv3,Rs,VX,Nat.reduceEqDiff,Nat.reduceAdd]
   rw[bs2 _ (by simp only[VX,Nat.reduceEqDiff,Nat.reduceAdd];try exact hv3)]
   simp only[VX,Nat.reduceEqDiff,Nat.reduceAdd]
   rw[hdd]
   exact aE rfl
 ·have hm:r.tmod 10=if r<0 then -((r.natAbs % 10:Nat):Int) else ((r.natAbs % 10:Nat):Int):=by
   have:=Int.tmod_eq_emod_of_nonneg (a:=r) (b:=10)
   by_cases h:r<0
   ·rw[if_pos h]
    have h2:=Int.neg_tmod (-r) 10
    rw[Int.neg_neg] at h2
    rw[h2,Int.tmod_eq_emod_of_nonneg (by omega)]
    omega
   ·rw[if_neg h,this (by omega)]
    omega
  have hq:(r.tdiv 10).natAbs=r.natAbs / 10:=by rw[Int.natAbs_tdiv];rfl
  have hmd:=Nat.mod_lt r.natAbs (show 0<10 by decide)
  have q1:=aoY r DR HC
  have vB:bs.length≤19:=by
   by_cases hb:bs=[]
   ·subst hb;simp
   ·have h2:=hd hb
    have h3:=congrArg List.length h2
    rw[List.length_append] at h3
    have h4:r≠0:=fun h=>OO ⟨hb,h⟩
    have h5:=List.length_pos_iff.2 (RT r.natAbs)
    rw[mR,if_neg (by omega)] at h3
    omega
  obtain⟨v',H',ap,ho'⟩:=ho.cons (d10 (r.natAbs % 10)) (by omega) 0
  have w2:IntKind.i64.wrap (48+((r.natAbs % 10:Nat):Int))=((48+r.natAbs % 10:Nat):Int):=wrapN _ (by omega) (by omega)
  have w3:IntKind.u8.wrap ((48+r.natAbs % 10:Nat):Int)=((48+r.natAbs % 10:Nat):Int):=by
   simp[IntKind.wrap,IntKind.bits,IntKind.signed]
   omega
  have hx:VV.sc (.int .u8 ((48+r.natAbs % 10:Nat):Int))=bV (d10 (r.natAbs % 10)):=by rw[bV,Qp hmd]
  have XW:=e1 (d10 (r.natAbs % 10)) H
  rw[←hx] at XW ap
  have next:∃s':Int×List UInt8,s'.1.natAbs+(if s'.2=[] then 1 else 0)<r.natAbs+(if bs=[] then 1 else 0) ∧ -9223372036854775808≤s'.1∧s'.1≤9223372036854775807∧(s'.2=[]→s'.1=n)∧(s'.2≠[]→decDigits n.natAbs=mR s'.1.natAbs++s'.2)∧GZ v' H' s'.2∧r.tdiv 10=s'.1:=by
   refine⟨(r.tdiv 10,d10 (r.natAbs % 10)::bs),?_,by simp only;omega,by simp only;omega,fun h=>(by simp at h),fun _ => ?_,ho',rfl⟩
   ·simp only[hq,List.cons_ne_nil,if_false]
    by_cases hb:bs=[]
    ·rw[if_pos hb];omega
    ·have h4:r≠0:=fun h=>OO ⟨hb,h⟩
     rw[if_neg hb];omega
   ·simp only[hq]
    by_cases hb:bs=[]
    ·subst hb
     refine JI ?_
     rw[hn rfl,List.append_nil]
    ·have h4:r≠0:=fun h=>OO ⟨hb,h⟩
     have h2:=hd hb
     rw[mR,if_neg (by omega)] at h2
     exact JI h2
  by_cases hrn:r.tmod 10<0
  ·have w1:IntKind.i64.wrap (0-r.tmod 10)=((r.natAbs % 10:Nat):Int):=by
    have:r.tmod 10 = -((r.natAbs % 10:Nat):Int):=by
     by_cases h:r<0
     ·rw[if_pos h] at hm;exact hm
     ·rw[if_neg h] at hm;omega
    rw[this]
    exact wrapN _ (by omega) (by omega)
   by_cases hb:bs=[]
   ·have hl:(bs.length:Int)=0:=by rw[hb];rfl
    simp only[kT,g0,g4,hv3,hlen,hl,TW,q1,hrn,w1,w2,w3,XW,Ca,ap,VX,Nat.reduceEqDiff,Nat.reduceAdd]
    obtain⟨s',n1,n2,n3,n4,n5,n6,n7⟩:=next
    exact⟨s',n1,n2,n3,n4,n5,n6,by rw[n7]⟩
   ·have hl:¬(bs.length:Int)=0:=by have:=List.length_pos_iff.2 hb;omega
    have hr:¬r=0:=fun h=>OO ⟨hb,h⟩
    simp only[kT,g0,g4,hv3,hlen,hl,hr,TW,q1,hrn,w1,w2,w3,XW,Ca,ap,VX,Nat.reduceEqDiff,Nat.reduceAdd]
    obtain⟨s',n1,n2,n3,n4,n5,n6,n7⟩:=next
    exact⟨s',n1,n2,n3,n4,n5,n6,by rw[n7]⟩
  ·have hmm:r.tmod 10=((r.natAbs % 10:Nat):Int):=by
    rw[hm] at hrn ⊢
    split
    ·rename_i h;rw[if_pos h] at hrn;omega
    ·rfl
   have azI:¬((r.natAbs % 10:Nat):Int)<0:=by omega
   by_cases hb:bs=[]
   ·have hl:(bs.length:Int)=0:=by rw[hb];rfl
    simp only[kT,g0,g4,hv3,hlen,hl,TW,hmm,q1,azI,w2,w3,XW,Ca,ap,VX,Nat.reduceEqDiff,Nat.reduceAdd]
    obtain⟨s',n1,n2,n3,n4,n5,n6,n7⟩:=next
    exact⟨s',n1,n2,n3,n4,n5,n6,by rw[n7]⟩
   ·have hl:¬(bs.length:Int)=0:=by have:=List.length_pos_iff.2 hb;omega
    have hr:¬r=0:=fun h=>OO ⟨hb,h⟩
    simp only[kT,g0,g4,hv3,hlen,hl,hr,TW,hmm,q1,azI,w2,w3,XW,Ca,ap,VX,Nat.reduceEqDiff,Nat.reduceAdd]
    obtain⟨s',n1,n2,n3,n4,n5,n6,n7⟩:=next
    exact⟨s',n1,n2,n3,n4,n5,n6,by rw[n7]⟩
end Go.PM
namespace Go.PM
abbrev chV (c:List (List ByteArray)):VV := .agg [uR c]
theorem B6 (c:List (List ByteArray)):aQ (chV c)=true:=by
 show aO [uR c]=true
 simp only[aO,CX,Bool.and_self]
theorem SD {c:List (List ByteArray)}:dM false 1 (chV c) 0=some (uR c):=rfl
def E9 (n:Nat) (H:aA) (bare:Bool) (c:List (List ByteArray)) (r:VV):Prop:=∃c0,r = .agg [c0]∧AG n H bare c c0
theorem E9.cJ {n:Nat} {H H':aA} {bare:Bool} {s:List (List ByteArray)} {c:VV} (h:E9 n H bare s c) (hk:∀b g x,n<b→aJ H b g=some x→aJ H' b g=some x):E9 n H' bare s c:=by
 obtain⟨c0,rfl,h0⟩:=h
 exact⟨c0,rfl,h0.cJ hk⟩
theorem E9.pre {n:Nat} {H H':aA} {bare:Bool} {s:List (List ByteArray)} {c:VV} (h:E9 n H bare s c) (hh:H <+: H'):E9 n H' bare s c:=h.cJ fun _ _ _ _=>cH hh
theorem E9.fz {n:Nat} {H:aA} {bare:Bool} {s:List (List ByteArray)} {c:VV} (h:E9 n H bare s c):PM.fz depth H c=some (chV s):=by
 obtain⟨c0,rfl,h0⟩:=h
 have f0:=h0.fz (d:=4)
 have e:PM.fz (7+1) H (.agg [c0])=if aQ (.agg [c0])=true then some (.agg [c0]) else ([c0].mapM (PM.fz 7 H)).map .agg:=rfl
 show PM.fz (7+1) H (.agg [c0])=_
 rw[e]
 by_cases hp:aQ (.agg [c0])=true
 ·rw[if_pos hp]
  have hu:aQ c0=true:=by simpa[aQ,aO] using hp
  rw[aI hu] at f0
  cases f0
  rfl
 ·rw[if_neg hp,List.mapM_cons,f0]
  rfl
end Go.PM
namespace Go.PM
open Go.Lib
def iZ (c:UInt8):Bool:=decide (48≤c.toNat)&&decide (c.toNat≤57)
def dv (c:UInt8):Nat:=c.toNat-48
def Nf (a:Nat) (l:List UInt8):Nat:=l.foldl (fun a c=>a*10+dv c) a
def bY (l:List UInt8):Nat:=Nf 0 l
theorem Yp (l:List UInt8):∀a,Nf a l=a*10^l.length+bY l:=by
 induction l with
 | nil=>intro a;simp[Nf,bY]
 |
  cons c l ih =>
  intro a
  have h1:Nf a (c::l)=Nf (a*10+dv c) l:=rfl
  have h2:bY (c::l)=Nf (0*10+dv c) l:=rfl
  rw[h1,h2,ih,ih (0*10+dv c),List.length_cons,Nat.pow_succ]
  grind
theorem O3 (a b:List UInt8):bY (a++b)=bY a*10^b.length+bY b:=by
 have:bY (a++b)=Nf (bY a) b:=by unfold bY Nf;rw[List.foldl_append]
 rw[this,Yp]
theorem Nc:bY []=0:=rfl
theorem Z1 (a:List UInt8) (c:UInt8):bY (a++[c])=bY a*10+dv c:=by
 rw[O3]
 simp[bY,Nf]
theorem aoI {c:UInt8} (h:iZ c=true):dv c<10:=by
 simp only[iZ,Bool.and_eq_true,decide_eq_true_eq] at h
 unfold dv
 omega
theorem Ib:∀ {l:List UInt8},l.all iZ=true→bY l<10^l.length:=by
 intro l
 induction l with
 | nil=>intro _;decide
 |
  cons c l ih =>
  intro h
  rw[List.all_cons,Bool.and_eq_true] at h
  have h1:=aoI h.1
  have h2:=ih h.2
  have h3:bY (c::l)=Nf (0*10+dv c) l:=rfl
  rw[h3,Yp,List.length_cons,Nat.pow_succ]
  have h4:(0*10+dv c)*10^l.length≤9*10^l.length:=Nat.mul_le_mul_right _ (by omega)
  omega
theorem asX {M:Nat} (hM:1000000000000000000≤M):∀(l:List UInt8) (k acc:Nat),l.all iZ=true→acc<10^k→k+l.length≤18→parseUintM M acc l = .ok (Nf acc l):=by
 intro l
 induction l with
 | nil=>intro k acc _ _ _;rfl
 |
  cons c l ih =>
  intro k acc h hk hl
  rw[List.all_cons,Bool.and_eq_true] at h
  have h1:=aoI h.1
  have h0:=h.1
  simp only[iZ,Bool.and_eq_true,decide_eq_true_eq] at h0
  rw[List.length_cons] at hl
  have h18:acc<10^17:=Nat.lt_of_lt_of_le hk (Nat.pow_le_pow_right (by decide) (by omega))
  have e17:(10:Nat)^17=100000000000000000:=by decide
  rw[e17] at h18
  have hd:c.toNat-48=dv c:=rfl
  rw[parseUintM,if_pos h0,if_neg (by omega),hd,if_neg (by omega),ih (k+1) _ h.2 (by rw[Nat.pow_succ];omega) (by omega)]
  rfl
theorem arL {l:List UInt8} (h:l.all iZ=true) (h0:l≠[]) (hl:l.length≤18):parseUintB 64 l = .ok (bY l):=by
 unfold parseUintB
 rw[if_neg h0]
 exact asX (by decide) l 0 0 h (by decide) (by omega)
def iR (l:List UInt8):Bool:=l.all iZ&&decide (1≤l.length)&&decide (l.length≤200)&&(decide (l.length=1) || !decide (l.getD 0 0=48))
theorem kM {l:List UInt8}:iR l=true↔l.all iZ=true∧1≤l.length∧l.length≤200∧(l.length=1∨l.getD 0 0≠48):=by
 unfold iR
 simp only[Bool.and_eq_true,Bool.or_eq_true,Bool.not_eq_true',decide_eq_true_eq,decide_eq_false_iff_not,ne_eq,and_assoc]
theorem Ab {l:List UInt8} (h:iR l=true):bl (bY l)≤665:=by
 obtain⟨h1,h2,h3,_⟩:=kM.1 h
 refine Jk (Nat.lt_of_lt_of_le (Ib h1) ?_)
 exact Nat.le_trans (Nat.pow_le_pow_right (by decide) h3) (by decide +kernel)
def nE (c:UInt8):List UInt8→List UInt8×Option (List UInt8)
 | []=>([],none)
 | x::r=>if x=c then ([],some r) else (x::(nE c r).1,(nE c r).2)
theorem Cj {c:UInt8}:∀ {l:List UInt8},(nE c l).2=none→indexByte l c = -1∧(nE c l).1=l∧c∉l:=by
 intro l
 induction l with
 | nil=>intro _;exact⟨rfl,rfl,by simp⟩
 |
  cons x l ih =>
  intro h
  unfold nE at h ⊢
  by_cases hx:x=c
  ·rw[if_pos hx] at h
   cases h
  ·rw[if_neg hx] at h ⊢
   obtain⟨h1,h2,h3⟩:=ih h
   refine⟨?_,by rw[h2],?_⟩
   ·rw[indexByte,if_neg (by simpa using hx),h1]
    rfl
   ·rw[List.mem_cons,not_or]
    exact⟨fun h=>hx h.symm,h3⟩
theorem JT {c:UInt8}:∀ {l r:List UInt8},(nE c l).2=some r→indexByte l c=((nE c l).1.length:Int)∧l=(nE c l).1++c::r∧c∉(nE c l).1:=by
 intro l
 induction l with
 | nil=>intro r h;cases h
 |
  cons x l ih =>
  intro r h
  unfold nE at h ⊢
  by_cases hx:x=c
  ·rw[if_pos hx] at h ⊢
   cases h
   subst hx
   refine⟨?_,rfl,by simp⟩
   rw[indexByte,if_pos (by simp)]
   rfl
  ·rw[if_neg hx] at h ⊢
   obtain⟨h1,h2,h3⟩:=ih h
   refine⟨?_,?_,?_⟩
   ·rw[indexByte,if_neg (by simpa using hx),h1,if_neg]
    ·simp
    ·simp
   ·conv=>lhs;rw[h2]
    rfl
   ·rw[List.mem_cons,not_or]
    exact⟨fun h=>hx h.symm,h3⟩
def pZ (neg:Bool) (d:List UInt8) (s:Option (List UInt8)):Option Rat :=
 if iR d=false∨(neg=true∧bY d=0) then none else
 match s with
 | none=>some (mkRat (lJ neg (bY d)) 1)
 | some t=>if iR t=true∧1<bY t∧Nat.gcd (bY d) (bY t)=1 then some (mkRat (lJ neg (bY d)) (bY t)) else none
def isNeg (l:List UInt8):Bool:=decide (1≤l.length)&&decide (l.getD 0 0=45)
def AH (l:List UInt8):Option Rat:=pZ (isNeg l) ((nE 47 (if isNeg l then l.drop 1 else l)).1) ((nE 47 (if isNeg l then l.drop 1 else l)).2)
theorem Xd {neg:Bool} {d:List UInt8} {s:Option (List UInt8)} {q:Rat} (h:pZ neg d s=some q):iR d=true∧¬(neg=true∧bY d=0)∧((s=none∧q=mkRat (lJ neg (bY d)) 1)∨∃t,s=some t∧iR t=true∧1<bY t∧Nat.gcd (bY d) (bY t)=1∧q=mkRat (lJ neg (bY d)) (bY t)):=by
 unfold pZ at h
 split at h
 ·cases h
 ·rename_i hc
  rw[not_or] at hc
  refine⟨by simpa using hc.1,hc.2,?_⟩
  split at h
  ·exact .inl ⟨rfl,(Option.some.inj h).symm⟩
  ·rename_i t
   split at h
   ·rename_i ht
    exact .inr ⟨t,rfl,ht.1,ht.2.1,ht.2.2,(Option.some.inj h).symm⟩
   ·cases h
theorem Tr {neg:Bool} {d:List UInt8} {s:Option (List UInt8)} {q:Rat} (h:pZ neg d s=some q):aZ q≤665:=by
 obtain⟨h1,_,h3⟩:=Xd h
 have hb:=Ab h1
 rcases h3 with⟨_,rfl⟩ | ⟨t,_,h4,h5,_,rfl⟩
 ·exact Jl (by rw[pD];exact hb) (Jk (by decide +kernel)) (by decide)
 ·exact Jl (by rw[pD];exact hb) (Ab h4) (by omega)
theorem Xu {l:List UInt8} {q:Rat} (h:AH l=some q):aZ q≤665:=Tr h
theorem K2 {neg:Bool} {t b:Nat} (hb:b≠0) (hg:Nat.gcd t b=1):(mkRat (lJ neg t) b).num=lJ neg t∧(mkRat (lJ neg t) b).den=b:=by
 rw[GM hb,SJ hb,hg,Nat.div_one,Nat.div_one]
 exact⟨rfl,rfl⟩
theorem HB {c:UInt8} {l:List UInt8}:isNeg (c::l)=decide (c=45):=by simp[isNeg]
theorem agB {l:List UInt8} (h:l.all iZ=true):(47:UInt8)∉l:=by
 intro hm
 have:=List.all_eq_true.1 h _ hm
 exact absurd this (by decide)
end Go.PM
namespace Go.PM
open Go.Lib
theorem ED (l:List UInt8) {i:Nat} (h:i<l.length):IA (.string ⟨l.toArray⟩) (.int .i64 (i:Int))=some (.int .u8 ((l.getD i 0).toNat:Int)):=by
 have hs:(⟨l.toArray⟩:ByteArray).size=l.length:=by simp[ByteArray.size]
 have e1:(0:Int)≤i∧(i:Int)<(l.length:Int):=by omega
 simp only[IA,hs,e1,and_self,if_true,Int.toNat_natCast]
theorem J3 (l:List UInt8) (h:0<l.length):IA (.string ⟨l.toArray⟩) (.int .i64 0)=some (.int .u8 ((l.getD 0 0).toNat:Int)):=ED l h
theorem Io (l:List UInt8) (a b:Nat):(⟨l.toArray⟩:ByteArray).extract a b=⟨((l.drop a).take (b-a)).toArray⟩:=by
 rw[ByteArray.ext_iff,ByteArray.data_extract]
 simp[List.extract_toArray,List.extract_eq_take_drop]
theorem Hs (l:List UInt8) {a:Nat} (h:a≤l.length):wV (bE l) (some (VI (a:Int))) none=some (bE (l.drop a)):=by
 have hs:(⟨l.toArray⟩:ByteArray).size=l.length:=by simp[ByteArray.size]
 have e2:(0:Int)≤a∧(a:Int)≤(l.length:Int):=by omega
 simp only[wV,GV,Bd,hs,fG,e2,and_self,if_true,Int.toNat_natCast,Io]
 rw[List.take_of_length_le (by simp)]
theorem OV (l:List UInt8) {b:Nat} (hb:b≤l.length):wV (bE l) none (some (VI (b:Int)))=some (bE (l.take b)):=by
 have hs:(⟨l.toArray⟩:ByteArray).size=l.length:=by simp[ByteArray.size]
 have e1:(0:Int)≤b∧(b:Int)≤(l.length:Int):=by omega
 simp only[wV,GV,Bd,hs,fG,e1,and_self,if_true,Int.toNat_natCast,Io]
 rw[List.drop_zero,Nat.sub_zero]
theorem S0 (l:List UInt8):dN .eql (.string ⟨l.toArray⟩) (.string ⟨#[]⟩)=some (.bool (decide (l=[]))):=Y2 l []
theorem KP (l:List UInt8):dN .neq (.string ⟨l.toArray⟩) (.string ⟨#[]⟩)=some (.bool (!decide (l=[]))):=SI l []
theorem UU (l:List UInt8):TC 210 [bE l,bE [45]] (VB (isNeg l)):=by
 refine TC.walk ⟨true,false⟩ tO rfl (Nat.le_of_ble_eq_true rfl) rfl rfl ?_
 have e1:xV (.string ⟨#[45]⟩)=some (.int .i64 1):=rfl
 by_cases h:(1:Int)≤(l.length:Int)
 ·have e2:=OV l (b:=1) (by omega)
  have e2:wV (bE l) none (some (VI 1))=some (bE (l.take 1)):=e2
  have e3:dN .eql (.string ⟨(l.take 1).toArray⟩) (.string ⟨#[45]⟩)=some (.bool (decide (l.take 1=[45]))):=Y2 (l.take 1) [45]
  have e4:isNeg l=decide (l.take 1=[45]):=by
   cases l with
   | nil=>exact absurd h (by decide)
   | cons c l=>rw[HB];simp
  rw[e4]
  simp only[iN,gS,bO,e1,ge_iff_le,h,e2,e3,VX,Nat.reduceEqDiff,Nat.reduceAdd]
  exact aE rfl
 ·have e4:isNeg l=false:=by unfold isNeg;rw[decide_eq_false (by omega)];rfl
  rw[e4]
  simp only[iN,gS,bO,e1,ge_iff_le,h,VX,Nat.reduceEqDiff,Nat.reduceAdd]
  exact aE rfl
theorem RC (l:List UInt8):TC 191 [bE l,bE [45]] (.dQ [bE (if isNeg l then l.drop 1 else l),VB (isNeg l)]):=by
 refine TC.walk ⟨true,false⟩ tJ rfl (Nat.le_of_ble_eq_true rfl) rfl rfl ?_
 have e0:=UU l
 have e1:xV (.string ⟨#[45]⟩)=some (.int .i64 1):=rfl
 cases h:isNeg l with
 |
  true =>
  rw[h] at e0
  have hl:1≤l.length:=by
   cases l with
   | nil=>cases h
   | cons c l=>simp
  have e2:wV (bE l) (some (VI 1)) none=some (bE (l.drop 1)):=Hs l (a:=1) hl
  simp only[iO,gZ,e0,e1,e2,VX,Nat.reduceEqDiff,Nat.reduceAdd]
  exact aE rfl
 |
  false =>
  rw[h] at e0
  simp only[iO,gZ,e0,Bool.false_eq_true,if_false,VX,Nat.reduceEqDiff,Nat.reduceAdd]
  exact aE rfl
theorem Ts (l:List UInt8):TC 173 [bE l,bE [45]] (.dQ [bE (if isNeg l then l.drop 1 else l),VB (isNeg l)]):=by
 refine TC.walk ⟨true,false⟩ FY rfl (Nat.le_of_ble_eq_true rfl) rfl rfl ?_
 have e0:=RC l
 simp only[Bc,xW,e0,VX,Nat.reduceEqDiff,Nat.reduceAdd]
 exact aE rfl
theorem atL (l:List UInt8) (hl:l.length≤1000000000000):TC 190 [bE l,bE [47]] (.dQ [bE (nE 47 l).1,bE ((nE 47 l).2.getD []),VB (nE 47 l).2.isSome]):=by
 refine TC.walk ⟨true,false⟩ Ao rfl (Nat.le_of_ble_eq_true rfl) rfl rfl ?_
 have e0:=anR l 47
 have e1:xV (.string ⟨#[47]⟩)=some (.int .i64 1):=rfl
 cases h:(nE 47 l).2 with
 |
  none =>
  obtain⟨h1,h2,_⟩:=Cj h
  rw[h1] at e0
  rw[h2]
  simp only[mE,kY,e0,ge_iff_le,Int.reduceNeg,Int.reduceLE,VX,Nat.reduceEqDiff,Nat.reduceAdd]
  exact aE rfl
 |
  some r =>
  obtain⟨h1,h2,_⟩:=JT h
  rw[h1] at e0
  generalize (nE 47 l).1=a at *
  subst h2
  rw[List.length_append,List.length_cons] at hl
  have h0:(0:Int)≤(a.length:Int):=by omega
  have e2:=OV (a++47::r) (b:=a.length) (by simp)
  have e3:=Hs (a++47::r) (a:=a.length+1) (by simp)
  rw[List.take_left] at e2
  have ed:(a++47::r).drop (a.length+1)=r:=by rw[List.drop_append];simp
  rw[ed] at e3
  have w:IntKind.i64.wrap ((a.length:Int)+1)=((a.length+1:Nat):Int):=wrapN _ (by omega) (by omega)
  simp only[mE,kY,e0,e1,ge_iff_le,h0,w,e2,e3,VX,Nat.reduceEqDiff,Nat.reduceAdd]
  exact aE rfl
theorem axW (l:List UInt8) (hl:l.length≤1000000000000):TC 172 [bE l,bE [47]] (.dQ [bE (nE 47 l).1,bE ((nE 47 l).2.getD []),VB (nE 47 l).2.isSome]):=by
 refine TC.walk ⟨true,false⟩ PH rfl (Nat.le_of_ble_eq_true rfl) rfl rfl ?_
 have e0:=atL l hl
 simp only[Li,GF,e0,VX,Nat.reduceEqDiff,Nat.reduceAdd]
 exact aE rfl
def BT (l:List UInt8):VV:=if iR l=true then .dQ [bN (bY l),VB true] else .dQ [bN 0,VB false]
theorem ZV (l:List UInt8):fX (BT l)=true:=by
 unfold BT
 split<;>simp[fX,rE,rH,lG]
theorem atP {d:Nat}:fz (d+1) [.row 0 [] 1 true] (.ref 0 0 0 0 0)=some (bN 0):=by
 rw[Fz]
 cases d with
 | zero=>rfl
 | succ d=>rfl
theorem NU {n:Nat} (hn:n≤9) {lo:Nat} {H:aA} {ρ:dU} {Q:VQ} (h58:ρ 58=VI n) (h59:ρ 59=VI 0) (h9:ρ 9=VK .u64 1) (hQ:∀bI,(∀t,t<9→bI t=ρ t)→bI 9=VK .u64 ((10^n:Nat):Int)→Q .normal bI H):VW ⟨true,false⟩ lo (.loop rZ) (Bh 4 Q) ρ H:=by
 refine aV (fun(i:Nat) bI H'=>i≤n∧H'=H∧(∀t,t<9→bI t=ρ t)∧bI 58=VI n∧bI 59=VI i∧bI 9=VK .u64 ((10^i:Nat):Int)) (fun i=>n-i) 0 ⟨Nat.zero_le _,rfl,fun _ _=>rfl,h58,h59,h9⟩ ?_
 rintro i bI H' ⟨hi,rfl,hk,g58,g59,g9⟩
 by_cases cS:(i:Int)<(n:Int)
 ·have wi:IntKind.i64.wrap ((i:Int)+1)=((i+1:Nat):Int):=wrapN (i+1) (by omega) (by omega)
  have hp:10^i≤10^8:=Nat.pow_le_pow_right (by decide) (by omega)
  have e8:(10:Nat)^8=100000000:=by decide
  have wp:IntKind.u64.wrap (((10^i:Nat):Int)*10)=((10^(i+1):Nat):Int):=by
   rw[Nat.pow_succ]
   generalize 10^i=p at *
   have:=eU (p*10) (by omega)
   rw[Int.natCast_mul] at this
   rw[Int.natCast_mul]
   exact this
  simp only[rZ,g58,g59,g9,cS,wi,wp,VX,Nat.reduceEqDiff,Nat.reduceAdd]
  refine⟨i+1,by omega,by omega,fun t ht => ?_,rfl,rfl⟩
  try simp only[wS]
  repeat rw[if_neg (by omega)]
  exact hk t ht
 ·have mI:i=n:=by omega
  subst mI
  simp only[rZ,g58,g59,cS,VX,Nat.reduceEqDiff,Nat.reduceAdd]
  refine hQ _ (fun t ht => ?_) ?_
  ·try simp only[wS]
   repeat rw[if_neg (by omega)]
   exact hk t ht
  ·simp only[g9,VX,Nat.reduceEqDiff,Nat.reduceAdd]
theorem afO {l:List UInt8} {i:Nat} (h:i<l.length):(l.take (i+1)).all iZ=((l.take i).all iZ&&iZ (l.getD i 0)):=by
 rw[List.take_add_one,List.all_append]
 have:l[i]? = some (l.getD i 0):=by rw[List.getElem?_eq_getElem h,List.getD_eq_getElem?_getD,List.getElem?_eq_getElem h];rfl
 rw[this]
 simp
theorem ND {l:List UInt8} (hl:l.length≤1000000000000) {lo:Nat} {H:aA} {ρ:dU} {Q:VQ} (h0:ρ 0=bE l) (h29:ρ 29=VI l.length) (h30:ρ 30=VI 0)
  (hR:l.all iZ=false→∀bI:dU,bI 2 = .tree [] .nil→bI 3=VB false→Q .ret bI H) (hN:l.all iZ=true→∀bI:dU,(∀t,t<5→bI t=ρ t)→Q .normal bI H):VW ⟨true,false⟩ lo (.loop lO) (Bh 0 Q) ρ H:=by
 refine aV (fun(i:Nat) bI H'=>i≤l.length∧H'=H∧(l.take i).all iZ=true∧(∀t,t<5→bI t=ρ t)∧bI 29=VI l.length∧bI 30=VI i) (fun i=>l.length-i) 0 ⟨Nat.zero_le _,rfl,rfl,fun _ _=>rfl,h29,h30⟩ ?_
 rintro i bI H' ⟨hi,rfl,hd,hk,g29,g30⟩
 have g0:=(hk 0 (by decide)).trans h0
 by_cases cS:(i:Int)<(l.length:Int)
 ·have Wm:i<l.length:=by omega
  have e1:=ED l Wm
  have wi:IntKind.i64.wrap ((i:Int)+1)=((i+1:Nat):Int):=wrapN (i+1) (by omega) (by omega)
  have ht:=afO Wm
  rw[hd,Bool.true_and] at ht
  have WJ:iZ (l.getD i 0)=(decide (48≤(l.getD i 0).toNat)&&decide ((l.getD i 0).toNat≤57)):=rfl
  have kB:iZ (l.getD i 0)=false→l.all iZ=false:=by
   intro h
   rw[h] at ht
   rw[←List.take_append_drop (i+1) l,List.all_append,ht,Bool.false_and]
  generalize (l.getD i 0).toNat=c at *
  by_cases q1:(c:Int)<48
  ·have:=kB (by rw[WJ,decide_eq_false (by omega)];rfl)
   simp only[lO,g0,g29,g30,cS,e1,q1,VX,Nat.reduceEqDiff,Nat.reduceAdd]
   exact hR this _ (by simp only[VX,Nat.reduceEqDiff,Nat.reduceAdd]) (by simp only[VX,Nat.reduceEqDiff,Nat.reduceAdd])
  ·by_cases q2:(57:Int)<(c:Int)
   ·have:=kB (by rw[WJ,decide_eq_false (show ¬c≤57 by omega),Bool.and_false])
    simp only[lO,g0,g29,g30,cS,e1,q1,q2,VX,Nat.reduceEqDiff,Nat.reduceAdd]
    exact hR this _ (by simp only[VX,Nat.reduceEqDiff,Nat.reduceAdd]) (by simp only[VX,Nat.reduceEqDiff,Nat.reduceAdd])
   ·rw[WJ,decide_eq_true (by omega),decide_eq_true (by omega),Bool.and_self] at ht
    simp only[lO,g0,g29,g30,cS,e1,q1,q2,wi,VX,Nat.reduceEqDiff,Nat.reduceAdd]
    refine⟨i+1,by omega,by omega,ht,fun t ht => ?_,rfl⟩
    try simp only[wS]
    repeat rw[if_neg (by omega)]
    exact hk t ht
 ·have mI:i=l.length:=by omega
  subst mI
  rw[List.take_length] at hd
  simp only[lO,g29,g30,cS,VX,Nat.reduceEqDiff,Nat.reduceAdd]
  refine hN hd _ fun t ht => ?_
  try simp only[wS]
  repeat rw[if_neg (by omega)]
  exact hk t ht
set_option maxHeartbeats 2000000 in
theorem MZ {l:List UInt8} (hd:l.all iZ=true) (hl:l.length≤200) (fT:l≠[]) {ρ:dU} {Q:VQ} (h0:ρ 0=bE l) (h4:ρ 4 = .ref 0 0 0 0 0)
  (hQ:∀(bI:dU),bI 4=bN (bY l)→Q .normal bI [.row 0 [] 1 false]):VW ⟨true,false⟩ 0 (.loop oG) (Bh 2 Q) ρ [.row 0 [] 1 true]:=by
 refine aV (fun(s:List UInt8×List UInt8) bI H'=>l=s.1++s.2∧bI 0=bE s.2∧((H'=[.row 0 [] 1 true]∧bI 4 = .ref 0 0 0 0 0∧s.1=[])∨(H'=[.row 0 [] 1 false]∧bI 4=bN (bY s.1)))) (fun s=>s.2.length) ([],l) ⟨rfl,h0,.inl ⟨rfl,h4,rfl⟩⟩ ?_
 rintro⟨pre,rest⟩ bI H' ⟨Vl,g0,hv⟩
 simp only at Vl g0 hv
 have e1:=KP rest
 by_cases he:rest=[]
 ·subst he
  rw[List.append_nil] at Vl
  subst Vl
  rcases hv with⟨_,_,h⟩ | ⟨rfl,g4⟩
  ·exact absurd h fT
  have XW:dN .neq (.string ⟨#[]⟩) (.string ⟨#[]⟩)=some (.bool false):=by
   have:=KP []
   rw[decide_eq_true rfl] at this
   exact this
  simp only[oG,g0,XW,VX,Nat.reduceEqDiff,Nat.reduceAdd]
  exact hQ _ (by simp only[g4,VX,Nat.reduceEqDiff,Nat.reduceAdd])
 ·rw[Vl,List.all_append,Bool.and_eq_true] at hd
  obtain⟨hd1,hd2⟩:=hd
  rw[Vl,List.length_append] at hl
  have mC:0<rest.length:=List.length_pos_iff.2 he
  have XW:dN .neq (.string ⟨rest.toArray⟩) (.string ⟨#[]⟩)=some (.bool true):=by rw[e1,decide_eq_false he];rfl
  have wm:(rest.length:Int).tmod 9=((rest.length % 9:Nat):Int):=by rw[Int.tmod_eq_emod_of_nonneg (by omega)];simp
  have er:dN .rem (.int .i64 (rest.length:Int)) (.int .i64 9)=some (.int .i64 ((rest.length % 9:Nat):Int)):=by
   rw[←wm]
   rfl
  obtain⟨n,hn⟩:∃n,n=if rest.length % 9=0 then 9 else rest.length % 9:=⟨_,rfl⟩
  have hn1:1≤n∧n≤9∧n≤rest.length:=by
   rw[hn]
   split<;>omega
  obtain⟨n1,n9,nl⟩:=hn1
  have e2:=OV rest nl
  have e3:=Hs rest nl
  have hch:(rest.take n).length=n:=by rw[List.length_take];omega
  have hcd:(rest.take n).all iZ=true:=by
   rw[←List.take_append_drop n rest,List.all_append,Bool.and_eq_true] at hd2
   exact hd2.1
  have hp:=anV (rest.take n) (bY (rest.take n)) (by omega) (arL hcd (fun h=>by rw[h] at hch;simp at hch;omega) (by omega))
  have Gj:=Ib hcd
  rw[hch] at Gj
  have hp9:10^n≤10^9:=Nat.pow_le_pow_right (by decide) n9
  have e9:(10:Nat)^9=1000000000:=by decide
  have aFy:bY (rest.take n)<1000000000:=by omega
  have c1:=nT (10^n) (by omega)
  have c2:=nT (bY (rest.take n)) (by omega)
  have hbp:bl (bY pre)≤665:=by
   refine Jk (Nat.lt_of_lt_of_le (Ib hd1) ?_)
   exact Nat.le_trans (Nat.pow_le_pow_right (by decide) (by omega:pre.length≤200)) (by decide +kernel)
  have hb9:bl (10^n)≤64:=Jk (by omega)
  have hbm:=lL (bY pre) (10^n)
  have hbc:bl (bY (rest.take n))≤64:=Jk (by omega)
  have tm:=jB (bY pre) (10^n) (fZ (by omega)) (fZ (by omega))
  have c4:=Ei (bY pre*10^n) (bY (rest.take n)) (fZ (by omega)) (fZ (by omega))
  have tS:bY pre*10^n+bY (rest.take n)=bY (pre++rest.take n):=by rw[O3,hch]
  rw[tS] at c4
  have fin:(rest.drop n).length<rest.length∧pre++rest=(pre++rest.take n)++rest.drop n:=⟨by rw[List.length_drop];omega,by rw[List.append_assoc,List.take_append_drop]⟩
  obtain⟨v4,g4,c3⟩:∃v4,bI 4=v4∧∀lo K,cO 143 [v4,bN (10^n)] lo H' K=K (bN (bY pre*10^n)) [.row 0 [] 1 false]:=by
   rcases hv with⟨rfl,g4,hp0⟩ | ⟨rfl,g4⟩
   ·refine⟨_,g4,fun lo K => ?_⟩
    subst hp0
    have:=tm.Ek (H:=[.row 0 [] 1 true]) (args:=[.ref 0 0 0 0 0,bN (10^n)]) (lo:=lo) (k:=K) rfl (by simp[aO,bU]) (fz2 atP (aI (bU _))) rfl
    rw[this,show OH (bN (bY []*10^n))=false from rfl,if_neg (by decide),List.flatMap_cons,List.flatMap_cons,List.flatMap_nil,G5 (bU _),Q4 (n:=0) (c:=0) (es:=[]) (e:=1) (w:=true) bB rfl rfl]
    rfl
   ·exact⟨_,g4,fun lo K=>tm lo [.row 0 [] 1 false] K⟩
  clear hv
  obtain⟨P,hP⟩:∃P,P=10^n:=⟨_,rfl⟩
  rw[←hP] at c1 c4 c3
  have hnI:(rest.length % 9:Nat)=0∨¬(rest.length % 9:Nat)=0:=by omega
  rcases hnI with h9 | h9
  ·rw[if_pos h9] at hn
   subst hn
   have q:((rest.length % 9:Nat):Int)=0:=by omega
   have e2':wV (bE rest) none (some (VI 9))=some (bE (rest.take 9)):=e2
   have e3':wV (bE rest) (some (VI 9)) none=some (bE (rest.drop 9)):=e3
   simp only[oG,g0,g4,XW,bO,er,q,e2',hp,VX,Nat.reduceEqDiff,Nat.reduceAdd]
   refine NU (n:=9) (by decide) ?_ ?_ ?_ fun yY k1 q9 => ?_
   ·simp only[VX,Nat.reduceEqDiff,Nat.reduceAdd];rfl
   ·simp only[VX,Nat.reduceEqDiff,Nat.reduceAdd]
   ·simp only[VX,Nat.reduceEqDiff,Nat.reduceAdd]
   rw[←hP] at q9
   have u0:yY 0=bE rest:=by rw[k1 0 (by decide)];simp only[g0,VX,Nat.reduceEqDiff,Nat.reduceAdd]
   have u4:yY 4=v4:=by rw[k1 4 (by decide)];simp only[g4,VX,Nat.reduceEqDiff,Nat.reduceAdd]
   have u6:yY 6=VI 9:=by rw[k1 6 (by decide)];simp only[VX,Nat.reduceEqDiff,Nat.reduceAdd]
   have u7:yY 7=VK .u64 (bY (rest.take 9)):=by rw[k1 7 (by decide)];simp only[VX,Nat.reduceEqDiff,Nat.reduceAdd]
   simp only[u0,u4,u6,u7,q9,c1,c2,c3,c4,e3',VX,Nat.reduceEqDiff,Nat.reduceAdd]
   exact⟨(pre++rest.take 9,rest.drop 9),fin.1,Vl.trans fin.2,rfl,.inr rfl⟩
  ·rw[if_neg h9] at hn
   rw[←hn] at er
   have q:¬(n:Int)=0:=by omega
   simp only[oG,g0,g4,XW,bO,er,q,e2,hp,VX,Nat.reduceEqDiff,Nat.reduceAdd]
   refine NU (n:=n) n9 ?_ ?_ ?_ fun yY k1 q9 => ?_
   ·simp only[VX,Nat.reduceEqDiff,Nat.reduceAdd]
   ·simp only[VX,Nat.reduceEqDiff,Nat.reduceAdd]
   ·simp only[VX,Nat.reduceEqDiff,Nat.reduceAdd]
   rw[←hP] at q9
   have u0:yY 0=bE rest:=by rw[k1 0 (by decide)];simp only[g0,VX,Nat.reduceEqDiff,Nat.reduceAdd]
   have u4:yY 4=v4:=by rw[k1 4 (by decide)];simp only[g4,VX,Nat.reduceEqDiff,Nat.reduceAdd]
   have u6:yY 6=VI n:=by rw[k1 6 (by decide)];simp only[VX,Nat.reduceEqDiff,Nat.reduceAdd]
   have u7:yY 7=VK .u64 (bY (rest.take n)):=by rw[k1 7 (by decide)];simp only[VX,Nat.reduceEqDiff,Nat.reduceAdd]
   simp only[u0,u4,u6,u7,q9,c1,c2,c3,c4,e3,VX,Nat.reduceEqDiff,Nat.reduceAdd]
   exact⟨(pre++rest.take n,rest.drop n),fin.1,Vl.trans fin.2,rfl,.inr rfl⟩
set_option maxHeartbeats 2000000 in
theorem EW (l:List UInt8) (hl:l.length≤1000000000000):TC 174 [bE l] (BT l):=by
 refine TC.walk ⟨true,false⟩ OR rfl (Nat.le_of_ble_eq_true rfl) rfl (ZV l) ?_
 have e1:=S0 l
 by_cases he:l=[]
 ·have hk:iR l=false:=by rw[he];rfl
  have XW:dN .eql (.string ⟨l.toArray⟩) (.string ⟨#[]⟩)=some (.bool true):=by rw[e1,decide_eq_true he]
  unfold BT
  rw[hk]
  simp only[qD,mV,XW,Bool.false_eq_true,if_false,VX,Nat.reduceEqDiff,Nat.reduceAdd]
  exact bR (d:=6) yN (aI (v:=VB false) rfl)
 have mC:0<l.length:=List.length_pos_iff.2 he
 by_cases alM:(200:Int)<(l.length:Int)
 ·have hk:iR l=false:=by
   cases h:iR l with
   | false=>rfl
   | true=>have:=(kM.1 h).2.2.1;omega
  unfold BT
  rw[hk]
  simp only[qD,mV,e1,he,decide_false,bO,alM,Bool.false_eq_true,if_false,VX,Nat.reduceEqDiff,Nat.reduceAdd]
  exact bR (d:=6) yN (aI (v:=VB false) rfl)
 have e2:=J3 l mC
 by_cases hz:(((l.getD 0 0).toNat:Int)=48∧1<(l.length:Int))
 ·obtain⟨JO,VA⟩:=hz
  have hk:iR l=false:=by
   cases h:iR l with
   | false=>rfl
   |
    true =>
    rcases(kM.1 h).2.2.2 with h1 | h1
    ·omega
    ·exact absurd (UInt8.toNat_inj.1 (by rw[show (48:UInt8).toNat=48 from rfl];omega)) h1
  unfold BT
  rw[hk]
  simp only[qD,mV,e1,he,decide_false,bO,alM,e2,JO,VA,Bool.false_eq_true,if_false,VX,Nat.reduceEqDiff,Nat.reduceAdd]
  exact bR (d:=6) yN (aI (v:=VB false) rfl)
 have axR:l.length=1∨l.getD 0 0≠48:=by
  by_cases h1:l.length=1
  ·exact .inl h1
  ·right
   intro h2
   apply hz
   rw[h2]
   exact⟨rfl,by omega⟩
 have e3:∀lr,kD lr [.int .u32 0] 0 [] []=some (.ref 0 0 0 0 0,[.row 0 [] 1 true]):=fun lr=>gY (H:=[]) (lr:=lr) (z:=[.int .u32 0]) rfl
 have kN:l.all iZ=true→iR l=true:=fun h=>kM.2 ⟨h,mC,by omega,axR⟩
 have kF:l.all iZ=false→iR l=false:=fun h=>by unfold iR;rw[h];rfl
 have rF:iR l=false→BT l = .dQ [bN 0,VB false]:=fun h=>by unfold BT;rw[h];rfl
 have rT:iR l=true→BT l = .dQ [bN (bY l),VB true]:=fun h=>if_pos h
 by_cases hA:(((l.getD 0 0).toNat:Int)=48)
 ·have hB:¬1<(l.length:Int):=fun h=>hz ⟨hA,h⟩
  simp only[qD,mV,e1,e3,he,decide_false,bO,alM,e2,hA,hB,Bool.false_eq_true,if_false,VX,Nat.reduceEqDiff,Nat.reduceAdd]
  refine ND hl ?_ ?_ ?_ (fun hd yY g2 g3 => ?_) fun hd yY k1 => ?_
  ·simp only[VX,Nat.reduceEqDiff,Nat.reduceAdd]
  ·simp only[VX,Nat.reduceEqDiff,Nat.reduceAdd]
  ·simp only[VX,Nat.reduceEqDiff,Nat.reduceAdd]
  ·rw[rF (kF hd)]
   simp only[g2,g3,VX,Nat.reduceEqDiff,Nat.reduceAdd]
   exact bR (d:=6) yN (aI (v:=VB false) rfl)
  ·rw[rT (kN hd)]
   simp only[VX,Nat.reduceEqDiff,Nat.reduceAdd]
   refine MZ hd (by omega) he ?_ ?_ fun Rk g4 => ?_
   ·rw[k1 0 (by decide)];simp only[VX,Nat.reduceEqDiff,Nat.reduceAdd]
   ·rw[k1 4 (by decide)];simp only[VX,Nat.reduceEqDiff,Nat.reduceAdd]
   ·simp only[g4,VX,Nat.reduceEqDiff,Nat.reduceAdd]
    exact bR (d:=6) (aI (bU _)) (aI (v:=VB true) rfl)
 ·simp only[qD,mV,e1,e3,he,decide_false,bO,alM,e2,hA,Bool.false_eq_true,if_false,VX,Nat.reduceEqDiff,Nat.reduceAdd]
  refine ND hl ?_ ?_ ?_ (fun hd yY g2 g3 => ?_) fun hd yY k1 => ?_
  ·simp only[VX,Nat.reduceEqDiff,Nat.reduceAdd]
  ·simp only[VX,Nat.reduceEqDiff,Nat.reduceAdd]
  ·simp only[VX,Nat.reduceEqDiff,Nat.reduceAdd]
  ·rw[rF (kF hd)]
   simp only[g2,g3,VX,Nat.reduceEqDiff,Nat.reduceAdd]
   exact bR (d:=6) yN (aI (v:=VB false) rfl)
  ·rw[rT (kN hd)]
   simp only[VX,Nat.reduceEqDiff,Nat.reduceAdd]
   refine MZ hd (by omega) he ?_ ?_ fun Rk g4 => ?_
   ·rw[k1 0 (by decide)];simp only[VX,Nat.reduceEqDiff,Nat.reduceAdd]
   ·rw[k1 4 (by decide)];simp only[VX,Nat.reduceEqDiff,Nat.reduceAdd]
   ·simp only[g4,VX,Nat.reduceEqDiff,Nat.reduceAdd]
    exact bR (d:=6) (aI (bU _)) (aI (v:=VB true) rfl)
def Hk:VV := .agg [VB false,bN 0,bN 0]
def D8 (l:List UInt8):VV:=match AH l with
 | some q => .dQ [aP q,VB true]
 | none => .dQ [Hk,VB false]
theorem QV:aQ Hk=true:=by simp[Hk,aQ,aO,bU,lG]
theorem Iy:fX Hk=true:=by simp[Hk,fX,rE,rH,lG]
theorem Ww (l:List UInt8):fX (D8 l)=true:=by
 unfold D8
 split<;>simp[fX,rE,rG,Iy,lG]
theorem gU {d:Nat} {H:aA}:fz (d+2) H (.agg [VB false,.tree [] .nil,.tree [] .nil])=some Hk:=sD (aI (v:=VB false) rfl) yN yN
theorem OB {neg:Bool} {t b:Nat} (hb:b≠0) (hg:Nat.gcd t b=1) (hn:¬(neg=true∧t=0)):aP (mkRat (lJ neg t) b) = .agg [VB neg,bN t,bN b]:=by
 obtain⟨e1,e2⟩:=K2 (neg:=neg) hb hg
 refine C4 ?_ (by rw[e1,pD]) e2
 rw[e1]
 cases neg with
 | false=>unfold lJ;simp
 |
  true =>
  have:t≠0:=fun h=>hn ⟨rfl,h⟩
  unfold lJ
  simp
  omega
theorem Xs (l:List UInt8):AH l=pZ (isNeg (nE 47 l).1) (if isNeg (nE 47 l).1 then (nE 47 l).1.drop 1 else (nE 47 l).1) (nE 47 l).2:=by
 cases l with
 | nil=>rfl
 |
  cons c r =>
  unfold AH
  by_cases h47:c=47
  ·subst h47
   rfl
  ·have e:nE 47 (c::r)=(c::(nE 47 r).1,(nE 47 r).2):=by rw[nE,if_neg h47]
   by_cases h45:c=45
   ·subst h45
    rw[e]
    rfl
   ·rw[e,HB,HB,decide_eq_false h45]
    simp only[Bool.false_eq_true,if_false,e]
theorem T4 {c:UInt8}:∀ {l:List UInt8},(nE c l).1.length≤l.length∧∀t,(nE c l).2=some t→t.length≤l.length:=by
 intro l
 cases h:(nE c l).2 with
 | none=>rw[(Cj h).2.1];exact⟨Nat.le_refl _,fun t ht=>by cases ht⟩
 |
  some r =>
  have:=congrArg List.length (JT h).2.1
  rw[List.length_append,List.length_cons] at this
  exact⟨by omega,fun t ht=>by cases ht;omega⟩
theorem QA {n:Nat}:(((aC 4294967296 n).length:Nat):Int)=0↔n=0:=by
 rw[←nA (b:=4294967296) (n:=n) (by decide),←List.length_eq_zero_iff]
 omega
set_option maxRecDepth 100000 in
set_option maxHeartbeats 4000000 in
theorem EN (l:List UInt8) (hl:l.length≤1000000000000):TC 115 [bE l] (D8 l):=by
 refine TC.walk ⟨true,false⟩ NV rfl (Nat.le_of_ble_eq_true rfl) rfl (Ww l) ?_
 have e1:=axW l hl
 obtain⟨l1,l2⟩:=T4 (c:=47) (l:=l)
 have hq:=Xs l
 unfold D8
 rw[hq]
 clear hq
 generalize (nE 47 l).1=f at *
 generalize (nE 47 l).2=s2 at *
 have e2:=Ts f
 have ld:(if isNeg f=true then f.drop 1 else f).length≤f.length:=by split<;>simp
 generalize (if isNeg f=true then f.drop 1 else f)=d at *
 generalize isNeg f=neg at *
 have e3:=EW d (by omega)
 have c1:TC 139 [.sc (.int .u64 1)] (bN 1):=nT 1 (by decide)
 cases hd:iR d with
 |
  false =>
  have hp:pZ neg d s2=none:=if_pos (.inl hd)
  rw[hp]
  unfold BT at e3
  rw[hd,if_neg (by decide)] at e3
  simp only[fI,dP,e1,e2,e3,aH,iB,Nat.reduceLeDiff,Nat.reduceLT,Nat.reduceSub,VX,Nat.reduceEqDiff,Nat.reduceAdd]
  exact bR (d:=6) gU (aI (v:=VB false) rfl)
 |
  true =>
  unfold BT at e3
  rw[hd,if_pos rfl] at e3
  by_cases hz:neg=true∧bY d=0
  ·have hp:pZ neg d s2=none:=if_pos (.inr hz)
   rw[hp]
   obtain⟨rfl,F1⟩:=hz
   rw[F1] at e3
   have Bv:(((aC 4294967296 0).length:Nat):Int)=0:=QA.2 rfl
   simp only[fI,dP,e1,e2,e3,dT,Bv,aH,iB,Nat.reduceLeDiff,Nat.reduceLT,Nat.reduceSub,VX,Nat.reduceEqDiff,Nat.reduceAdd]
   exact bR (d:=6) gU (aI (v:=VB false) rfl)
  ·have hbt:=Ab hd
   have Bv:neg=true→¬(((aC 4294967296 (bY d)).length:Nat):Int)=0:=fun h h0=>hz ⟨h,QA.1 h0⟩
   cases s2 with
   |
    none =>
    have hp:pZ neg d none=some (mkRat (lJ neg (bY d)) 1):=if_neg (by rw[hd];rintro(h | h);exact absurd h (by decide);exact hz h)
    rw[hp]
    simp only[]
    rw[OB (by decide) (Nat.gcd_one_right _) hz]
    cases neg with
    |
     false =>
     simp only[fI,dP,e1,e2,e3,c1,Option.isSome_none,Option.getD_none,aH,aT,aS,aN,iB,Nat.reduceLeDiff,Nat.reduceLT,Nat.reduceSub,VX,Nat.reduceEqDiff,Nat.reduceAdd]
     exact bR (d:=6) (sD (aI (v:=VB false) rfl) (aI (bU _)) (aI (bU _))) (aI (v:=VB true) rfl)
    |
     true =>
     have Bv:=Bv rfl
     simp only[fI,dP,e1,e2,e3,c1,dT,Bv,Option.isSome_none,Option.getD_none,aH,aT,aS,aN,iB,Nat.reduceLeDiff,Nat.reduceLT,Nat.reduceSub,VX,Nat.reduceEqDiff,Nat.reduceAdd]
     exact bR (d:=6) (sD (aI (v:=VB true) rfl) (aI (bU _)) (aI (bU _))) (aI (v:=VB true) rfl)
   |
    some t =>
    have e4:=EW t (by have:=l2 t rfl;omega)
    have hp:pZ neg d (some t)=if iR t=true∧1<bY t∧Nat.gcd (bY d) (bY t)=1 then some (mkRat (lJ neg (bY d)) (bY t)) else none:=if_neg (by rw[hd];rintro(h | h);exact absurd h (by decide);exact hz h)
    rw[hp]
    cases ht:iR t with
    |
     false =>
     rw[if_neg (fun h=>absurd h.1 (by decide))]
     unfold BT at e4
     rw[ht,if_neg (by decide)] at e4
     cases neg with
     |
      false =>
      simp only[fI,dP,e1,e2,e3,e4,c1,Option.isSome_some,Option.getD_some,aH,aT,aS,aN,iB,Nat.reduceLeDiff,Nat.reduceLT,Nat.reduceSub,VX,Nat.reduceEqDiff,Nat.reduceAdd]
      exact bR (d:=6) gU (aI (v:=VB false) rfl)
     |
      true =>
      have Bv:=Bv rfl
      simp only[fI,dP,e1,e2,e3,e4,c1,dT,Bv,Option.isSome_some,Option.getD_some,aH,aT,aS,aN,iB,Nat.reduceLeDiff,Nat.reduceLT,Nat.reduceSub,VX,Nat.reduceEqDiff,Nat.reduceAdd]
      exact bR (d:=6) gU (aI (v:=VB false) rfl)
    |
     true =>
     have M4:=Ab ht
     unfold BT at e4
     rw[ht,if_pos rfl] at e4
     have c2:=kW (bY t) 1 (fZ (by omega)) (fZ (Nat.le_trans (Jk (n:=1) (k:=1) (by decide)) (by decide)))
     have c3:=E7 (bY d) (bY t) (fZ (by omega)) (fZ (by omega))
     by_cases h1:fK (bY t) 1≤0
     ·have hle:¬1<bY t:=fun h=>by unfold fK at h1;rw[if_neg (by omega),if_neg (by omega)] at h1;exact absurd h1 (by decide)
      rw[if_neg (fun h=>hle h.2.1)]
      cases neg with
      |
       false =>
       simp only[fI,dP,e1,e2,e3,e4,c1,c2,h1,Option.isSome_some,Option.getD_some,aH,aT,aS,aN,iB,Nat.reduceLeDiff,Nat.reduceLT,Nat.reduceSub,VX,Nat.reduceEqDiff,Nat.reduceAdd]
       exact bR (d:=6) gU (aI (v:=VB false) rfl)
      |
       true =>
       have Bv:=Bv rfl
       simp only[fI,dP,e1,e2,e3,e4,c1,c2,h1,dT,Bv,Option.isSome_some,Option.getD_some,aH,aT,aS,aN,iB,Nat.reduceLeDiff,Nat.reduceLT,Nat.reduceSub,VX,Nat.reduceEqDiff,Nat.reduceAdd]
       exact bR (d:=6) gU (aI (v:=VB false) rfl)
     ·have bH:1<bY t:=by
       rcases Nat.lt_or_ge 1 (bY t) with h | h
       ·exact h
       ·exfalso
        apply h1
        unfold fK
        split
        ·decide
        ·rw[if_pos (by omega)];decide
      have hgl:bl (Nat.gcd (bY d) (bY t))≤665:=Nat.le_trans (lE (Nat.le_of_dvd (by omega) (Nat.gcd_dvd_right _ _))) M4
      have c4:=kW (Nat.gcd (bY d) (bY t)) 1 (fZ (by omega)) (fZ (Nat.le_trans (Jk (n:=1) (k:=1) (by decide)) (by decide)))
      by_cases hg:Nat.gcd (bY d) (bY t)=1
      ·have h4:fK (Nat.gcd (bY d) (bY t)) 1=0:=by rw[hg];rfl
       rw[if_pos ⟨rfl,bH,hg⟩]
       simp only[]
       rw[OB (by omega) hg hz]
       cases neg with
       |
        false =>
        simp only[fI,dP,e1,e2,e3,e4,c1,c2,c3,c4,h1,h4,Option.isSome_some,Option.getD_some,aH,aT,aS,aN,iB,Nat.reduceLeDiff,Nat.reduceLT,Nat.reduceSub,VX,Nat.reduceEqDiff,Nat.reduceAdd]
        exact bR (d:=6) (sD (aI (v:=VB false) rfl) (aI (bU _)) (aI (bU _))) (aI (v:=VB true) rfl)
       |
        true =>
        have Bv:=Bv rfl
        simp only[fI,dP,e1,e2,e3,e4,c1,c2,c3,c4,h1,h4,dT,Bv,Option.isSome_some,Option.getD_some,aH,aT,aS,aN,iB,Nat.reduceLeDiff,Nat.reduceLT,Nat.reduceSub,VX,Nat.reduceEqDiff,Nat.reduceAdd]
        exact bR (d:=6) (sD (aI (v:=VB true) rfl) (aI (bU _)) (aI (bU _))) (aI (v:=VB true) rfl)
      ·have h4:¬fK (Nat.gcd (bY d) (bY t)) 1=0:=by
        unfold fK
        split<;>(try split)<;>first | decide | omega
       rw[if_neg (fun h=>hg h.2.2)]
       cases neg with
       |
        false =>
        simp only[fI,dP,e1,e2,e3,e4,c1,c2,c3,c4,h1,h4,Option.isSome_some,Option.getD_some,aH,aT,aS,aN,iB,Nat.reduceLeDiff,Nat.reduceLT,Nat.reduceSub,VX,Nat.reduceEqDiff,Nat.reduceAdd]
        exact bR (d:=6) gU (aI (v:=VB false) rfl)
       |
        true =>
        have Bv:=Bv rfl
        simp only[fI,dP,e1,e2,e3,e4,c1,c2,c3,c4,h1,h4,dT,Bv,Option.isSome_some,Option.getD_some,aH,aT,aS,aN,iB,Nat.reduceLeDiff,Nat.reduceLT,Nat.reduceSub,VX,Nat.reduceEqDiff,Nat.reduceAdd]
        exact bR (d:=6) gU (aI (v:=VB false) rfl)
end Go.PM