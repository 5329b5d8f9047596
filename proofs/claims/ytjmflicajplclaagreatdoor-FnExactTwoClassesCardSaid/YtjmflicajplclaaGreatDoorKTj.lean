/- Texts of a claim, in one: part 10. -/
import Derived.Lib.Bytealg
import Derived.Lib.ParseIntB
import Derived.Test.YtjmflicajplclaaGreatDoorKTi
set_option linter.unusedSimpArgs false
set_option linter.unusedVariables false
namespace Go.PM
open Go.Lib
def aQ (q:Rat):VV := .agg [VB (decide (q.num<0)),bN q.num.natAbs,bN q.den]
theorem gW (q:Rat):aN (aQ q)=true:=by simp[aQ,aN,aM,bS,kB]
theorem qC (q:Rat):gJ (aQ q)=true:=by simp[aQ,gJ,qB,pW,kB]
theorem Bw {q:Rat} {neg:Bool} {t b:Nat} (h0:q.num<0↔neg=true) (h1:q.num.natAbs=t) (h2:q.den=b):aQ q = .agg [VB neg,bN t,bN b]:=by
 subst h1 h2
 unfold aQ
 congr 4
 cases neg<;>simp_all
theorem agK {neg:Bool} {t b:Nat} (hb:b≠0) (ht:t≠0):aQ (mkRat (kE neg t) b) = .agg [VB neg,bN (t / Nat.gcd t b),bN (b / Nat.gcd t b)]:=by
 refine Bw ?_ ?_ (Qm hb)
 ·rw[E9 hb,Pb]
  have h1:t / Nat.gcd t b≠0:=by
   have:=Nat.div_pos (Nat.le_of_dvd (by omega) (Nat.gcd_dvd_left t b)) (Nat.gcd_pos_of_pos_left b (by omega))
   omega
  simp[h1]
 ·rw[E9 hb,nQ]
theorem YD:aQ 0 = .agg [VB false,.tree [] .op,bN 1]:=by
 rw[Bw (q:=0) (neg:=false) (t:=0) (b:=1) (by simp) rfl rfl,DO]
theorem aV (n:Nat):bP (bN n)=true:=rfl
theorem aY (n:Nat):isAny (bN n)=false:=rfl
theorem aP (n:Nat):aB (bN n)=[bN n]:=rfl
theorem dE (q:Rat):isAny (aQ q)=false:=rfl
theorem aH (q:Rat):aB (aQ q)=[VB (decide (q.num<0)),bN q.num.natAbs,bN q.den]:=rfl
theorem dF (q:Rat):dD true 3 (aQ q) 0=some (aQ q):=rfl
theorem jE (q:Rat):dD false 1 (aQ q) 0=some (VB (decide (q.num<0))):=rfl
theorem jA (q:Rat):dD false 1 (aQ q) 1=some (bN q.num.natAbs):=rfl
theorem lJ (q:Rat):dD false 1 (aQ q) 2=some (bN q.den):=rfl
theorem qF {d:Nat} {H:aA} {u u' v v' w w':VV} (h1:fz (d+1) H u=some u') (h2:fz (d+1) H v=some v') (h3:fz (d+1) H w=some w'):fz (d+2) H (.agg [u,v,w])=some (.agg [u',v',w']):=by
 have e:fz (d+2) H (.agg [u,v,w])=if aN (.agg [u,v,w])=true then some (.agg [u,v,w]) else ([u,v,w].mapM (fz (d+1) H)).map .agg:=rfl
 rw[e]
 by_cases hp:aN (.agg [u,v,w])=true
 ·rw[if_pos hp]
  simp only[aN,aM,Bool.and_eq_true,and_true] at hp
  rw[aJ hp.1] at h1
  rw[aJ hp.2.1] at h2
  rw[aJ hp.2.2] at h3
  cases h1
  cases h2
  cases h3
  rfl
 ·rw[if_neg hp,List.mapM_cons,h1,List.mapM_cons,h2,List.mapM_cons,h3]
  rfl
theorem adN {d:Nat} {H:aA} {v:Value} (h:kB v=true):fz (d+1) H (.sc v)=some (.sc v):=aJ h
theorem uN {H:aA} {neg:Bool} {t b:Nat}:fz depth H (.agg [VB neg,bN t,bN b])=some (.agg [VB neg,bN t,bN b]):=aF (by simp[aN,aM,bS,kB])
theorem qK {H:aA} (q:Rat):fz depth H (aQ q)=some (aQ q):=aF (gW q)
theorem asG {n:Nat} (h:bl n≤2199023255552):(aC 4294967296 n).length≤68719476736:=by
 have:=akJ n
 omega
theorem fG {n:Nat} (h:bl n≤4398046511104):(aC 4294967296 n).length≤17592186044416:=by
 have:=akJ n
 omega
theorem pX (neg:Bool) (t b:Nat) (hb:b≠0) (ht:bl t≤4398046511104) (uB:bl b≤4398046511104):TC 144 [VB neg,bN t,bN b] (aQ (mkRat (kE neg t) b)):=by
 refine TC.walk ⟨true,false⟩ No rfl (Nat.le_of_ble_eq_true rfl) (by simp[aM,bS,aN,kB]) (qC _) ?_
 by_cases h0:t=0
 ·subst h0
  have hl:(((aC 4294967296 0).length:Nat):Int)=0:=by rw[cB];rfl
  have c1:TC 139 [.sc (.int .u64 1)] (bN 1):=mR 1 (by decide)
  rw[yL,Rat.zero_mkRat,YD,←DO]
  simp only[uQ,pY,dJ,hl,c1,aV,aY,aP,iU,Nat.reduceLeDiff,Nat.reduceLT,Nat.reduceSub,VX,Nat.reduceEqDiff,Nat.reduceAdd]
  exact qF (adN rfl) wK (aJ (bS _))
 ·have hl:¬(((aC 4294967296 t).length:Nat):Int)=0:=by have:=wC.2 h0;omega
  have c1:=C9 t b (fG ht) (fG uB)
  have hg0:Nat.gcd t b≠0:=Nat.gcd_ne_zero_right hb
  have YZ:bl (Nat.gcd t b)≤4398046511104:=Nat.le_trans (jZ (Nat.gcd_le_right t (by omega))) uB
  have c2:=xW t _ hg0 (fG ht) (fG YZ)
  have c3:=xW b _ hg0 (fG uB) (fG YZ)
  rw[agK hb h0]
  by_cases h1:((aC 4294967296 (Nat.gcd t b)).length:Int)=1
  ·obtain⟨d,hd⟩:∃d,aC 4294967296 (Nat.gcd t b)=[d]:=List.length_eq_one_iff.1 (by omega)
   obtain⟨hgd,_,_⟩:=Ri hd
   have e1:bK 1 (bN (Nat.gcd t b)) (.sc (.int .i64 0)) [.row 0 [.agg [VB false,.tree [] .nil,.tree [] .nil]] 3 true]=some (.cN (uV d) 0):=aK (f:=uV) (xs:=aC 4294967296 (Nat.gcd t b)) (i:=0) (k := .i64) (by rw[hd];rfl) rfl
   by_cases h2:(d:Int)=1
   ·have hg1:Nat.gcd t b=1:=by omega
    simp only[uQ,pY,dJ,hl,c1,h1,h2,e1,aV,aY,aP,iU,Nat.reduceLeDiff,Nat.reduceLT,Nat.reduceSub,VX,Nat.reduceEqDiff,Nat.reduceAdd]
    rw[hg1,Nat.div_one,Nat.div_one]
    exact uN
   ·simp only[uQ,pY,dJ,hl,c1,c2,c3,h1,h2,e1,aV,aY,aP,iU,Nat.reduceLeDiff,Nat.reduceLT,Nat.reduceSub,VX,Nat.reduceEqDiff,Nat.reduceAdd]
    exact uN
  ·simp only[uQ,pY,dJ,hl,c1,c2,c3,h1,aV,aY,aP,iU,Nat.reduceLeDiff,Nat.reduceLT,Nat.reduceSub,VX,Nat.reduceEqDiff,Nat.reduceAdd]
   exact uN
theorem Yp {n:Int} (h0 : -9223372036854775808≤n) (h:n<0):IntKind.u64.wrap (0-IntKind.u64.wrap n)=(n.natAbs:Int):=by
 rw[wrap_u64,wrap_u64]
 omega
theorem Ie (n:Int) (h0 : -9223372036854775808≤n) (h1:n≤9223372036854775807):TC 140 [VI n] (VK .u64 (n.natAbs:Int)):=by
 refine TC.walk ⟨true,false⟩ Ic rfl (Nat.le_of_ble_eq_true rfl) rfl rfl ?_
 by_cases h:n<0
 ·simp only[yF,tO,h,Yp h0 h,VX,Nat.reduceEqDiff,Nat.reduceAdd]
  exact aF rfl
 ·have w:IntKind.u64.wrap n=(n.natAbs:Int):=by rw[wrap_u64];omega
  simp only[yF,tO,h,w,VX,Nat.reduceEqDiff,Nat.reduceAdd]
  exact aF rfl
theorem aeC (n:Int):aQ (n:Rat) = .agg [VB (decide (n<0)),bN n.natAbs,bN 1]:=Bw (by simp) (by simp) (by simp)
theorem sP (n:Int) (h0 : -9223372036854775808≤n) (h1:n≤9223372036854775807):TC 64 [VI n] (aQ (n:Rat)):=by
 refine TC.walk ⟨true,false⟩ Pj rfl (Nat.le_of_ble_eq_true rfl) rfl (qC _) ?_
 have c1:=Ie n h0 h1
 have c2:=mR n.natAbs (by omega)
 have c3:TC 139 [.sc (.int .u64 1)] (bN 1):=mR 1 (by decide)
 rw[aeC]
 simp only[Lr,Hc,c1,c2,c3,aV,aY,aP,iU,Nat.reduceLeDiff,Nat.reduceLT,Nat.reduceSub,VX,Nat.reduceEqDiff,Nat.reduceAdd]
 exact uN
theorem Kh {q:Rat}:(((aC 4294967296 q.num.natAbs).length:Nat):Int)=0↔q.num=0:=by
 have:=wC (n:=q.num.natAbs)
 omega
theorem iR (q:Rat):TC 68 [aQ q] (VI (kO q)):=by
 refine TC.walk ⟨true,false⟩ GY rfl (Nat.le_of_ble_eq_true rfl) (by simp[aM,gW]) rfl ?_
 unfold kO
 by_cases h0:q.num=0
 ·have hl:=Kh.2 h0
  rw[if_pos h0]
  simp only[qD,nR,dJ,hl,aH,jE,jA,aV,aY,aP,iU,Nat.reduceLeDiff,Nat.reduceLT,Nat.reduceSub,VX,Nat.reduceEqDiff,Nat.reduceAdd]
  exact aF rfl
 ·have hl:¬(((aC 4294967296 q.num.natAbs).length:Nat):Int)=0:=fun h=>h0 (Kh.1 h)
  rw[if_neg h0]
  by_cases h1:q.num<0
  ·simp only[qD,nR,dJ,hl,h1,aH,jE,jA,aV,aY,aP,iU,Nat.reduceLeDiff,Nat.reduceLT,Nat.reduceSub,VX,Nat.reduceEqDiff,Nat.reduceAdd]
   exact aF rfl
  ·simp only[qD,nR,dJ,hl,h1,aH,jE,jA,aV,aY,aP,iU,Nat.reduceLeDiff,Nat.reduceLT,Nat.reduceSub,VX,Nat.reduceEqDiff,Nat.reduceAdd]
   exact aF rfl
theorem HC (q:Rat):TC 177 [aQ q] (aQ (-q)):=by
 refine TC.walk ⟨true,false⟩ Fx rfl (Nat.le_of_ble_eq_true rfl) (by simp[aM,gW]) (qC _) ?_
 have hq:aQ (-q) = .agg [VB (decide (0<q.num)),bN q.num.natAbs,bN q.den]:=Bw (by simp) (by simp) (by simp)
 rw[hq]
 by_cases h1:q.num<0
 ·have h2:¬0<q.num:=by omega
  simp only[oR,mP,dJ,h1,h2,aH,jE,jA,lJ,aV,aY,aP,iU,Nat.reduceLeDiff,Nat.reduceLT,Nat.reduceSub,VX,Nat.reduceEqDiff,Nat.reduceAdd]
  exact uN
 ·by_cases h0:q.num=0
  ·have hl:¬(0:Int)<((aC 4294967296 q.num.natAbs).length:Int):=by have:=Kh.2 h0;omega
   have h2:¬0<q.num:=by omega
   simp only[oR,mP,dJ,hl,h1,h2,aH,jE,jA,lJ,aV,aY,aP,iU,Nat.reduceLeDiff,Nat.reduceLT,Nat.reduceSub,VX,Nat.reduceEqDiff,Nat.reduceAdd]
   exact uN
  ·have hl:(0:Int)<((aC 4294967296 q.num.natAbs).length:Int):=by have:=mt Kh.1 h0;omega
   have h2:0<q.num:=by omega
   simp only[oR,mP,dJ,hl,h1,h2,aH,jE,jA,lJ,aV,aY,aP,iU,Nat.reduceLeDiff,Nat.reduceLT,Nat.reduceSub,VX,Nat.reduceEqDiff,Nat.reduceAdd]
   exact uN
end Go.PM
namespace Go.PM
open Go.Lib
theorem zZ (a b:Bool):Nx false (.bool a) (.bool b)=some (.bool (a == b)):=by
 show some (Value.bool ((a == b) != false))=_
 rw[Bool.bne_false]
theorem nZ (a b:Bool):Nx true (.bool a) (.bool b)=some (.bool (a != b)):=by
 show some (Value.bool ((a == b) != true))=_
 cases a<;>cases b<;>rfl
theorem tG {q:Rat} {k:Nat} (h:aU q≤k):bl q.num.natAbs≤k:=Nat.le_trans rC h
theorem tN {q:Rat} {k:Nat} (h:aU q≤k):bl q.den≤k:=Nat.le_trans oQ h
theorem II {X Y B:Nat} {a b:Rat} (hB:B≠0) (ha:mkRat (kE (decide (a.num<0)) X) B=a) (hb:mkRat (kE (decide (b.num<0)) Y) B=b) :
  ((decide (a.num<0))=(decide (b.num<0))→mkRat (kE (decide (a.num<0)) (X+Y)) B=a+b) ∧
  ((decide (a.num<0))≠(decide (b.num<0))→Y≤X→mkRat (kE (decide (a.num<0)) (X-Y)) B=a+b) ∧
  ((decide (a.num<0))≠(decide (b.num<0))→X≤Y→mkRat (kE (decide (b.num<0)) (Y-X)) B=a+b):=by
 refine⟨fun h => ?_,fun h hx => ?_,fun h hx => ?_⟩
 ·conv=>rhs;rw[←ha,←hb,CR _ _ hB,←h,Pv]
 ·conv=>rhs;rw[←ha,←hb,CR _ _ hB,TG h hx]
 ·conv=>rhs;rw[←ha,←hb,CR _ _ hB,T7 h hx]
theorem wS (a b:Rat) (NC:aU a≤1099511627776) (Hv:aU b≤1099511627776):TC 69 [aQ a,aQ b] (aQ (a+b)):=by
 refine TC.walk ⟨true,false⟩ HL rfl (Nat.le_of_ble_eq_true rfl) (by simp[aM,gW]) (qC _) ?_
 have ca:=iR a
 have cb:=iR b
 by_cases ha0:a.num=0
 ·have:a=0:=Rat.num_eq_zero.1 ha0
  rw[kV ha0] at ca
  rw[this,Rat.zero_add,←this]
  simp only[gD,eK,ca,cb,aH,dF,dE,aV,aY,aP,iU,Nat.reduceLeDiff,Nat.reduceLT,Nat.reduceSub,VX,Nat.reduceEqDiff,Nat.reduceAdd]
  exact qK _
 have hsa:¬kO a=0:=fun h=>ha0 (Rat.num_eq_zero.2 (BW.1 h))
 by_cases hb0:b.num=0
 ·have:b=0:=Rat.num_eq_zero.1 hb0
  rw[kV hb0] at cb
  rw[this,Rat.add_zero,←this]
  simp only[gD,eK,ca,cb,hsa,aH,dF,dE,aV,aY,aP,iU,Nat.reduceLeDiff,Nat.reduceLT,Nat.reduceSub,VX,Nat.reduceEqDiff,Nat.reduceAdd]
  exact qK _
 have hsb:¬kO b=0:=fun h=>hb0 (Rat.num_eq_zero.2 (BW.1 h))
 have la:=tG NC
 have lb:=tG Hv
 have lda:=tN NC
 have ldb:=tN Hv
 have fin:∀(X Y B:Nat),bl X≤2199023255552→bl Y≤2199023255552→bl B≤2199023255552→B≠0→mkRat (kE (decide (a.num<0)) X) B=a→mkRat (kE (decide (b.num<0)) Y) B=b →
   TC 145 [bN X,bN Y] (bN (X+Y))∧TC 142 [bN X,bN Y] (VI (eX X Y)) ∧
   (Y≤X→TC 146 [bN X,bN Y] (bN (X-Y)))∧(X≤Y→TC 146 [bN Y,bN X] (bN (Y-X))) ∧
   (∀neg,TC 144 [VB neg,bN (X+Y),bN B] (aQ (mkRat (kE neg (X+Y)) B))) ∧
   (∀neg,TC 144 [VB neg,bN (X-Y),bN B] (aQ (mkRat (kE neg (X-Y)) B))) ∧
   (∀neg,TC 144 [VB neg,bN (Y-X),bN B] (aQ (mkRat (kE neg (Y-X)) B))):=by
  intro X Y B hX hY hB hB0 _ _
  refine⟨DE X Y (fG (by omega)) (fG (by omega)),jS X Y (fG (by omega)) (fG (by omega)),fun h=>Dh X Y h (fG (by omega)),fun h=>Dh Y X h (fG (by omega)),fun neg=>pX neg _ _ hB0 ?_ (by omega),fun neg=>pX neg _ _ hB0 ?_ (by omega),fun neg=>pX neg _ _ hB0 ?_ (by omega)⟩
  ·exact Nat.le_trans (Ua hX hY) (by omega)
  ·exact Nat.le_trans (jZ (Nat.sub_le _ _)) (by omega)
  ·exact Nat.le_trans (jZ (Nat.sub_le _ _)) (by omega)
 by_cases hd:a.den=b.den
 ·have hBn:=a.den_nz
  have cc:=jS a.den b.den (fG (by omega)) (fG (by omega))
  rw[show eX a.den b.den=0 from AT.2 hd] at cc
  have eb:mkRat (kE (decide (b.num<0)) b.num.natAbs) a.den=b:=by rw[hd,Kp]
  obtain⟨f1,f2,f3,f4,f5,f6,f7⟩:=fin a.num.natAbs b.num.natAbs a.den (by omega) (by omega) (by omega) hBn (Kp a) eb
  obtain⟨p1,p2,p3⟩:=II hBn (Kp a) eb
  by_cases hn:decide (a.num<0)=decide (b.num<0)
  ·have S8:(decide (a.num<0) == decide (b.num<0))=true:=by simpa using hn
   rw[←p1 hn]
   simp only[gD,eK,ca,cb,hsa,hsb,cc,f1,f5,zZ,nZ,S8,aH,dF,jE,jA,lJ,dE,aV,aY,aP,iU,Nat.reduceLeDiff,Nat.reduceLT,Nat.reduceSub,VX,Nat.reduceEqDiff,Nat.reduceAdd]
   exact qK _
  ·have S8:(decide (a.num<0) == decide (b.num<0))=false:=by simpa using hn
   by_cases hx:(0:Int)≤eX a.num.natAbs b.num.natAbs
   ·have hle:b.num.natAbs≤a.num.natAbs:=by have := @uE a.num.natAbs b.num.natAbs;omega
    have c3:=f3 hle
    rw[←p2 hn hle]
    simp only[gD,eK,ca,cb,hsa,hsb,cc,f2,c3,f6,hx,zZ,nZ,S8,aH,dF,jE,jA,lJ,dE,aV,aY,aP,iU,Nat.reduceLeDiff,Nat.reduceLT,Nat.reduceSub,VX,Nat.reduceEqDiff,Nat.reduceAdd]
    exact qK _
   ·have hle:a.num.natAbs≤b.num.natAbs:=by have := @uE a.num.natAbs b.num.natAbs;omega
    have c3:=f4 hle
    rw[←p3 hn hle]
    simp only[gD,eK,ca,cb,hsa,hsb,cc,f2,c3,f7,hx,zZ,nZ,S8,aH,dF,jE,jA,lJ,dE,aV,aY,aP,iU,Nat.reduceLeDiff,Nat.reduceLT,Nat.reduceSub,VX,Nat.reduceEqDiff,Nat.reduceAdd]
    exact qK _
 ·have hBn:=Nat.mul_ne_zero a.den_nz b.den_nz
  have cc:=jS a.den b.den (fG (by omega)) (fG (by omega))
  have TS:¬eX a.den b.den=0:=fun h=>hd (AT.1 h)
  have m1:=iF a.num.natAbs b.den (fG (by omega)) (fG (by omega))
  have m2:=iF b.num.natAbs a.den (fG (by omega)) (fG (by omega))
  have m3:=iF a.den b.den (fG (by omega)) (fG (by omega))
  have ea:mkRat (kE (decide (a.num<0)) (a.num.natAbs*b.den)) (a.den*b.den)=a:=DP a b.den_nz
  have eb:mkRat (kE (decide (b.num<0)) (b.num.natAbs*a.den)) (a.den*b.den)=b:=by rw[Nat.mul_comm a.den];exact DP b a.den_nz
  have k1:=nL a.num.natAbs b.den
  have k2:=nL b.num.natAbs a.den
  have k3:=nL a.den b.den
  obtain⟨f1,f2,f3,f4,f5,f6,f7⟩:=fin _ _ _ (by omega) (by omega) (by omega) hBn ea eb
  obtain⟨p1,p2,p3⟩:=II hBn ea eb
  by_cases hn:decide (a.num<0)=decide (b.num<0)
  ·have S8:(decide (a.num<0) == decide (b.num<0))=true:=by simpa using hn
   rw[←p1 hn]
   simp only[gD,eK,ca,cb,hsa,hsb,cc,TS,m1,m2,m3,f1,f5,zZ,nZ,S8,aH,dF,jE,jA,lJ,dE,aV,aY,aP,iU,Nat.reduceLeDiff,Nat.reduceLT,Nat.reduceSub,VX,Nat.reduceEqDiff,Nat.reduceAdd]
   exact qK _
  ·have S8:(decide (a.num<0) == decide (b.num<0))=false:=by simpa using hn
   by_cases hx:(0:Int)≤eX (a.num.natAbs*b.den) (b.num.natAbs*a.den)
   ·have hle:b.num.natAbs*a.den≤a.num.natAbs*b.den:=by have := @uE (a.num.natAbs*b.den) (b.num.natAbs*a.den);omega
    have c3:=f3 hle
    rw[←p2 hn hle]
    simp only[gD,eK,ca,cb,hsa,hsb,cc,TS,m1,m2,m3,f2,c3,f6,hx,zZ,nZ,S8,aH,dF,jE,jA,lJ,dE,aV,aY,aP,iU,Nat.reduceLeDiff,Nat.reduceLT,Nat.reduceSub,VX,Nat.reduceEqDiff,Nat.reduceAdd]
    exact qK _
   ·have hle:a.num.natAbs*b.den≤b.num.natAbs*a.den:=by have := @uE (a.num.natAbs*b.den) (b.num.natAbs*a.den);omega
    have c3:=f4 hle
    rw[←p3 hn hle]
    simp only[gD,eK,ca,cb,hsa,hsb,cc,TS,m1,m2,m3,f2,c3,f7,hx,zZ,nZ,S8,aH,dF,jE,jA,lJ,dE,aV,aY,aP,iU,Nat.reduceLeDiff,Nat.reduceLT,Nat.reduceSub,VX,Nat.reduceEqDiff,Nat.reduceAdd]
    exact qK _
theorem Kz (a b:Rat) (NC:aU a≤1099511627776) (Hv:aU b≤1099511627776):TC 128 [aQ a,aQ b] (aQ (a-b)):=by
 refine TC.walk ⟨true,false⟩ Ht rfl (Nat.le_of_ble_eq_true rfl) (by simp[aM,gW]) (qC _) ?_
 have c1:=HC b
 have c2:=wS a (-b) NC (by rw[Ia];exact Hv)
 rw[←Rat.sub_eq_add_neg] at c2
 simp only[CJ,AP,c1,c2,aH,dF,dE,aV,aY,aP,iU,Nat.reduceLeDiff,Nat.reduceLT,Nat.reduceSub,VX,Nat.reduceEqDiff,Nat.reduceAdd]
 exact qK _
theorem Me (a b:Rat) (NC:aU a≤1099511627776) (Hv:aU b≤1099511627776):TC 132 [aQ a,aQ b] (aQ (a*b)):=by
 refine TC.walk ⟨true,false⟩ Ii rfl (Nat.le_of_ble_eq_true rfl) (by simp[aM,gW]) (qC _) ?_
 have ca:=iR a
 have cb:=iR b
 have c0:TC 64 [VI 0] (aQ 0):=sP 0 (by decide) (by decide)
 by_cases ha0:a.num=0
 ·have:a=0:=Rat.num_eq_zero.1 ha0
  rw[kV ha0] at ca
  rw[show a*b=0 by rw[this,Rat.zero_mul]]
  simp only[sT,pF,ca,cb,c0,aH,dF,dE,aV,aY,aP,iU,Nat.reduceLeDiff,Nat.reduceLT,Nat.reduceSub,VX,Nat.reduceEqDiff,Nat.reduceAdd]
  exact qK _
 have hsa:¬kO a=0:=fun h=>ha0 (Rat.num_eq_zero.2 (BW.1 h))
 by_cases hb0:b.num=0
 ·have:b=0:=Rat.num_eq_zero.1 hb0
  rw[kV hb0] at cb
  rw[show a*b=0 by rw[this,Rat.mul_zero]]
  simp only[sT,pF,ca,cb,hsa,c0,aH,dF,dE,aV,aY,aP,iU,Nat.reduceLeDiff,Nat.reduceLT,Nat.reduceSub,VX,Nat.reduceEqDiff,Nat.reduceAdd]
  exact qK _
 have hsb:¬kO b=0:=fun h=>hb0 (Rat.num_eq_zero.2 (BW.1 h))
 have la:=tG NC
 have lb:=tG Hv
 have lda:=tN NC
 have ldb:=tN Hv
 have l1:=pX false a.num.natAbs b.den b.den_nz (by omega) (by omega)
 have l2:=pX false b.num.natAbs a.den a.den_nz (by omega) (by omega)
 obtain⟨d1,d2⟩:=Bo a.num.natAbs b.den_nz
 obtain⟨d3,d4⟩:=Bo b.num.natAbs a.den_nz
 have b1:=jZ (Nat.le_of_dvd (by omega) d1)
 have b2:=jZ (Nat.le_of_dvd (Nat.pos_of_ne_zero b.den_nz) d2)
 have b3:=jZ (Nat.le_of_dvd (by omega) d3)
 have b4:=jZ (Nat.le_of_dvd (Nat.pos_of_ne_zero a.den_nz) d4)
 obtain⟨e1,e2⟩:=X2 a b
 have e3:=QC ha0 hb0
 generalize mkRat (kE false a.num.natAbs) b.den=u at *
 generalize mkRat (kE false b.num.natAbs) a.den=v at *
 have m1:=iF u.num.natAbs v.num.natAbs (fG (by omega)) (fG (by omega))
 have m2:=iF u.den v.den (fG (by omega)) (fG (by omega))
 rw[Bw e3 e1 e2]
 simp only[sT,pF,ca,cb,hsa,hsb,l1,l2,m1,m2,zZ,nZ,aH,dF,jE,jA,lJ,dE,aV,aY,aP,iU,Nat.reduceLeDiff,Nat.reduceLT,Nat.reduceSub,VX,Nat.reduceEqDiff,Nat.reduceAdd]
 exact uN
theorem acK {b:Rat} (h:b≠0):aQ b⁻¹ = .agg [VB (decide (b.num<0)),bN b.den,bN b.num.natAbs]:=by
 have hn:b.num≠0:=fun hn=>h (Rat.num_eq_zero.1 hn)
 have hd:(0:Int)<b.den:=by have:=b.den_nz;omega
 refine Bw ?_ ?_ ?_
 ·rw[Rat.num_inv,decide_eq_true_eq]
  rcases Int.lt_or_gt_of_ne hn with h1 | h1
  ·rw[Int.sign_eq_neg_one_of_neg h1];omega
  ·rw[Int.sign_eq_one_of_pos h1];omega
 ·rw[Rat.num_inv,Int.natAbs_mul,Int.natAbs_natCast]
  rcases Int.lt_or_gt_of_ne hn with h1 | h1
  ·rw[Int.sign_eq_neg_one_of_neg h1];simp
  ·rw[Int.sign_eq_one_of_pos h1];simp
 ·rw[Rat.den_inv,if_neg hn]
theorem J1 (a b:Rat) (hb:b≠0) (NC:aU a≤1099511627776) (Hv:aU b≤1099511627776):TC 129 [aQ a,aQ b] (aQ (a / b)):=by
 refine TC.walk ⟨true,false⟩ Ge rfl (Nat.le_of_ble_eq_true rfl) (by simp[aM,gW]) (qC _) ?_
 have c1:=Me a b⁻¹ NC (Nat.le_trans (N3 b) Hv)
 rw[←Rat.div_def,acK hb] at c1
 simp only[Cn,zG,c1,aH,dF,jE,jA,lJ,dE,aV,aY,aP,iU,Nat.reduceLeDiff,Nat.reduceLT,Nat.reduceSub,VX,Nat.reduceEqDiff,Nat.reduceAdd]
 exact qK _
theorem Jp (q:Rat) : -1≤kO q∧kO q≤1:=by
 rcases Int.lt_trichotomy q.num 0 with h | h | h
 ·rw[oX h];omega
 ·rw[kV h];omega
 ·rw[oT h];omega
theorem UK (m n:Nat) : -1≤eX m n∧eX m n≤1:=by
 rcases Nat.lt_trichotomy m n with h | h | h
 ·rw[eX,if_pos h];omega
 ·subst h;rw[eX,if_neg (by omega),if_pos rfl];omega
 ·rw[eX,if_neg (by omega),if_neg (by omega)];omega
theorem Lq (a b:Rat) (NC:aU a≤1099511627776) (Hv:aU b≤1099511627776):TC 148 [aQ a,aQ b] (VI (Tj a b)):=by
 refine TC.walk ⟨true,false⟩ HU rfl (Nat.le_of_ble_eq_true rfl) (by simp[aM,gW]) rfl ?_
 have ca:=iR a
 have cb:=iR b
 have la:=tG NC
 have lb:=tG Hv
 have lda:=tN NC
 have ldb:=tN Hv
 have k1:=nL a.num.natAbs b.den
 have k2:=nL b.num.natAbs a.den
 have m1:=iF a.num.natAbs b.den (fG (by omega)) (fG (by omega))
 have m2:=iF b.num.natAbs a.den (fG (by omega)) (fG (by omega))
 have c1:=jS (a.num.natAbs*b.den) (b.num.natAbs*a.den) (fG (by omega)) (fG (by omega))
 have ra:=Jp a
 have rb:=Jp b
 have rc:=UK (a.num.natAbs*b.den) (b.num.natAbs*a.den)
 unfold Tj
 by_cases hs:kO a=kO b
 ·rw[if_pos hs]
  have w:IntKind.i64.wrap (0-eX (a.num.natAbs*b.den) (b.num.natAbs*a.den)) = -eX (a.num.natAbs*b.den) (b.num.natAbs*a.den):=by rw[wrap64 (by omega) (by omega)];omega
  by_cases hn:a.num<0
  ·rw[if_pos hn]
   simp only[rQ,oS,ca,cb,hs,m1,m2,c1,hn,w,aH,dF,jE,jA,lJ,dE,aV,aY,aP,iU,Nat.reduceLeDiff,Nat.reduceLT,Nat.reduceSub,VX,Nat.reduceEqDiff,Nat.reduceAdd]
   exact aF rfl
  ·rw[if_neg hn]
   simp only[rQ,oS,ca,cb,hs,m1,m2,c1,hn,aH,dF,jE,jA,lJ,dE,aV,aY,aP,iU,Nat.reduceLeDiff,Nat.reduceLT,Nat.reduceSub,VX,Nat.reduceEqDiff,Nat.reduceAdd]
   exact aF rfl
 ·rw[if_neg hs]
  have w:IntKind.i64.wrap (kO a-kO b)=kO a-kO b:=wrap64 (by omega) (by omega)
  simp only[rQ,oS,ca,cb,hs,w,aH,dF,jE,jA,lJ,dE,aV,aY,aP,iU,Nat.reduceLeDiff,Nat.reduceLT,Nat.reduceSub,VX,Nat.reduceEqDiff,Nat.reduceAdd]
  exact aF rfl
end Go.PM
namespace Go.PM
theorem pV {n:Nat}:(0:Int)<((aC 1000000000 n).length:Int)↔n≠0:=by
 constructor
 ·intro h h0
  subst h0
  rw[cB] at h
  simp at h
 ·intro h
  have:=(lQ (b:=1000000000) (by decide) (n:=n))
  have h2:aC 1000000000 n≠[]:=fun hx=>h (this.1 hx)
  have:=List.length_pos_iff.2 h2
  omega
theorem oD {n:Nat} (h:bl n≤4398046511104):(aC 1000000000 n).length<17592186044416:=by
 have:=aiU n
 omega
theorem EJ (a b:Nat) (ha:(aC 1000000000 a).length<17592186044416) (hb:(aC 1000000000 b).length<17592186044416):TC 170 [bY a,bY b] (bY (Nat.gcd a b)):=by
 refine TC.walk ⟨true,false⟩ Np rfl (Nat.le_of_ble_eq_true rfl) (by simp[aM,cH]) (mY _) ?_
 simp only[I9,E0,VX,Nat.reduceEqDiff,Nat.reduceAdd]
 refine aS (fun(t:Nat×Nat) ρ H=>H=[]∧Nat.gcd t.1 t.2=Nat.gcd a b∧(aC 1000000000 t.1).length<17592186044416∧(aC 1000000000 t.2).length<17592186044416∧ρ 0=bY t.1∧ρ 1=bY t.2) (fun t=>t.2) (a,b) ⟨rfl,rfl,ha,hb,rfl,rfl⟩ ?_
 rintro⟨x,y⟩ ρ H ⟨rfl,hg,hx,hy,g0,g1⟩
 simp only at hg hx hy g0 g1
 by_cases hy0:y=0
 ·subst hy0
  have hl:¬(0:Int)<((aC 1000000000 0).length:Int):=by rw[pV];omega
  rw[Nat.gcd_zero_right] at hg
  simp only[wU,g0,g1,cM,hl,VX,Nat.reduceEqDiff,Nat.reduceAdd]
  rw[hg]
  exact aF (cH _)
 ·have hl:(0:Int)<((aC 1000000000 y).length:Int):=pV.2 hy0
  have c3:=tY x y hy0 hx hy
  have hm:=Nat.mod_lt x (show 0<y by omega)
  simp only[wU,g0,g1,cM,hl,c3,VX,Nat.reduceEqDiff,Nat.reduceAdd]
  refine⟨(y,x % y),hm,?_,hy,?_,rfl,rfl⟩
  ·simp only
   rw[←hg,Nat.gcd_comm x y,Nat.gcd_rec y x,Nat.gcd_comm]
  ·simp only
   have:=dY (b:=1000000000) (by decide) (Nat.le_of_lt hm)
   omega
def bC (q:Rat):VV := .agg [VB (decide (q.num<0)),bY q.num.natAbs,bY q.den]
theorem jJ (q:Rat):aN (bC q)=true:=by simp[bC,aN,aM,cH,kB]
theorem sK (q:Rat):gJ (bC q)=true:=by simp[bC,gJ,qB,mY,kB]
theorem Ko {q:Rat} {neg:Bool} {t b:Nat} (h0:q.num<0↔neg=true) (h1:q.num.natAbs=t) (h2:q.den=b):bC q = .agg [VB neg,bY t,bY b]:=by
 subst h1 h2
 unfold bC
 congr 4
 cases neg<;>simp_all
theorem aL (n:Nat):bP (bY n)=true:=rfl
theorem bH (n:Nat):isAny (bY n)=false:=rfl
theorem aZ (n:Nat):aB (bY n)=[bY n]:=rfl
theorem mU (q:Rat):isAny (bC q)=false:=rfl
theorem cA (q:Rat):aB (bC q)=[VB (decide (q.num<0)),bY q.num.natAbs,bY q.den]:=rfl
theorem fE (q:Rat):dD true 3 (bC q) 0=some (bC q):=rfl
theorem fO (q:Rat):dD false 1 (bC q) 0=some (VB (decide (q.num<0))):=rfl
theorem fX (q:Rat):dD false 1 (bC q) 1=some (bY q.num.natAbs):=rfl
theorem gF (q:Rat):dD false 1 (bC q) 2=some (bY q.den):=rfl
theorem oW {H:aA} {neg:Bool} {t b:Nat}:fz depth H (.agg [VB neg,bY t,bY b])=some (.agg [VB neg,bY t,bY b]):=aF (by simp[aN,aM,cH,kB])
theorem BS {H:aA} (q:Rat):fz depth H (bC q)=some (bC q):=aF (jJ q)
theorem Z5 (n:Int):bC (n:Rat) = .agg [VB (decide (n<0)),bY n.natAbs,bY 1]:=Ko (by simp) (by simp) (by simp)
theorem Kc {n lo:Nat} {H:aA} {K:VV→aA→Prop} (h:(aC 1000000000 n).length≤17592186044416):cS 155 [bY n,.tree [VI 1] (.cl 1)] lo H K=K (VI (eX n 1)) H:=by
 have c:=uG n 1 h (by rw[DD (by decide) (by decide) (by decide)];simp)
 have e:bY 1 = .tree [VI 1] .op:=by rw[bY,DD (by decide) (by decide) (by decide)];rfl
 rw[e] at c
 exact TC.args c rfl (by simp only[aM,cH];rfl) (fz2 (aF (cH n)) (ajI rfl)) (by simp only[List.flatMap_cons,List.flatMap_nil,Fv (cH n),Zy (es:=[VI 1]) rfl,List.append_nil]) lo K
theorem dU {d:Int} {H:aA}:jC false [.int .i64 0] 1 [(0,VI d)] H=some (.tree [VI d] (.cl 1),H):=sB
theorem fP {e:Nat} {es:List VV}:bP (.tree es (.cl e))=true:=rfl
theorem dS {k:TK} {es:List VV}:aB (.tree es k)=[.tree es k]:=rfl
theorem fL {k:TK} {es:List VV}:isAny (.tree es k)=false:=rfl
theorem PA {d:Nat} {H:aA}:fz (d+2) H (.tree [VI 1] (.cl 1))=some (bY 1):=by
 rw[Zq]
 unfold fz
 have:aN (.tree [VI 1] (.cl 1))=false:=by simp[aN]
 simp only[this,Bool.false_eq_true,if_false]
 rfl
theorem sC (neg:Bool) (t b:Nat) (hb:b≠0) (ht:bl t≤4398046511104) (uB:bl b≤4398046511104):TC 153 [VB neg,bY t,bY b] (bC (mkRat (kE neg t) b)):=by
 refine TC.walk ⟨true,false⟩ Lu rfl (Nat.le_of_ble_eq_true rfl) (by simp[aM,cH,aN,kB]) (sK _) ?_
 have hg0:Nat.gcd t b≠0:=Nat.gcd_ne_zero_right hb
 have YZ:bl (Nat.gcd t b)≤4398046511104:=Nat.le_trans (jZ (Nat.gcd_le_right t (by omega))) uB
 have c1:=EJ t b (oD ht) (oD uB)
 have c2:=tY t _ hg0 (oD ht) (oD YZ)
 have c3:=tY b _ hg0 (oD uB) (oD YZ)
 have c4:∀lo H K,_:=fun lo H K=>Kc (n:=Nat.gcd t b) (lo:=lo) (H:=H) (K:=K) (Nat.le_of_lt (oD YZ))
 have Ug:bC (mkRat (kE neg t) b) = .agg [VB (neg&&decide (t / Nat.gcd t b≠0)),bY (t / Nat.gcd t b),bY (b / Nat.gcd t b)]:=by
  refine Ko ?_ (by rw[E9 hb,nQ]) (Qm hb)
  rw[E9 hb,Pb,Bool.and_eq_true,decide_eq_true_eq]
 rw[Ug]
 by_cases h1:eX (Nat.gcd t b) 1=0
 ·have hg1:=AT.1 h1
  have e1:t / Nat.gcd t b=t:=by rw[hg1,Nat.div_one]
  have e2:b / Nat.gcd t b=b:=by rw[hg1,Nat.div_one]
  rw[e1,e2]
  cases neg with
  |
   false =>
   simp only[mM,jT,c1,c4,h1,dU,aL,bH,aZ,iU,Nat.reduceLeDiff,Nat.reduceLT,Nat.reduceSub,VX,Nat.reduceEqDiff,Nat.reduceAdd]
   exact oW
  |
   true =>
   by_cases h0:t=0
   ·have hl:¬(0:Int)<((aC 1000000000 t).length:Int):=by rw[pV];omega
    simp only[mM,jT,c1,c4,h1,hl,cM,dU,aL,bH,aZ,iU,Nat.reduceLeDiff,Nat.reduceLT,Nat.reduceSub,VX,Nat.reduceEqDiff,Nat.reduceAdd]
    rw[h0]
    exact oW
   ·have hl:(0:Int)<((aC 1000000000 t).length:Int):=pV.2 h0
    simp only[mM,jT,c1,c4,h1,hl,cM,dU,aL,bH,aZ,iU,Nat.reduceLeDiff,Nat.reduceLT,Nat.reduceSub,VX,Nat.reduceEqDiff,Nat.reduceAdd]
    rw[decide_eq_true h0]
    exact oW
 ·cases neg with
  |
   false =>
   simp only[mM,jT,c1,c2,c3,c4,h1,dU,aL,bH,aZ,iU,Nat.reduceLeDiff,Nat.reduceLT,Nat.reduceSub,VX,Nat.reduceEqDiff,Nat.reduceAdd]
   exact oW
  |
   true =>
   generalize t / Nat.gcd t b=t' at *
   by_cases h0:t'=0
   ·have hl:¬(0:Int)<((aC 1000000000 t').length:Int):=by rw[pV];omega
    simp only[mM,jT,c1,c2,c3,c4,h1,hl,cM,dU,aL,bH,aZ,iU,Nat.reduceLeDiff,Nat.reduceLT,Nat.reduceSub,VX,Nat.reduceEqDiff,Nat.reduceAdd]
    rw[h0]
    exact oW
   ·have hl:(0:Int)<((aC 1000000000 t').length:Int):=pV.2 h0
    simp only[mM,jT,c1,c2,c3,c4,h1,hl,cM,dU,aL,bH,aZ,iU,Nat.reduceLeDiff,Nat.reduceLT,Nat.reduceSub,VX,Nat.reduceEqDiff,Nat.reduceAdd]
    rw[decide_eq_true h0]
    exact oW
theorem EO (n:Int) (h0 : -9223372036854775808<n) (h1:n≤9223372036854775807):TC 130 [VI n] (bC (n:Rat)):=by
 refine TC.walk ⟨true,false⟩ MY rfl (Nat.le_of_ble_eq_true rfl) rfl (sK _) ?_
 rw[Z5]
 by_cases h:n<0
 ·have w:IntKind.i64.wrap (0-n)=(n.natAbs:Int):=wrapN _ (by omega) (by omega)
  have c1:TC 178 [VI (n.natAbs:Int)] (bY n.natAbs):=pZ (n.natAbs:Int) (by omega)
  rw[decide_eq_true h]
  simp only[Dm,Ae,h,w,c1,dU,aL,bH,aZ,fP,dS,fL,iU,Nat.reduceLeDiff,Nat.reduceLT,Nat.reduceSub,VX,Nat.reduceEqDiff,Nat.reduceAdd]
  exact qF (d:=6) (adN rfl) (aJ (cH _)) (PA (d:=5))
 ·have c1:TC 178 [VI n] (bY n.natAbs):=by
   have:=pZ n h1
   rwa [show n.toNat=n.natAbs by omega] at this
  rw[decide_eq_false h]
  simp only[Dm,Ae,h,c1,dU,aL,bH,aZ,fP,dS,fL,iU,Nat.reduceLeDiff,Nat.reduceLT,Nat.reduceSub,VX,Nat.reduceEqDiff,Nat.reduceAdd]
  exact qF (d:=6) (adN rfl) (aJ (cH _)) (PA (d:=5))
theorem Nl:TC 83 [] (bC 1):=by
 refine TC.walk ⟨true,false⟩ Ng rfl (Nat.le_of_ble_eq_true rfl) rfl (sK _) ?_
 have c1:TC 130 [VI 1] (bC 1):=EO 1 (by decide) (by decide)
 simp only[Jg,EM,c1,cA,fE,mU,aL,iU,Nat.reduceLeDiff,Nat.reduceLT,Nat.reduceSub,VX,Nat.reduceEqDiff,Nat.reduceAdd]
 exact BS _
theorem xI:TC 77 [] (bC 0):=by
 refine TC.walk ⟨true,false⟩ K8 rfl (Nat.le_of_ble_eq_true rfl) rfl (sK _) ?_
 have c1:TC 130 [VI 0] (bC 0):=EO 0 (by decide) (by decide)
 simp only[Ho,CO,c1,cA,fE,mU,aL,iU,Nat.reduceLeDiff,Nat.reduceLT,Nat.reduceSub,VX,Nat.reduceEqDiff,Nat.reduceAdd]
 exact BS _
theorem FM (q:Rat):TC 157 [bC q] (bC (-q)):=by
 refine TC.walk ⟨true,false⟩ FH rfl (Nat.le_of_ble_eq_true rfl) (by simp[aM,jJ]) (sK _) ?_
 have hq:bC (-q) = .agg [VB (decide (0<q.num)),bY q.num.natAbs,bY q.den]:=Ko (by simp) (by simp) (by simp)
 rw[hq]
 by_cases h1:q.num<0
 ·have h2:¬0<q.num:=by omega
  simp only[pJ,mH,cM,h1,h2,cA,fO,fX,gF,aL,bH,aZ,iU,Nat.reduceLeDiff,Nat.reduceLT,Nat.reduceSub,VX,Nat.reduceEqDiff,Nat.reduceAdd]
  exact oW
 ·by_cases h0:q.num=0
  ·have hl:¬(0:Int)<((aC 1000000000 q.num.natAbs).length:Int):=by rw[pV];omega
   have h2:¬0<q.num:=by omega
   simp only[pJ,mH,cM,hl,h1,h2,cA,fO,fX,gF,aL,bH,aZ,iU,Nat.reduceLeDiff,Nat.reduceLT,Nat.reduceSub,VX,Nat.reduceEqDiff,Nat.reduceAdd]
   exact oW
  ·have hl:(0:Int)<((aC 1000000000 q.num.natAbs).length:Int):=by rw[pV];omega
   have h2:0<q.num:=by omega
   simp only[pJ,mH,cM,hl,h1,h2,cA,fO,fX,gF,aL,bH,aZ,iU,Nat.reduceLeDiff,Nat.reduceLT,Nat.reduceSub,VX,Nat.reduceEqDiff,Nat.reduceAdd]
   exact oW
theorem zX (a b:Rat) (NC:aU a≤1099511627776) (Hv:aU b≤1099511627776):TC 79 [bC a,bC b] (bC (a+b)):=by
 refine TC.walk ⟨true,false⟩ M6 rfl (Nat.le_of_ble_eq_true rfl) (by simp[aM,jJ]) (sK _) ?_
 have la:=tG NC
 have lb:=tG Hv
 have lda:=tN NC
 have ldb:=tN Hv
 have hBn:=Nat.mul_ne_zero a.den_nz b.den_nz
 have m1:=gY a.num.natAbs b.den (Nat.le_of_lt (oD (by omega))) (Nat.le_of_lt (oD (by omega)))
 have m2:=gY b.num.natAbs a.den (Nat.le_of_lt (oD (by omega))) (Nat.le_of_lt (oD (by omega)))
 have m3:=gY a.den b.den (Nat.le_of_lt (oD (by omega))) (Nat.le_of_lt (oD (by omega)))
 have ea:mkRat (kE (decide (a.num<0)) (a.num.natAbs*b.den)) (a.den*b.den)=a:=DP a b.den_nz
 have eb:mkRat (kE (decide (b.num<0)) (b.num.natAbs*a.den)) (a.den*b.den)=b:=by rw[Nat.mul_comm a.den];exact DP b a.den_nz
 have k1:=nL a.num.natAbs b.den
 have k2:=nL b.num.natAbs a.den
 have k3:=nL a.den b.den
 obtain⟨p1,p2,p3⟩:=II hBn ea eb
 have hX:bl (a.num.natAbs*b.den)≤2199023255552:=by omega
 have hY:bl (b.num.natAbs*a.den)≤2199023255552:=by omega
 have hB:bl (a.den*b.den)≤4398046511104:=by omega
 generalize a.num.natAbs*b.den=X at *
 generalize b.num.natAbs*a.den=Y at *
 generalize a.den*b.den=B at *
 have f1:=Is X Y (oD (by omega)) (oD (by omega))
 have f2:=uG X Y (Nat.le_of_lt (oD (by omega))) (Nat.le_of_lt (oD (by omega)))
 have hS:bl (X+Y)≤4398046511104:=Nat.le_trans (Ua hX hY) (by decide)
 have hD1:bl (X-Y)≤4398046511104:=Nat.le_trans (jZ (Nat.sub_le _ _)) (by omega)
 have hD2:bl (Y-X)≤4398046511104:=Nat.le_trans (jZ (Nat.sub_le _ _)) (by omega)
 have f5:=fun neg=>sC neg (X+Y) B hBn hS hB
 have f6:=fun neg=>sC neg (X-Y) B hBn hD1 hB
 have f7:=fun neg=>sC neg (Y-X) B hBn hD2 hB
 by_cases hn:decide (a.num<0)=decide (b.num<0)
 ·have S8:(decide (a.num<0) == decide (b.num<0))=true:=by simpa using hn
  rw[←p1 hn]
  simp only[zL,uH,m1,m2,m3,f1,f5,zZ,nZ,S8,cA,fE,fO,fX,gF,mU,aL,bH,aZ,iU,Nat.reduceLeDiff,Nat.reduceLT,Nat.reduceSub,VX,Nat.reduceEqDiff,Nat.reduceAdd]
  exact BS _
 ·have S8:(decide (a.num<0) == decide (b.num<0))=false:=by simpa using hn
  by_cases hx:(0:Int)≤eX X Y
  ·have hle:Y≤X:=by have := @uE X Y;omega
   have c3:=zA X Y hle (Nat.le_of_lt (oD (by omega)))
   rw[←p2 hn hle]
   simp only[zL,uH,m1,m2,m3,f2,c3,f6,hx,zZ,nZ,S8,cA,fE,fO,fX,gF,mU,aL,bH,aZ,iU,Nat.reduceLeDiff,Nat.reduceLT,Nat.reduceSub,VX,Nat.reduceEqDiff,Nat.reduceAdd]
   exact BS _
  ·have hle:X≤Y:=by have := @uE X Y;omega
   have c3:=zA Y X hle (Nat.le_of_lt (oD (by omega)))
   rw[←p3 hn hle]
   simp only[zL,uH,m1,m2,m3,f2,c3,f7,hx,zZ,nZ,S8,cA,fE,fO,fX,gF,mU,aL,bH,aZ,iU,Nat.reduceLeDiff,Nat.reduceLT,Nat.reduceSub,VX,Nat.reduceEqDiff,Nat.reduceAdd]
   exact BS _
theorem J2 (a b:Rat) (NC:aU a≤1099511627776) (Hv:aU b≤1099511627776):TC 82 [bC a,bC b] (bC (a-b)):=by
 refine TC.walk ⟨true,false⟩ JY rfl (Nat.le_of_ble_eq_true rfl) (by simp[aM,jJ]) (sK _) ?_
 have c1:=FM b
 have c2:=zX a (-b) NC (by rw[Ia];exact Hv)
 rw[←Rat.sub_eq_add_neg] at c2
 simp only[EH,Cc,c1,c2,cA,fE,mU,aL,bH,aZ,iU,Nat.reduceLeDiff,Nat.reduceLT,Nat.reduceSub,VX,Nat.reduceEqDiff,Nat.reduceAdd]
 exact BS _
theorem ahR (a b:Int):kE (decide (a<0) != decide (b<0)) (a.natAbs*b.natAbs)=a*b:=by
 rcases Int.lt_trichotomy a 0 with h1 | h1 | h1<;>rcases Int.lt_trichotomy b 0 with h2 | h2 | h2
 ·rw[decide_eq_true h1,decide_eq_true h2]
  simp only[kE,bne_self_eq_false,Bool.false_eq_true,if_false,Int.natCast_mul]
  rw[show (a.natAbs:Int) = -a by omega,show (b.natAbs:Int) = -b by omega,Int.neg_mul_neg]
 ·subst h2;simp[yL]
 ·rw[decide_eq_true h1,decide_eq_false (show ¬b<0 by omega)]
  simp only[kE,Bool.true_bne,Bool.not_false,if_true,Int.natCast_mul]
  rw[show (a.natAbs:Int) = -a by omega,show (b.natAbs:Int)=b by omega,Int.neg_mul,Int.neg_neg]
 ·subst h1;simp[yL]
 ·subst h1;simp[yL]
 ·subst h1;simp[yL]
 ·rw[decide_eq_false (show ¬a<0 by omega),decide_eq_true h2]
  simp only[kE,Bool.false_bne,if_true,Int.natCast_mul]
  rw[show (a.natAbs:Int)=a by omega,show (b.natAbs:Int) = -b by omega,Int.mul_neg,Int.neg_neg]
 ·subst h2;simp[yL]
 ·rw[decide_eq_false (show ¬a<0 by omega),decide_eq_false (show ¬b<0 by omega)]
  simp only[kE,bne_self_eq_false,Bool.false_eq_true,if_false,Int.natCast_mul]
  rw[show (a.natAbs:Int)=a by omega,show (b.natAbs:Int)=b by omega]
theorem Ur {a b:Rat} (hb:b≠0):mkRat (kE (decide (a.num<0) != decide (b.num<0)) (a.num.natAbs*b.den)) (a.den*b.num.natAbs)=a / b:=by
 have hn:b.num≠0:=fun h=>hb (Rat.num_eq_zero.1 h)
 have i1:b⁻¹.num=b.num.sign*b.den:=Rat.num_inv b
 have i2:b⁻¹.den=b.num.natAbs:=by rw[Rat.den_inv,if_neg hn]
 have hd:(0:Int)<b.den:=by have:=b.den_nz;omega
 have i3:b⁻¹.num.natAbs=b.den:=by
  rw[i1,Int.natAbs_mul,Int.natAbs_natCast]
  rcases Int.lt_or_gt_of_ne hn with h1 | h1
  ·rw[Int.sign_eq_neg_one_of_neg h1];simp
  ·rw[Int.sign_eq_one_of_pos h1];simp
 have i4:decide (b⁻¹.num<0)=decide (b.num<0):=by
  rw[i1]
  rcases Int.lt_or_gt_of_ne hn with h1 | h1
  ·rw[Int.sign_eq_neg_one_of_neg h1,decide_eq_true h1];simp;omega
  ·rw[Int.sign_eq_one_of_pos h1,decide_eq_false (show ¬b.num<0 by omega)];simp
 rw[Rat.div_def,Rat.mul_def',←ahR,i2,i3,i4]
theorem Ls (a b:Rat) (hb:b≠0) (NC:aU a≤1099511627776) (Hv:aU b≤1099511627776):TC 81 [bC a,bC b] (bC (a / b)):=by
 refine TC.walk ⟨true,false⟩ Md rfl (Nat.le_of_ble_eq_true rfl) (by simp[aM,jJ]) (sK _) ?_
 have hn:b.num≠0:=fun h=>hb (Rat.num_eq_zero.1 h)
 have la:=tG NC
 have lb:=tG Hv
 have lda:=tN NC
 have ldb:=tN Hv
 have k1:=nL a.num.natAbs b.den
 have k3:=nL a.den b.num.natAbs
 have m1:=gY a.num.natAbs b.den (Nat.le_of_lt (oD (by omega))) (Nat.le_of_lt (oD (by omega)))
 have m3:=gY a.den b.num.natAbs (Nat.le_of_lt (oD (by omega))) (Nat.le_of_lt (oD (by omega)))
 have c1:=sC (decide (a.num<0) != decide (b.num<0)) (a.num.natAbs*b.den) (a.den*b.num.natAbs) (Nat.mul_ne_zero a.den_nz (by omega)) (by omega) (by omega)
 rw[Ur hb] at c1
 simp only[F3,Dg,m1,m3,c1,nZ,cA,fE,fO,fX,gF,mU,aL,bH,aZ,iU,Nat.reduceLeDiff,Nat.reduceLT,Nat.reduceSub,VX,Nat.reduceEqDiff,Nat.reduceAdd]
 exact BS _
theorem Mv (q:Rat):TC 59 [bC q] (VB (decide (q=0))):=by
 refine TC.walk ⟨true,false⟩ LC rfl (Nat.le_of_ble_eq_true rfl) (by simp[aM,jJ]) rfl ?_
 by_cases h0:q=0
 ·have hl:(((aC 1000000000 q.num.natAbs).length:Nat):Int)=0:=by rw[h0];simp[cB]
  simp only[BQ,xX,cM,hl,cA,fO,fX,gF,aL,bH,aZ,iU,Nat.reduceLeDiff,Nat.reduceLT,Nat.reduceSub,VX,Nat.reduceEqDiff,Nat.reduceAdd]
  rw[decide_eq_true h0]
  exact aF rfl
 ·have hn:q.num≠0:=fun h=>h0 (Rat.num_eq_zero.1 h)
  have hl:¬(((aC 1000000000 q.num.natAbs).length:Nat):Int)=0:=by have := @pV q.num.natAbs;omega
  simp only[BQ,xX,cM,hl,cA,fO,fX,gF,aL,bH,aZ,iU,Nat.reduceLeDiff,Nat.reduceLT,Nat.reduceSub,VX,Nat.reduceEqDiff,Nat.reduceAdd]
  rw[decide_eq_false h0]
  exact aF rfl
theorem Nc (q:Rat):TC 111 [bC q] (VB (decide (q.num<0))):=by
 refine TC.walk ⟨true,false⟩ Nw rfl (Nat.le_of_ble_eq_true rfl) (by simp[aM,jJ]) rfl ?_
 simp only[Jd,Et,cA,fO,aL,iU,Nat.reduceLeDiff,Nat.reduceLT,Nat.reduceSub,VX,Nat.reduceEqDiff,Nat.reduceAdd]
 exact aF rfl
end Go.PM
namespace Go.PM
open Go.Lib
theorem aiP {m n:Nat} (h:decDigits m=decDigits n):m=n:=by
 have key:∀k m n:Nat,m<10^(k+1)→decDigits m=decDigits n→m=n:=by
  intro k
  induction k with
  |
   zero =>
   intro m n hm h
   rw[iJ (by omega)] at h
   by_cases hn:n<10
   ·rw[iJ hn] at h
    have h1:=List.singleton_inj.1 h
    unfold d10 at h1
    have:=congrArg UInt8.toNat h1
    simp at this
    omega
   ·rw[zK hn] at h
    have:=congrArg List.length h
    have h2:=List.length_pos_iff.2 (P0 (n / 10))
    simp only[List.length_append,List.length_cons,List.length_nil] at this
    omega
  |
   succ k ih =>
   intro m n hm h
   by_cases h1:m<10
   ·rw[iJ h1] at h
    by_cases hn:n<10
    ·rw[iJ hn] at h
     have h1:=List.singleton_inj.1 h
     unfold d10 at h1
     have:=congrArg UInt8.toNat h1
     simp at this
     omega
    ·rw[zK hn] at h
     have:=congrArg List.length h
     have h2:=List.length_pos_iff.2 (P0 (n / 10))
     simp only[List.length_append,List.length_cons,List.length_nil] at this
     omega
   ·rw[zK h1] at h
    by_cases hn:n<10
    ·rw[iJ hn] at h
     have:=congrArg List.length h
     have h2:=List.length_pos_iff.2 (P0 (m / 10))
     simp only[List.length_append,List.length_cons,List.length_nil] at this
     omega
    ·rw[zK hn] at h
     obtain⟨h2,h3⟩:=List.append_inj' h rfl
     have h4:=ih (m / 10) (n / 10) (by rw[Nat.pow_succ] at hm;omega) h2
     have h5:=List.singleton_inj.1 h3
     unfold d10 at h5
     have:=congrArg UInt8.toNat h5
     simp at this
     omega
 exact key m m n (Nat.lt_trans (Nat.lt_pow_self (by decide)) (Nat.pow_lt_pow_right (by decide) (Nat.lt_succ_self m))) h
def EW (q:Rat):List UInt8:=(if q.num<0 then [45] else [])++decDigits q.num.natAbs++(if q.den=1 then [] else 47::decDigits q.den)
def vX (q:Rat):Bool:=decide ((decDigits q.num.natAbs).length≤200)&&decide ((decDigits q.den).length≤200)
theorem A3 (n:Nat):(decDigits n).length≤bl n+1:=by
 by_cases h:n=0
 ·subst h;rw[iJ (by decide)];simp
 ·have h1:=adV h
  obtain⟨k,hk⟩:∃k,bl n=k+1:=⟨bl n-1,by omega⟩
  have h2:=NM n
  rw[hk] at h2 ⊢
  have h3:2^(k+1)≤10^(k+1):=Nat.pow_le_pow_left (by decide) _
  have:=xA n k (by omega)
  omega
end Go.PM
namespace Go.PM
open Go.Lib
theorem Pz (a b:List UInt8):dI .neq (.string ⟨a.toArray⟩) (.string ⟨b.toArray⟩)=some (.bool (!decide (a=b))):=by
 have h:∀l:List UInt8,(ByteArray.toList ⟨l.toArray⟩)=l:=fun l=>by rw[ByteArray.toList_eq]
 show some (Value.bool (!(ByteArray.toList ⟨a.toArray⟩ == ByteArray.toList ⟨b.toArray⟩)))=_
 rw[h,h]
 congr 3
 cases h2:a == b
 ·rw[decide_eq_false (by simpa using h2)]
 ·rw[decide_eq_true (by simpa using h2)]
theorem Wp (a b:List UInt8):dI .eql (.string ⟨a.toArray⟩) (.string ⟨b.toArray⟩)=some (.bool (decide (a=b))):=by
 have h:∀l:List UInt8,(ByteArray.toList ⟨l.toArray⟩)=l:=fun l=>by rw[ByteArray.toList_eq]
 show some (Value.bool (ByteArray.toList ⟨a.toArray⟩ == ByteArray.toList ⟨b.toArray⟩))=_
 rw[h,h]
 congr 2
 cases h2:a == b
 ·rw[decide_eq_false (by simpa using h2)]
 ·rw[decide_eq_true (by simpa using h2)]
theorem LW {n:Nat}:(decDigits n=[49])↔n=1:=by
 have e:decDigits 1=[49]:=by rw[iJ (by decide)];rfl
 rw[←e]
 exact⟨aiP,fun h=>by rw[h]⟩
theorem JK (q:Rat) (hk:aU q≤1099511627776):TC 180 [aQ q] (.dT [bB (EW q),VB (vX q)]):=by
 refine TC.walk ⟨true,false⟩ F2 rfl (Nat.le_of_ble_eq_true rfl) (by simp[aM,gW]) rfl ?_
 have la:=tG hk
 have lb:=tN hk
 have t1:=B3 q.num.natAbs (asG (by omega))
 have t2:=B3 q.den (asG (by omega))
 have d1:=A3 q.num.natAbs
 have d2:=A3 q.den
 have a1:dI .add (.string ⟨#[45]⟩) (.string ⟨(decDigits q.num.natAbs).toArray⟩)=some (.string ⟨(45::decDigits q.num.natAbs).toArray⟩):=qI [45] _ (by simp only[List.length_cons,List.length_nil];omega)
 have a2:dI .add (.string ⟨#[47]⟩) (.string ⟨(decDigits q.den).toArray⟩)=some (.string ⟨(47::decDigits q.den).toArray⟩):=qI [47] (decDigits q.den) (by simp only[List.length_cons,List.length_nil];omega)
 have a3:=qI (45::decDigits q.num.natAbs) (47::decDigits q.den) (by simp only[List.length_cons];omega)
 have a4:=qI (decDigits q.num.natAbs) (47::decDigits q.den) (by simp only[List.length_cons];omega)
 have ne:dI .neq (.string ⟨(decDigits q.den).toArray⟩) (.string ⟨#[49]⟩)=_:=Pz (decDigits q.den) [49]
 have hf:vX q=(decide (((decDigits q.num.natAbs).length:Int)≤200)&&decide (((decDigits q.den).length:Int)≤200)):=by
  unfold vX
  congr 1<;>exact decide_eq_decide.2 (by omega)
 rw[hf]
 have hs:EW q=(if q.num<0 then (45::decDigits q.num.natAbs) else decDigits q.num.natAbs)++(if q.den=1 then [] else 47::decDigits q.den):=by
  unfold EW
  by_cases hn:q.num<0
  ·rw[if_pos hn,if_pos hn];rfl
  ·rw[if_neg hn,if_neg hn];rfl
 rw[hs]
 by_cases hd:q.den=1
 ·rw[decide_eq_true (LW.2 hd)] at ne
  rw[if_pos hd,List.append_nil]
  by_cases hn:q.num<0<;>by_cases hl:((decDigits q.num.natAbs).length:Int)≤200
  all_goals
   simp only[vB,sS,t1,t2,a1,a2,a3,a4,ne,hn,hl,bM,aH,dF,jE,jA,lJ,dE,aV,aY,aP,iU,Nat.reduceLeDiff,Nat.reduceLT,Nat.reduceSub,VX,Nat.reduceEqDiff,Nat.reduceAdd]
   exact aF rfl
 ·rw[decide_eq_false (mt LW.1 hd)] at ne
  rw[if_neg hd]
  by_cases hn:q.num<0<;>by_cases hl:((decDigits q.num.natAbs).length:Int)≤200
  all_goals
   simp only[vB,sS,t1,t2,a1,a2,a3,a4,ne,hn,hl,bM,aH,dF,jE,jA,lJ,dE,aV,aY,aP,iU,Nat.reduceLeDiff,Nat.reduceLT,Nat.reduceSub,VX,Nat.reduceEqDiff,Nat.reduceAdd]
   exact aF rfl
def SZ (q:Rat):VV:=if vX q=true then .dT [bB (EW q),VB true] else .dT [bB [],VB false]
theorem Xe (q:Rat):gJ (SZ q)=true:=by unfold SZ;split<;>rfl
end Go.PM
namespace Go.PM
open Go.Lib
abbrev bV (b:UInt8):VV := .sc (.int .u8 (b.toNat:Int))
theorem KM:∀bs:List UInt8,IP (bs.map bV)=some bs
 | []=>rfl
 |
  b::bs=>by
  rw[List.map_cons]
  show (IP (bs.map bV)).map (UInt8.ofNat ((b.toNat:Int)).toNat :: ·)=_
  rw[KM bs]
  simp
structure FE (v:VV) (H:aA) (bs:List UInt8):Prop where
 len:oI v H=some (VI bs.length)
 src:cU 1 v H=some (bs.map bV)
 nsc:∀x,v ≠ .sc x
theorem FE.str {v:VV} {H:aA} {bs:List UInt8} (h:FE v H bs) {fl:Fl} {lo:Nat} {x:Operand} {ρ:dM} (hx:eH ρ x=v):vop fl lo (.b2s x) ρ H=some (bB bs,H):=by
 have h1:=h.nsc
 have h2:=h.src
 unfold vop
 dsimp only
 rw[hx]
 cases v with
 | sc x=>exact absurd rfl (h1 x)
 | _=>simp only[h2,KM,Option.map_some]
theorem XT {bs:List UInt8} {k:TK} {H:aA}:cU 1 (.tree (bs.map bV) k) H=some (bs.map bV):=by
 have:((bs.map bV).all fun x=>(aB x).length == 1&&(aB x).all bP)=true:=by
  rw[List.all_eq_true]
  intro x hx
  obtain⟨d,_,rfl⟩:=List.mem_map.1 hx
  rfl
 simp only[cU,this,if_true]
theorem FE.tree {bs:List UInt8} {k:TK} {H:aA}:FE (.tree (bs.map bV) k) H bs:=⟨dW,XT,fun x=>by simp⟩
theorem FE.row {bs:List UInt8} {H:aA} {b g:Nat} {w:Bool} (h:aI H b g=some (bs.map bV,1,w)):FE (.ref b g 0 bs.length bs.length) H bs:=by
 refine⟨fQ h,?_,fun x=>by simp⟩
 have lF:(((bs.map bV).drop 0).take bs.length).all (fun x=>(aB x).all bP)=true:=by
  rw[List.all_eq_true]
  intro x hx
  obtain⟨d,_,rfl⟩:=List.mem_map.1 (List.mem_of_mem_drop (List.mem_of_mem_take hx))
  rfl
 simp only[cU,h]
 rw[if_pos ⟨trivial,by simp,lF⟩,List.drop_zero,List.take_of_length_le (by simp)]
theorem FE.cons {v:VV} {H:aA} {bs:List UInt8} (h:FE v H bs) (x:UInt8) (hl:bs.length≤1000000) (lo:Nat):∃v' H',eW lo 1 1 (.tree [bV x] (.cl 1)) (bs.map bV) H=some (v',H')∧FE v' H' (x::bs):=by
 by_cases hb:bs=[]
 ·subst hb
  exact⟨_,_,rfl,FE.tree (bs:=[x])⟩
 ·have fC:bs.length≠0:=fun h=>hb (List.length_eq_zero_iff.1 h)
  refine⟨.ref H.length 0 0 (x::bs).length (x::bs).length,H++[.row 0 ((x::bs).map bV) 1 true],?_,FE.row (aaR rfl)⟩
  simp only[eW,List.length_map]
  rw[if_pos ⟨by decide,by decide⟩,if_pos trivial,if_neg fC,if_pos (by simp;omega)]
  simp[Nat.add_comm]
theorem Sc (r:Int):dI .rem (.int .i64 r) (.int .i64 10)=some (.int .i64 (r.tmod 10)):=rfl
theorem ajK (r:Int) (h0 : -9223372036854775808≤r) (h1:r≤9223372036854775807):dI .quo (.int .i64 r) (.int .i64 10)=some (.int .i64 (r.tdiv 10)):=by
 show some (Value.int .i64 (IntKind.i64.wrap (r.tdiv 10)))=_
 have h2:(r.tdiv 10).natAbs=r.natAbs / 10:=by rw[Int.natAbs_tdiv];rfl
 rw[wrap64 (by omega) (by omega)]
theorem OE {d:Nat} (h:d<10):(d10 d).toNat=48+d:=by
 unfold d10
 simp
 omega
theorem Iq {n r:Nat} {bs:List UInt8} (h:decDigits n=decDigits r++bs):decDigits n=lM (r / 10)++d10 (r % 10)::bs:=by
 rw[h]
 by_cases hr:r<10
 ·rw[iJ hr,lM,if_pos (by omega),Nat.mod_eq_of_lt hr];rfl
 ·rw[zK hr,lM,if_neg (by omega),List.append_assoc];rfl
theorem Nn (n:Int) (h0 : -9223372036854775808≤n) (h1:n≤9223372036854775807):TC 219 [VI n] (bB ((if n<0 then [45] else [])++decDigits n.natAbs)):=by
 refine TC.walk ⟨true,false⟩ Nf rfl (Nat.le_of_ble_eq_true rfl) rfl rfl ?_
 have e0:∀lr,jC lr [.int .u8 0] 0 [] []=some (.ref 0 0 0 0 0,[.row 0 (([]:List UInt8).map bV) 1 true]):=fun lr=>iE (H:=[]) rfl
 have e1:∀(x:UInt8) (H:aA),jC false [.int .u8 0] 1 [(0,bV x)] H=some (.tree [bV x] (.cl 1),H):=fun x H=>gE rfl rfl rfl
 have hdl:=xA n.natAbs 19 (by omega)
 simp only[IV,EB,e0,VX,Nat.reduceEqDiff,Nat.reduceAdd]
 refine aS (fun(s:Int×List UInt8) ρ H => -9223372036854775808≤s.1∧s.1≤9223372036854775807∧(s.2=[]→s.1=n)∧(s.2≠[]→decDigits n.natAbs=lM s.1.natAbs++s.2)∧FE (ρ 3) H s.2∧ρ 0=VI n∧ρ 4=VI s.1) (fun s=>s.1.natAbs+(if s.2=[] then 1 else 0)) (n,[]) ⟨h0,h1,fun _=>rfl,fun h=>absurd rfl h,by simp only[VX,Nat.reduceEqDiff,Nat.reduceAdd];exact FE.row (bs:=[]) bA,rfl,rfl⟩ ?_
 rintro⟨r,bs⟩ ρ H ⟨Cv,FQ,hn,hd,ho,g0,g4⟩
 simp only at Cv FQ hn hd ho g4
 generalize hv3:ρ 3=v3 at ho
 have hlen:=ho.len
 have AL:=ho.src
 by_cases K0:bs≠[]∧r=0
 ·obtain⟨hb,hr⟩:=K0
  subst hr
  have hl:¬(bs.length:Int)=0:=by have:=List.length_pos_iff.2 hb;omega
  have hdd:=hd hb
  simp only[lM,Int.natAbs_zero,if_true,List.nil_append] at hdd
  by_cases oU:n<0
  ·obtain⟨v',H',ap,ho'⟩:=ho.cons 45 (by rw[←hdd];omega) 0
   have Vj:jC false [.int .u8 0] 1 [(0,.sc (.int .u8 45))] H=some (.tree [bV 45] (.cl 1),H):=e1 45 H
   have bs2:=fun bI (h:eH bI (.tmp 34)=v')=>ho'.str (fl:=⟨true,false⟩) (lo:=0) h
   simp only[jO,g0,g4,hv3,hlen,hl,VX,Nat.reduceEqDiff,Nat.reduceAdd]
   simp only[g0,oU,hv3,Vj,AL,ap,PN,VX,Nat.reduceEqDiff,Nat.reduceAdd]
   rw[bs2 _ (by rfl)]
   simp only[VX,Nat.reduceEqDiff,Nat.reduceAdd]
   rw[hdd]
   exact aF rfl
  ·have bs2:=fun bI (h:eH bI (.tmp 34)=v3)=>ho.str (fl:=⟨true,false⟩) (lo:=0) h
   simp only[jO,g0,g4,hv3,hlen,hl,VX,Nat.reduceEqDiff,Nat.reduceAdd]
   simp only[g0,oU,hv3,PN,VX,Nat.reduceEqDiff,Nat.reduceAdd]
   rw[bs2 _ (by simp only[VX,Nat.reduceEqDiff,Nat.reduceAdd];try exact hv3)]
   simp only[VX,Nat.reduceEqDiff,Nat.reduceAdd]
   rw[hdd]
   exact aF rfl
 ·have hm:r.tmod 10=if r<0 then -((r.natAbs % 10:Nat):Int) else ((r.natAbs % 10:Nat):Int):=by
   have:=Int.tmod_eq_emod_of_nonneg (a:=r) (b:=10)
   by_cases h:r<0
   ·rw[if_pos h]
    have h2:=Int.neg_tmod (-r) 10
    rw[Int.neg_neg] at h2
    rw[h2,Int.tmod_eq_emod_of_nonneg (by omega)]
    omega
   ·rw[if_neg h,this (by omega)]
    omega
  have hq:(r.tdiv 10).natAbs=r.natAbs / 10:=by rw[Int.natAbs_tdiv];rfl
  have hmd:=Nat.mod_lt r.natAbs (show 0<10 by decide)
  have q1:=ajK r Cv FQ
  have uB:bs.length≤19:=by
   by_cases hb:bs=[]
   ·subst hb;simp
   ·have h2:=hd hb
    have h3:=congrArg List.length h2
    rw[List.length_append] at h3
    have h4:r≠0:=fun h=>K0 ⟨hb,h⟩
    have h5:=List.length_pos_iff.2 (P0 r.natAbs)
    rw[lM,if_neg (by omega)] at h3
    omega
  obtain⟨v',H',ap,ho'⟩:=ho.cons (d10 (r.natAbs % 10)) (by omega) 0
  have w2:IntKind.i64.wrap (48+((r.natAbs % 10:Nat):Int))=((48+r.natAbs % 10:Nat):Int):=wrapN _ (by omega) (by omega)
  have w3:IntKind.u8.wrap ((48+r.natAbs % 10:Nat):Int)=((48+r.natAbs % 10:Nat):Int):=by
   simp[IntKind.wrap,IntKind.bits,IntKind.signed]
   omega
  have hx:VV.sc (.int .u8 ((48+r.natAbs % 10:Nat):Int))=bV (d10 (r.natAbs % 10)):=by rw[bV,OE hmd]
  have Vj:=e1 (d10 (r.natAbs % 10)) H
  rw[←hx] at Vj ap
  have next:∃s':Int×List UInt8,s'.1.natAbs+(if s'.2=[] then 1 else 0)<r.natAbs+(if bs=[] then 1 else 0) ∧ -9223372036854775808≤s'.1∧s'.1≤9223372036854775807∧(s'.2=[]→s'.1=n)∧(s'.2≠[]→decDigits n.natAbs=lM s'.1.natAbs++s'.2)∧FE v' H' s'.2∧r.tdiv 10=s'.1:=by
   refine⟨(r.tdiv 10,d10 (r.natAbs % 10)::bs),?_,by simp only;omega,by simp only;omega,fun h=>(by simp at h),fun _ => ?_,ho',rfl⟩
   ·simp only[hq,List.cons_ne_nil,if_false]
    by_cases hb:bs=[]
    ·rw[if_pos hb];omega
    ·have h4:r≠0:=fun h=>K0 ⟨hb,h⟩
     rw[if_neg hb];omega
   ·simp only[hq]
    by_cases hb:bs=[]
    ·subst hb
     refine Iq ?_
     rw[hn rfl,List.append_nil]
    ·have h4:r≠0:=fun h=>K0 ⟨hb,h⟩
     have h2:=hd hb
     rw[lM,if_neg (by omega)] at h2
     exact Iq h2
  by_cases hrn:r.tmod 10<0
  ·have w1:IntKind.i64.wrap (0-r.tmod 10)=((r.natAbs % 10:Nat):Int):=by
    have:r.tmod 10 = -((r.natAbs % 10:Nat):Int):=by
     by_cases h:r<0
     ·rw[if_pos h] at hm;exact hm
     ·rw[if_neg h] at hm;omega
    rw[this]
    exact wrapN _ (by omega) (by omega)
   by_cases hb:bs=[]
   ·have hl:(bs.length:Int)=0:=by rw[hb];rfl
    simp only[jO,g0,g4,hv3,hlen,hl,Sc,q1,hrn,w1,w2,w3,Vj,AL,ap,VX,Nat.reduceEqDiff,Nat.reduceAdd]
    obtain⟨s',n1,n2,n3,n4,n5,n6,n7⟩:=next
    exact⟨s',n1,n2,n3,n4,n5,n6,by rw[n7]⟩
   ·have hl:¬(bs.length:Int)=0:=by have:=List.length_pos_iff.2 hb;omega
    have hr:¬r=0:=fun h=>K0 ⟨hb,h⟩
    simp only[jO,g0,g4,hv3,hlen,hl,hr,Sc,q1,hrn,w1,w2,w3,Vj,AL,ap,VX,Nat.reduceEqDiff,Nat.reduceAdd]
    obtain⟨s',n1,n2,n3,n4,n5,n6,n7⟩:=next
    exact⟨s',n1,n2,n3,n4,n5,n6,by rw[n7]⟩
  ·have hmm:r.tmod 10=((r.natAbs % 10:Nat):Int):=by
    rw[hm] at hrn ⊢
    split
    ·rename_i h;rw[if_pos h] at hrn;omega
    ·rfl
   have atG:¬((r.natAbs % 10:Nat):Int)<0:=by omega
   by_cases hb:bs=[]
   ·have hl:(bs.length:Int)=0:=by rw[hb];rfl
    simp only[jO,g0,g4,hv3,hlen,hl,Sc,hmm,q1,atG,w2,w3,Vj,AL,ap,VX,Nat.reduceEqDiff,Nat.reduceAdd]
    obtain⟨s',n1,n2,n3,n4,n5,n6,n7⟩:=next
    exact⟨s',n1,n2,n3,n4,n5,n6,by rw[n7]⟩
   ·have hl:¬(bs.length:Int)=0:=by have:=List.length_pos_iff.2 hb;omega
    have hr:¬r=0:=fun h=>K0 ⟨hb,h⟩
    simp only[jO,g0,g4,hv3,hlen,hl,hr,Sc,hmm,q1,atG,w2,w3,Vj,AL,ap,VX,Nat.reduceEqDiff,Nat.reduceAdd]
    obtain⟨s',n1,n2,n3,n4,n5,n6,n7⟩:=next
    exact⟨s',n1,n2,n3,n4,n5,n6,by rw[n7]⟩
end Go.PM
namespace Go.PM
abbrev chV (c:List (List ByteArray)):VV := .agg [rN c]
theorem AQ (c:List (List ByteArray)):aN (chV c)=true:=by
 show aM [rN c]=true
 simp only[aM,Bx,Bool.and_self]
theorem PL {c:List (List ByteArray)}:dD false 1 (chV c) 0=some (rN c):=rfl
def DB (n:Nat) (H:aA) (bare:Bool) (c:List (List ByteArray)) (r:VV):Prop:=∃c0,r = .agg [c0]∧xM n H bare c c0
theorem DB.cJ {n:Nat} {H H':aA} {bare:Bool} {s:List (List ByteArray)} {c:VV} (h:DB n H bare s c) (hk:∀b g x,n<b→aI H b g=some x→aI H' b g=some x):DB n H' bare s c:=by
 obtain⟨c0,rfl,h0⟩:=h
 exact⟨c0,rfl,h0.cJ hk⟩
theorem DB.pre {n:Nat} {H H':aA} {bare:Bool} {s:List (List ByteArray)} {c:VV} (h:DB n H bare s c) (hh:H <+: H'):DB n H' bare s c:=h.cJ fun _ _ _ _=>cT hh
theorem DB.fz {n:Nat} {H:aA} {bare:Bool} {s:List (List ByteArray)} {c:VV} (h:DB n H bare s c):PM.fz depth H c=some (chV s):=by
 obtain⟨c0,rfl,h0⟩:=h
 have f0:=h0.fz (d:=4)
 have e:PM.fz (7+1) H (.agg [c0])=if aN (.agg [c0])=true then some (.agg [c0]) else ([c0].mapM (PM.fz 7 H)).map .agg:=rfl
 show PM.fz (7+1) H (.agg [c0])=_
 rw[e]
 by_cases hp:aN (.agg [c0])=true
 ·rw[if_pos hp]
  have hu:aN c0=true:=by simpa[aN,aM] using hp
  rw[aJ hu] at f0
  cases f0
  rfl
 ·rw[if_neg hp,List.mapM_cons,f0]
  rfl
end Go.PM
namespace Go.PM
open Go.Lib
def iD (c:UInt8):Bool:=decide (48≤c.toNat)&&decide (c.toNat≤57)
def dv (c:UInt8):Nat:=c.toNat-48
def K3 (a:Nat) (l:List UInt8):Nat:=l.foldl (fun a c=>a*10+dv c) a
def bX (l:List UInt8):Nat:=K3 0 l
theorem Wg (l:List UInt8):∀a,K3 a l=a*10^l.length+bX l:=by
 induction l with
 | nil=>intro a;simp[K3,bX]
 |
  cons c l ih =>
  intro a
  have h1:K3 a (c::l)=K3 (a*10+dv c) l:=rfl
  have h2:bX (c::l)=K3 (0*10+dv c) l:=rfl
  rw[h1,h2,ih,ih (0*10+dv c),List.length_cons,Nat.pow_succ]
  grind
theorem MI (a b:List UInt8):bX (a++b)=bX a*10^b.length+bX b:=by
 have:bX (a++b)=K3 (bX a) b:=by unfold bX K3;rw[List.foldl_append]
 rw[this,Wg]
theorem LP:bX []=0:=rfl
theorem YN (a:List UInt8) (c:UInt8):bX (a++[c])=bX a*10+dv c:=by
 rw[MI]
 simp[bX,K3]
theorem ajW {c:UInt8} (h:iD c=true):dv c<10:=by
 simp only[iD,Bool.and_eq_true,decide_eq_true_eq] at h
 unfold dv
 omega
theorem FV:∀ {l:List UInt8},l.all iD=true→bX l<10^l.length:=by
 intro l
 induction l with
 | nil=>intro _;decide
 |
  cons c l ih =>
  intro h
  rw[List.all_cons,Bool.and_eq_true] at h
  have h1:=ajW h.1
  have h2:=ih h.2
  have h3:bX (c::l)=K3 (0*10+dv c) l:=rfl
  rw[h3,Wg,List.length_cons,Nat.pow_succ]
  have h4:(0*10+dv c)*10^l.length≤9*10^l.length:=Nat.mul_le_mul_right _ (by omega)
  omega
theorem alR {M:Nat} (hM:1000000000000000000≤M):∀(l:List UInt8) (k acc:Nat),l.all iD=true→acc<10^k→k+l.length≤18→parseUintM M acc l = .ok (K3 acc l):=by
 intro l
 induction l with
 | nil=>intro k acc _ _ _;rfl
 |
  cons c l ih =>
  intro k acc h hk hl
  rw[List.all_cons,Bool.and_eq_true] at h
  have h1:=ajW h.1
  have h0:=h.1
  simp only[iD,Bool.and_eq_true,decide_eq_true_eq] at h0
  rw[List.length_cons] at hl
  have h18:acc<10^17:=Nat.lt_of_lt_of_le hk (Nat.pow_le_pow_right (by decide) (by omega))
  have e17:(10:Nat)^17=100000000000000000:=by decide
  rw[e17] at h18
  have hd:c.toNat-48=dv c:=rfl
  rw[parseUintM,if_pos h0,if_neg (by omega),hd,if_neg (by omega),ih (k+1) _ h.2 (by rw[Nat.pow_succ];omega) (by omega)]
  rfl
theorem anS {l:List UInt8} (h:l.all iD=true) (h0:l≠[]) (hl:l.length≤18):parseUintB 64 l = .ok (bX l):=by
 unfold parseUintB
 rw[if_neg h0]
 exact alR (by decide) l 0 0 h (by decide) (by omega)
def hC (l:List UInt8):Bool:=l.all iD&&decide (1≤l.length)&&decide (l.length≤200)&&(decide (l.length=1) || !decide (l.getD 0 0=48))
theorem jK {l:List UInt8}:hC l=true↔l.all iD=true∧1≤l.length∧l.length≤200∧(l.length=1∨l.getD 0 0≠48):=by
 unfold hC
 simp only[Bool.and_eq_true,Bool.or_eq_true,Bool.not_eq_true',decide_eq_true_eq,decide_eq_false_iff_not,ne_eq,and_assoc]
theorem yC {l:List UInt8} (h:hC l=true):bl (bX l)≤665:=by
 obtain⟨h1,h2,h3,_⟩:=jK.1 h
 refine Gb (Nat.lt_of_lt_of_le (FV h1) ?_)
 exact Nat.le_trans (Nat.pow_le_pow_right (by decide) h3) (by decide +kernel)
def lW (c:UInt8):List UInt8→List UInt8×Option (List UInt8)
 | []=>([],none)
 | x::r=>if x=c then ([],some r) else (x::(lW c r).1,(lW c r).2)
theorem Be {c:UInt8}:∀ {l:List UInt8},(lW c l).2=none→indexByte l c = -1∧(lW c l).1=l∧c∉l:=by
 intro l
 induction l with
 | nil=>intro _;exact⟨rfl,rfl,by simp⟩
 |
  cons x l ih =>
  intro h
  unfold lW at h ⊢
  by_cases hx:x=c
  ·rw[if_pos hx] at h
   cases h
  ·rw[if_neg hx] at h ⊢
   obtain⟨h1,h2,h3⟩:=ih h
   refine⟨?_,by rw[h2],?_⟩
   ·rw[indexByte,if_neg (by simpa using hx),h1]
    rfl
   ·rw[List.mem_cons,not_or]
    exact⟨fun h=>hx h.symm,h3⟩
theorem HY {c:UInt8}:∀ {l r:List UInt8},(lW c l).2=some r→indexByte l c=((lW c l).1.length:Int)∧l=(lW c l).1++c::r∧c∉(lW c l).1:=by
 intro l
 induction l with
 | nil=>intro r h;cases h
 |
  cons x l ih =>
  intro r h
  unfold lW at h ⊢
  by_cases hx:x=c
  ·rw[if_pos hx] at h ⊢
   cases h
   subst hx
   refine⟨?_,rfl,by simp⟩
   rw[indexByte,if_pos (by simp)]
   rfl
  ·rw[if_neg hx] at h ⊢
   obtain⟨h1,h2,h3⟩:=ih h
   refine⟨?_,?_,?_⟩
   ·rw[indexByte,if_neg (by simpa using hx),h1,if_neg]
    ·simp
    ·simp
   ·conv=>lhs;rw[h2]
    rfl
   ·rw[List.mem_cons,not_or]
    exact⟨fun h=>hx h.symm,h3⟩
def oH (neg:Bool) (d:List UInt8) (s:Option (List UInt8)):Option Rat :=
 if hC d=false∨(neg=true∧bX d=0) then none else
 match s with
 | none=>some (mkRat (kE neg (bX d)) 1)
 | some t=>if hC t=true∧1<bX t∧Nat.gcd (bX d) (bX t)=1 then some (mkRat (kE neg (bX d)) (bX t)) else none
def isNeg (l:List UInt8):Bool:=decide (1≤l.length)&&decide (l.getD 0 0=45)
def yM (l:List UInt8):Option Rat:=oH (isNeg l) ((lW 47 (if isNeg l then l.drop 1 else l)).1) ((lW 47 (if isNeg l then l.drop 1 else l)).2)
theorem TE {neg:Bool} {d:List UInt8} {s:Option (List UInt8)} {q:Rat} (h:oH neg d s=some q):hC d=true∧¬(neg=true∧bX d=0)∧((s=none∧q=mkRat (kE neg (bX d)) 1)∨∃t,s=some t∧hC t=true∧1<bX t∧Nat.gcd (bX d) (bX t)=1∧q=mkRat (kE neg (bX d)) (bX t)):=by
 unfold oH at h
 split at h
 ·cases h
 ·rename_i hc
  rw[not_or] at hc
  refine⟨by simpa using hc.1,hc.2,?_⟩
  split at h
  ·exact .inl ⟨rfl,(Option.some.inj h).symm⟩
  ·rename_i t
   split at h
   ·rename_i ht
    exact .inr ⟨t,rfl,ht.1,ht.2.1,ht.2.2,(Option.some.inj h).symm⟩
   ·cases h
theorem QP {neg:Bool} {d:List UInt8} {s:Option (List UInt8)} {q:Rat} (h:oH neg d s=some q):aU q≤665:=by
 obtain⟨h1,_,h3⟩:=TE h
 have hb:=yC h1
 rcases h3 with⟨_,rfl⟩ | ⟨t,_,h4,h5,_,rfl⟩
 ·exact He (by rw[nQ];exact hb) (Gb (by decide +kernel)) (by decide)
 ·exact He (by rw[nQ];exact hb) (yC h4) (by omega)
theorem TN {l:List UInt8} {q:Rat} (h:yM l=some q):aU q≤665:=QP h
theorem Jt {neg:Bool} {t b:Nat} (hb:b≠0) (hg:Nat.gcd t b=1):(mkRat (kE neg t) b).num=kE neg t∧(mkRat (kE neg t) b).den=b:=by
 rw[E9 hb,Qm hb,hg,Nat.div_one,Nat.div_one]
 exact⟨rfl,rfl⟩
theorem Fb {c:UInt8} {l:List UInt8}:isNeg (c::l)=decide (c=45):=by simp[isNeg]
theorem acB {l:List UInt8} (h:l.all iD=true):(47:UInt8)∉l:=by
 intro hm
 have:=List.all_eq_true.1 h _ hm
 exact absurd this (by decide)
end Go.PM
namespace Go.PM
open Go.Lib
theorem Dl (l:List UInt8) {i:Nat} (h:i<l.length):FX (.string ⟨l.toArray⟩) (.int .i64 (i:Int))=some (.int .u8 ((l.getD i 0).toNat:Int)):=by
 have hs:(⟨l.toArray⟩:ByteArray).size=l.length:=by simp[ByteArray.size]
 have e1:(0:Int)≤i∧(i:Int)<(l.length:Int):=by omega
 simp only[FX,hs,e1,and_self,if_true,Int.toNat_natCast]
theorem HQ (l:List UInt8) (h:0<l.length):FX (.string ⟨l.toArray⟩) (.int .i64 0)=some (.int .u8 ((l.getD 0 0).toNat:Int)):=Dl l h
theorem Hf (l:List UInt8) (a b:Nat):(⟨l.toArray⟩:ByteArray).extract a b=⟨((l.drop a).take (b-a)).toArray⟩:=by
 rw[ByteArray.ext_iff,ByteArray.data_extract]
 simp[List.extract_toArray,List.extract_eq_take_drop]
theorem Fo (l:List UInt8) {a:Nat} (h:a≤l.length):uU (bB l) (some (VI (a:Int))) none=some (bB (l.drop a)):=by
 have hs:(⟨l.toArray⟩:ByteArray).size=l.length:=by simp[ByteArray.size]
 have e2:(0:Int)≤a∧(a:Int)≤(l.length:Int):=by omega
 simp only[uU,Fu,zJ,hs,eU,e2,and_self,if_true,Int.toNat_natCast,Hf]
 rw[List.take_of_length_le (by simp)]
theorem MV (l:List UInt8) {b:Nat} (hb:b≤l.length):uU (bB l) none (some (VI (b:Int)))=some (bB (l.take b)):=by
 have hs:(⟨l.toArray⟩:ByteArray).size=l.length:=by simp[ByteArray.size]
 have e1:(0:Int)≤b∧(b:Int)≤(l.length:Int):=by omega
 simp only[uU,Fu,zJ,hs,eU,e1,and_self,if_true,Int.toNat_natCast,Hf]
 rw[List.drop_zero,Nat.sub_zero]
theorem SD (l:List UInt8):dI .eql (.string ⟨l.toArray⟩) (.string ⟨#[]⟩)=some (.bool (decide (l=[]))):=Wp l []
theorem Jz (l:List UInt8):dI .neq (.string ⟨l.toArray⟩) (.string ⟨#[]⟩)=some (.bool (!decide (l=[]))):=Pz l []
theorem Rr (l:List UInt8):TC 210 [bB l,bB [45]] (VB (isNeg l)):=by
 refine TC.walk ⟨true,false⟩ sL rfl (Nat.le_of_ble_eq_true rfl) rfl rfl ?_
 have e1:yU (.string ⟨#[45]⟩)=some (.int .i64 1):=rfl
 by_cases h:(1:Int)≤(l.length:Int)
 ·have e2:=MV l (b:=1) (by omega)
  have e2:uU (bB l) none (some (VI 1))=some (bB (l.take 1)):=e2
  have e3:dI .eql (.string ⟨(l.take 1).toArray⟩) (.string ⟨#[45]⟩)=some (.bool (decide (l.take 1=[45]))):=Wp (l.take 1) [45]
  have e4:isNeg l=decide (l.take 1=[45]):=by
   cases l with
   | nil=>exact absurd h (by decide)
   | cons c l=>rw[Fb];simp
  rw[e4]
  simp only[gS,gC,bM,e1,ge_iff_le,h,e2,e3,VX,Nat.reduceEqDiff,Nat.reduceAdd]
  exact aF rfl
 ·have e4:isNeg l=false:=by unfold isNeg;rw[decide_eq_false (by omega)];rfl
  rw[e4]
  simp only[gS,gC,bM,e1,ge_iff_le,h,VX,Nat.reduceEqDiff,Nat.reduceAdd]
  exact aF rfl
theorem Pg (l:List UInt8):TC 191 [bB l,bB [45]] (.dT [bB (if isNeg l then l.drop 1 else l),VB (isNeg l)]):=by
 refine TC.walk ⟨true,false⟩ sN rfl (Nat.le_of_ble_eq_true rfl) rfl rfl ?_
 have e0:=Rr l
 have e1:yU (.string ⟨#[45]⟩)=some (.int .i64 1):=rfl
 cases h:isNeg l with
 |
  true =>
  rw[h] at e0
  have hl:1≤l.length:=by
   cases l with
   | nil=>cases h
   | cons c l=>simp
  have e2:uU (bB l) (some (VI 1)) none=some (bB (l.drop 1)):=Fo l (a:=1) hl
  simp only[gR,gB,e0,e1,e2,VX,Nat.reduceEqDiff,Nat.reduceAdd]
  exact aF rfl
 |
  false =>
  rw[h] at e0
  simp only[gR,gB,e0,Bool.false_eq_true,if_false,VX,Nat.reduceEqDiff,Nat.reduceAdd]
  exact aF rfl
theorem SU (l:List UInt8):TC 173 [bB l,bB [45]] (.dT [bB (if isNeg l then l.drop 1 else l),VB (isNeg l)]):=by
 refine TC.walk ⟨true,false⟩ En rfl (Nat.le_of_ble_eq_true rfl) rfl rfl ?_
 have e0:=Pg l
 simp only[zQ,vW,e0,VX,Nat.reduceEqDiff,Nat.reduceAdd]
 exact aF rfl
theorem alA (l:List UInt8) (hl:l.length≤1000000000000):TC 190 [bB l,bB [47]] (.dT [bB (lW 47 l).1,bB ((lW 47 l).2.getD []),VB (lW 47 l).2.isSome]):=by
 refine TC.walk ⟨true,false⟩ xN rfl (Nat.le_of_ble_eq_true rfl) rfl rfl ?_
 have e0:=aiO l 47
 have e1:yU (.string ⟨#[47]⟩)=some (.int .i64 1):=rfl
 cases h:(lW 47 l).2 with
 |
  none =>
  obtain⟨h1,h2,_⟩:=Be h
  rw[h1] at e0
  rw[h2]
  simp only[kZ,jP,e0,ge_iff_le,Int.reduceNeg,Int.reduceLE,VX,Nat.reduceEqDiff,Nat.reduceAdd]
  exact aF rfl
 |
  some r =>
  obtain⟨h1,h2,_⟩:=HY h
  rw[h1] at e0
  generalize (lW 47 l).1=a at *
  subst h2
  rw[List.length_append,List.length_cons] at hl
  have h0:(0:Int)≤(a.length:Int):=by omega
  have e2:=MV (a++47::r) (b:=a.length) (by simp)
  have e3:=Fo (a++47::r) (a:=a.length+1) (by simp)
  rw[List.take_left] at e2
  have ed:(a++47::r).drop (a.length+1)=r:=by rw[List.drop_append];simp
  rw[ed] at e3
  have w:IntKind.i64.wrap ((a.length:Int)+1)=((a.length+1:Nat):Int):=wrapN _ (by omega) (by omega)
  simp only[kZ,jP,e0,e1,ge_iff_le,h0,w,e2,e3,VX,Nat.reduceEqDiff,Nat.reduceAdd]
  exact aF rfl
theorem asZ (l:List UInt8) (hl:l.length≤1000000000000):TC 172 [bB l,bB [47]] (.dT [bB (lW 47 l).1,bB ((lW 47 l).2.getD []),VB (lW 47 l).2.isSome]):=by
 refine TC.walk ⟨true,false⟩ Nu rfl (Nat.le_of_ble_eq_true rfl) rfl rfl ?_
 have e0:=alA l hl
 simp only[Jr,EV,e0,VX,Nat.reduceEqDiff,Nat.reduceAdd]
 exact aF rfl
def As (l:List UInt8):VV:=if hC l=true then .dT [bN (bX l),VB true] else .dT [bN 0,VB false]
theorem Ys (l:List UInt8):gJ (As l)=true:=by
 unfold As
 split<;>simp[gJ,qB,pW,kB]
theorem anW {d:Nat}:fz (d+1) [.row 0 [] 1 true] (.ref 0 0 0 0 0)=some (bN 0):=by
 rw[DO]
 cases d with
 | zero=>rfl
 | succ d=>rfl
theorem KH {n:Nat} (hn:n≤9) {lo:Nat} {H:aA} {ρ:dM} {Q:VQ} (h58:ρ 58=VI n) (h59:ρ 59=VI 0) (h9:ρ 9=VK .u64 1) (hQ:∀bI,(∀t,t<9→bI t=ρ t)→bI 9=VK .u64 ((10^n:Nat):Int)→Q .normal bI H):VW ⟨true,false⟩ lo (.loop qJ) (Ai 4 Q) ρ H:=by
 refine aS (fun(i:Nat) bI H'=>i≤n∧H'=H∧(∀t,t<9→bI t=ρ t)∧bI 58=VI n∧bI 59=VI i∧bI 9=VK .u64 ((10^i:Nat):Int)) (fun i=>n-i) 0 ⟨Nat.zero_le _,rfl,fun _ _=>rfl,h58,h59,h9⟩ ?_
 rintro i bI H' ⟨hi,rfl,hk,g58,g59,g9⟩
 by_cases dB:(i:Int)<(n:Int)
 ·have wi:IntKind.i64.wrap ((i:Int)+1)=((i+1:Nat):Int):=wrapN (i+1) (by omega) (by omega)
  have hp:10^i≤10^8:=Nat.pow_le_pow_right (by decide) (by omega)
  have e8:(10:Nat)^8=100000000:=by decide
  have wp:IntKind.u64.wrap (((10^i:Nat):Int)*10)=((10^(i+1):Nat):Int):=by
   rw[Nat.pow_succ]
   generalize 10^i=p at *
   have:=dV (p*10) (by omega)
   rw[Int.natCast_mul] at this
   rw[Int.natCast_mul]
   exact this
  simp only[qJ,g58,g59,g9,dB,wi,wp,VX,Nat.reduceEqDiff,Nat.reduceAdd]
  refine⟨i+1,by omega,by omega,fun t ht => ?_,rfl,rfl⟩
  try simp only[uS]
  repeat rw[if_neg (by omega)]
  exact hk t ht
 ·have nY:i=n:=by omega
  subst nY
  simp only[qJ,g58,g59,dB,VX,Nat.reduceEqDiff,Nat.reduceAdd]
  refine hQ _ (fun t ht => ?_) ?_
  ·try simp only[uS]
   repeat rw[if_neg (by omega)]
   exact hk t ht
  ·simp only[g9,VX,Nat.reduceEqDiff,Nat.reduceAdd]
theorem ZJ {l:List UInt8} {i:Nat} (h:i<l.length):(l.take (i+1)).all iD=((l.take i).all iD&&iD (l.getD i 0)):=by
 rw[List.take_add_one,List.all_append]
 have:l[i]? = some (l.getD i 0):=by rw[List.getElem?_eq_getElem h,List.getD_eq_getElem?_getD,List.getElem?_eq_getElem h];rfl
 rw[this]
 simp
theorem Lk {l:List UInt8} (hl:l.length≤1000000000000) {lo:Nat} {H:aA} {ρ:dM} {Q:VQ} (h0:ρ 0=bB l) (h29:ρ 29=VI l.length) (h30:ρ 30=VI 0)
  (hR:l.all iD=false→∀bI:dM,bI 2 = .tree [] .nil→bI 3=VB false→Q .ret bI H) (hN:l.all iD=true→∀bI:dM,(∀t,t<5→bI t=ρ t)→Q .normal bI H):VW ⟨true,false⟩ lo (.loop kK) (Ai 0 Q) ρ H:=by
 refine aS (fun(i:Nat) bI H'=>i≤l.length∧H'=H∧(l.take i).all iD=true∧(∀t,t<5→bI t=ρ t)∧bI 29=VI l.length∧bI 30=VI i) (fun i=>l.length-i) 0 ⟨Nat.zero_le _,rfl,rfl,fun _ _=>rfl,h29,h30⟩ ?_
 rintro i bI H' ⟨hi,rfl,hd,hk,g29,g30⟩
 have g0:=(hk 0 (by decide)).trans h0
 by_cases dB:(i:Int)<(l.length:Int)
 ·have Ub:i<l.length:=by omega
  have e1:=Dl l Ub
  have wi:IntKind.i64.wrap ((i:Int)+1)=((i+1:Nat):Int):=wrapN (i+1) (by omega) (by omega)
  have ht:=ZJ Ub
  rw[hd,Bool.true_and] at ht
  have UN:iD (l.getD i 0)=(decide (48≤(l.getD i 0).toNat)&&decide ((l.getD i 0).toNat≤57)):=rfl
  have lF:iD (l.getD i 0)=false→l.all iD=false:=by
   intro h
   rw[h] at ht
   rw[←List.take_append_drop (i+1) l,List.all_append,ht,Bool.false_and]
  generalize (l.getD i 0).toNat=c at *
  by_cases q1:(c:Int)<48
  ·have:=lF (by rw[UN,decide_eq_false (by omega)];rfl)
   simp only[kK,g0,g29,g30,dB,e1,q1,VX,Nat.reduceEqDiff,Nat.reduceAdd]
   exact hR this _ (by simp only[VX,Nat.reduceEqDiff,Nat.reduceAdd]) (by simp only[VX,Nat.reduceEqDiff,Nat.reduceAdd])
  ·by_cases q2:(57:Int)<(c:Int)
   ·have:=lF (by rw[UN,decide_eq_false (show ¬c≤57 by omega),Bool.and_false])
    simp only[kK,g0,g29,g30,dB,e1,q1,q2,VX,Nat.reduceEqDiff,Nat.reduceAdd]
    exact hR this _ (by simp only[VX,Nat.reduceEqDiff,Nat.reduceAdd]) (by simp only[VX,Nat.reduceEqDiff,Nat.reduceAdd])
   ·rw[UN,decide_eq_true (by omega),decide_eq_true (by omega),Bool.and_self] at ht
    simp only[kK,g0,g29,g30,dB,e1,q1,q2,wi,VX,Nat.reduceEqDiff,Nat.reduceAdd]
    refine⟨i+1,by omega,by omega,ht,fun t ht => ?_,rfl⟩
    try simp only[uS]
    repeat rw[if_neg (by omega)]
    exact hk t ht
 ·have nY:i=l.length:=by omega
  subst nY
  rw[List.take_length] at hd
  simp only[kK,g29,g30,dB,VX,Nat.reduceEqDiff,Nat.reduceAdd]
  refine hN hd _ fun t ht => ?_
  try simp only[uS]
  repeat rw[if_neg (by omega)]
  exact hk t ht
set_option maxHeartbeats 2000000 in
theorem Ky {l:List UInt8} (hd:l.all iD=true) (hl:l.length≤200) (fC:l≠[]) {ρ:dM} {Q:VQ} (h0:ρ 0=bB l) (h4:ρ 4 = .ref 0 0 0 0 0)
  (hQ:∀(bI:dM),bI 4=bN (bX l)→Q .normal bI [.row 0 [] 1 false]):VW ⟨true,false⟩ 0 (.loop mX) (Ai 2 Q) ρ [.row 0 [] 1 true]:=by
 refine aS (fun(s:List UInt8×List UInt8) bI H'=>l=s.1++s.2∧bI 0=bB s.2∧((H'=[.row 0 [] 1 true]∧bI 4 = .ref 0 0 0 0 0∧s.1=[])∨(H'=[.row 0 [] 1 false]∧bI 4=bN (bX s.1)))) (fun s=>s.2.length) ([],l) ⟨rfl,h0,.inl ⟨rfl,h4,rfl⟩⟩ ?_
 rintro⟨pre,rest⟩ bI H' ⟨Uu,g0,hv⟩
 simp only at Uu g0 hv
 have e1:=Jz rest
 by_cases he:rest=[]
 ·subst he
  rw[List.append_nil] at Uu
  subst Uu
  rcases hv with⟨_,_,h⟩ | ⟨rfl,g4⟩
  ·exact absurd h fC
  have Vj:dI .neq (.string ⟨#[]⟩) (.string ⟨#[]⟩)=some (.bool false):=by
   have:=Jz []
   rw[decide_eq_true rfl] at this
   exact this
  simp only[mX,g0,Vj,VX,Nat.reduceEqDiff,Nat.reduceAdd]
  exact hQ _ (by simp only[g4,VX,Nat.reduceEqDiff,Nat.reduceAdd])
 ·rw[Uu,List.all_append,Bool.and_eq_true] at hd
  obtain⟨hd1,hd2⟩:=hd
  rw[Uu,List.length_append] at hl
  have kY:0<rest.length:=List.length_pos_iff.2 he
  have Vj:dI .neq (.string ⟨rest.toArray⟩) (.string ⟨#[]⟩)=some (.bool true):=by rw[e1,decide_eq_false he];rfl
  have wm:(rest.length:Int).tmod 9=((rest.length % 9:Nat):Int):=by rw[Int.tmod_eq_emod_of_nonneg (by omega)];simp
  have er:dI .rem (.int .i64 (rest.length:Int)) (.int .i64 9)=some (.int .i64 ((rest.length % 9:Nat):Int)):=by
   rw[←wm]
   rfl
  obtain⟨n,hn⟩:∃n,n=if rest.length % 9=0 then 9 else rest.length % 9:=⟨_,rfl⟩
  have hn1:1≤n∧n≤9∧n≤rest.length:=by
   rw[hn]
   split<;>omega
  obtain⟨n1,n9,nl⟩:=hn1
  have e2:=MV rest nl
  have e3:=Fo rest nl
  have hch:(rest.take n).length=n:=by rw[List.length_take];omega
  have hcd:(rest.take n).all iD=true:=by
   rw[←List.take_append_drop n rest,List.all_append,Bool.and_eq_true] at hd2
   exact hd2.1
  have hp:=ahD (rest.take n) (bX (rest.take n)) (by omega) (anS hcd (fun h=>by rw[h] at hch;simp at hch;omega) (by omega))
  have FT:=FV hcd
  rw[hch] at FT
  have hp9:10^n≤10^9:=Nat.pow_le_pow_right (by decide) n9
  have e9:(10:Nat)^9=1000000000:=by decide
  have aC2:bX (rest.take n)<1000000000:=by omega
  have c1:=mR (10^n) (by omega)
  have c2:=mR (bX (rest.take n)) (by omega)
  have hbp:bl (bX pre)≤665:=by
   refine Gb (Nat.lt_of_lt_of_le (FV hd1) ?_)
   exact Nat.le_trans (Nat.pow_le_pow_right (by decide) (by omega:pre.length≤200)) (by decide +kernel)
  have hb9:bl (10^n)≤64:=Gb (by omega)
  have hbm:=nL (bX pre) (10^n)
  have hbc:bl (bX (rest.take n))≤64:=Gb (by omega)
  have tm:=iF (bX pre) (10^n) (fG (by omega)) (fG (by omega))
  have c4:=DE (bX pre*10^n) (bX (rest.take n)) (fG (by omega)) (fG (by omega))
  have sH:bX pre*10^n+bX (rest.take n)=bX (pre++rest.take n):=by rw[MI,hch]
  rw[sH] at c4
  have fin:(rest.drop n).length<rest.length∧pre++rest=(pre++rest.take n)++rest.drop n:=⟨by rw[List.length_drop];omega,by rw[List.append_assoc,List.take_append_drop]⟩
  obtain⟨v4,g4,c3⟩:∃v4,bI 4=v4∧∀lo K,cS 143 [v4,bN (10^n)] lo H' K=K (bN (bX pre*10^n)) [.row 0 [] 1 false]:=by
   rcases hv with⟨rfl,g4,hp0⟩ | ⟨rfl,g4⟩
   ·refine⟨_,g4,fun lo K => ?_⟩
    subst hp0
    have:=tm.Dr (H:=[.row 0 [] 1 true]) (args:=[.ref 0 0 0 0 0,bN (10^n)]) (lo:=lo) (k:=K) rfl (by simp[aM,bS]) (fz2 anW (aJ (bS _))) rfl
    rw[this,show K5 (bN (bX []*10^n))=false from rfl,if_neg (by decide),List.flatMap_cons,List.flatMap_cons,List.flatMap_nil,Fv (bS _),Oy (n:=0) (c:=0) (es:=[]) (e:=1) (w:=true) bA rfl rfl]
    rfl
   ·exact⟨_,g4,fun lo K=>tm lo [.row 0 [] 1 false] K⟩
  clear hv
  obtain⟨P,hP⟩:∃P,P=10^n:=⟨_,rfl⟩
  rw[←hP] at c1 c4 c3
  have hnI:(rest.length % 9:Nat)=0∨¬(rest.length % 9:Nat)=0:=by omega
  rcases hnI with h9 | h9
  ·rw[if_pos h9] at hn
   subst hn
   have q:((rest.length % 9:Nat):Int)=0:=by omega
   have e2':uU (bB rest) none (some (VI 9))=some (bB (rest.take 9)):=e2
   have e3':uU (bB rest) (some (VI 9)) none=some (bB (rest.drop 9)):=e3
   simp only[mX,g0,g4,Vj,bM,er,q,e2',hp,VX,Nat.reduceEqDiff,Nat.reduceAdd]
   refine KH (n:=9) (by decide) ?_ ?_ ?_ fun wP k1 q9 => ?_
   ·simp only[VX,Nat.reduceEqDiff,Nat.reduceAdd];rfl
   ·simp only[VX,Nat.reduceEqDiff,Nat.reduceAdd]
   ·simp only[VX,Nat.reduceEqDiff,Nat.reduceAdd]
   rw[←hP] at q9
   have u0:wP 0=bB rest:=by rw[k1 0 (by decide)];simp only[g0,VX,Nat.reduceEqDiff,Nat.reduceAdd]
   have u4:wP 4=v4:=by rw[k1 4 (by decide)];simp only[g4,VX,Nat.reduceEqDiff,Nat.reduceAdd]
   have u6:wP 6=VI 9:=by rw[k1 6 (by decide)];simp only[VX,Nat.reduceEqDiff,Nat.reduceAdd]
   have u7:wP 7=VK .u64 (bX (rest.take 9)):=by rw[k1 7 (by decide)];simp only[VX,Nat.reduceEqDiff,Nat.reduceAdd]
   simp only[u0,u4,u6,u7,q9,c1,c2,c3,c4,e3',VX,Nat.reduceEqDiff,Nat.reduceAdd]
   exact⟨(pre++rest.take 9,rest.drop 9),fin.1,Uu.trans fin.2,rfl,.inr rfl⟩
  ·rw[if_neg h9] at hn
   rw[←hn] at er
   have q:¬(n:Int)=0:=by omega
   simp only[mX,g0,g4,Vj,bM,er,q,e2,hp,VX,Nat.reduceEqDiff,Nat.reduceAdd]
   refine KH (n:=n) n9 ?_ ?_ ?_ fun wP k1 q9 => ?_
   ·simp only[VX,Nat.reduceEqDiff,Nat.reduceAdd]
   ·simp only[VX,Nat.reduceEqDiff,Nat.reduceAdd]
   ·simp only[VX,Nat.reduceEqDiff,Nat.reduceAdd]
   rw[←hP] at q9
   have u0:wP 0=bB rest:=by rw[k1 0 (by decide)];simp only[g0,VX,Nat.reduceEqDiff,Nat.reduceAdd]
   have u4:wP 4=v4:=by rw[k1 4 (by decide)];simp only[g4,VX,Nat.reduceEqDiff,Nat.reduceAdd]
   have u6:wP 6=VI n:=by rw[k1 6 (by decide)];simp only[VX,Nat.reduceEqDiff,Nat.reduceAdd]
   have u7:wP 7=VK .u64 (bX (rest.take n)):=by rw[k1 7 (by decide)];simp only[VX,Nat.reduceEqDiff,Nat.reduceAdd]
   simp only[u0,u4,u6,u7,q9,c1,c2,c3,c4,e3,VX,Nat.reduceEqDiff,Nat.reduceAdd]
   exact⟨(pre++rest.take n,rest.drop n),fin.1,Uu.trans fin.2,rfl,.inr rfl⟩
set_option maxHeartbeats 2000000 in
theorem C4 (l:List UInt8) (hl:l.length≤1000000000000):TC 174 [bB l] (As l):=by
 refine TC.walk ⟨true,false⟩ La rfl (Nat.le_of_ble_eq_true rfl) rfl (Ys l) ?_
 have e1:=SD l
 by_cases he:l=[]
 ·have hk:hC l=false:=by rw[he];rfl
  have Vj:dI .eql (.string ⟨l.toArray⟩) (.string ⟨#[]⟩)=some (.bool true):=by rw[e1,decide_eq_true he]
  unfold As
  rw[hk]
  simp only[pD,lT,Vj,Bool.false_eq_true,if_false,VX,Nat.reduceEqDiff,Nat.reduceAdd]
  exact bO (d:=6) wK (aJ (v:=VB false) rfl)
 have kY:0<l.length:=List.length_pos_iff.2 he
 by_cases aiI:(200:Int)<(l.length:Int)
 ·have hk:hC l=false:=by
   cases h:hC l with
   | false=>rfl
   | true=>have:=(jK.1 h).2.2.1;omega
  unfold As
  rw[hk]
  simp only[pD,lT,e1,he,decide_false,bM,aiI,Bool.false_eq_true,if_false,VX,Nat.reduceEqDiff,Nat.reduceAdd]
  exact bO (d:=6) wK (aJ (v:=VB false) rfl)
 have e2:=HQ l kY
 by_cases hz:(((l.getD 0 0).toNat:Int)=48∧1<(l.length:Int))
 ·obtain⟨Hs,Tp⟩:=hz
  have hk:hC l=false:=by
   cases h:hC l with
   | false=>rfl
   |
    true =>
    rcases(jK.1 h).2.2.2 with h1 | h1
    ·omega
    ·exact absurd (UInt8.toNat_inj.1 (by rw[show (48:UInt8).toNat=48 from rfl];omega)) h1
  unfold As
  rw[hk]
  simp only[pD,lT,e1,he,decide_false,bM,aiI,e2,Hs,Tp,Bool.false_eq_true,if_false,VX,Nat.reduceEqDiff,Nat.reduceAdd]
  exact bO (d:=6) wK (aJ (v:=VB false) rfl)
 have asE:l.length=1∨l.getD 0 0≠48:=by
  by_cases h1:l.length=1
  ·exact .inl h1
  ·right
   intro h2
   apply hz
   rw[h2]
   exact⟨rfl,by omega⟩
 have e3:∀lr,jC lr [.int .u32 0] 0 [] []=some (.ref 0 0 0 0 0,[.row 0 [] 1 true]):=fun lr=>iE (H:=[]) (lr:=lr) (z:=[.int .u32 0]) rfl
 have kN:l.all iD=true→hC l=true:=fun h=>jK.2 ⟨h,kY,by omega,asE⟩
 have kF:l.all iD=false→hC l=false:=fun h=>by unfold hC;rw[h];rfl
 have rF:hC l=false→As l = .dT [bN 0,VB false]:=fun h=>by unfold As;rw[h];rfl
 have rT:hC l=true→As l = .dT [bN (bX l),VB true]:=fun h=>if_pos h
 by_cases hA:(((l.getD 0 0).toNat:Int)=48)
 ·have hB:¬1<(l.length:Int):=fun h=>hz ⟨hA,h⟩
  simp only[pD,lT,e1,e3,he,decide_false,bM,aiI,e2,hA,hB,Bool.false_eq_true,if_false,VX,Nat.reduceEqDiff,Nat.reduceAdd]
  refine Lk hl ?_ ?_ ?_ (fun hd wP g2 g3 => ?_) fun hd wP k1 => ?_
  ·simp only[VX,Nat.reduceEqDiff,Nat.reduceAdd]
  ·simp only[VX,Nat.reduceEqDiff,Nat.reduceAdd]
  ·simp only[VX,Nat.reduceEqDiff,Nat.reduceAdd]
  ·rw[rF (kF hd)]
   simp only[g2,g3,VX,Nat.reduceEqDiff,Nat.reduceAdd]
   exact bO (d:=6) wK (aJ (v:=VB false) rfl)
  ·rw[rT (kN hd)]
   simp only[VX,Nat.reduceEqDiff,Nat.reduceAdd]
   refine Ky hd (by omega) he ?_ ?_ fun OB g4 => ?_
   ·rw[k1 0 (by decide)];simp only[VX,Nat.reduceEqDiff,Nat.reduceAdd]
   ·rw[k1 4 (by decide)];simp only[VX,Nat.reduceEqDiff,Nat.reduceAdd]
   ·simp only[g4,VX,Nat.reduceEqDiff,Nat.reduceAdd]
    exact bO (d:=6) (aJ (bS _)) (aJ (v:=VB true) rfl)
 ·simp only[pD,lT,e1,e3,he,decide_false,bM,aiI,e2,hA,Bool.false_eq_true,if_false,VX,Nat.reduceEqDiff,Nat.reduceAdd]
  refine Lk hl ?_ ?_ ?_ (fun hd wP g2 g3 => ?_) fun hd wP k1 => ?_
  ·simp only[VX,Nat.reduceEqDiff,Nat.reduceAdd]
  ·simp only[VX,Nat.reduceEqDiff,Nat.reduceAdd]
  ·simp only[VX,Nat.reduceEqDiff,Nat.reduceAdd]
  ·rw[rF (kF hd)]
   simp only[g2,g3,VX,Nat.reduceEqDiff,Nat.reduceAdd]
   exact bO (d:=6) wK (aJ (v:=VB false) rfl)
  ·rw[rT (kN hd)]
   simp only[VX,Nat.reduceEqDiff,Nat.reduceAdd]
   refine Ky hd (by omega) he ?_ ?_ fun OB g4 => ?_
   ·rw[k1 0 (by decide)];simp only[VX,Nat.reduceEqDiff,Nat.reduceAdd]
   ·rw[k1 4 (by decide)];simp only[VX,Nat.reduceEqDiff,Nat.reduceAdd]
   ·simp only[g4,VX,Nat.reduceEqDiff,Nat.reduceAdd]
    exact bO (d:=6) (aJ (bS _)) (aJ (v:=VB true) rfl)
def Fw:VV := .agg [VB false,bN 0,bN 0]
def C0 (l:List UInt8):VV:=match yM l with
 | some q => .dT [aQ q,VB true]
 | none => .dT [Fw,VB false]
theorem OF:aN Fw=true:=by simp[Fw,aN,aM,bS,kB]
theorem FY:gJ Fw=true:=by simp[Fw,gJ,qB,pW,kB]
theorem Uh (l:List UInt8):gJ (C0 l)=true:=by
 unfold C0
 split<;>simp[gJ,qB,qC,FY,kB]
theorem fW {d:Nat} {H:aA}:fz (d+2) H (.agg [VB false,.tree [] .nil,.tree [] .nil])=some Fw:=qF (aJ (v:=VB false) rfl) wK wK
theorem Lz {neg:Bool} {t b:Nat} (hb:b≠0) (hg:Nat.gcd t b=1) (hn:¬(neg=true∧t=0)):aQ (mkRat (kE neg t) b) = .agg [VB neg,bN t,bN b]:=by
 obtain⟨e1,e2⟩:=Jt (neg:=neg) hb hg
 refine Bw ?_ (by rw[e1,nQ]) e2
 rw[e1]
 cases neg with
 | false=>unfold kE;simp
 |
  true =>
  have:t≠0:=fun h=>hn ⟨rfl,h⟩
  unfold kE
  simp
  omega
theorem Vd (l:List UInt8):yM l=oH (isNeg (lW 47 l).1) (if isNeg (lW 47 l).1 then (lW 47 l).1.drop 1 else (lW 47 l).1) (lW 47 l).2:=by
 cases l with
 | nil=>rfl
 |
  cons c r =>
  unfold yM
  by_cases h47:c=47
  ·subst h47
   rfl
  ·have e:lW 47 (c::r)=(c::(lW 47 r).1,(lW 47 r).2):=by rw[lW,if_neg h47]
   by_cases h45:c=45
   ·subst h45
    rw[e]
    rfl
   ·rw[e,Fb,Fb,decide_eq_false h45]
    simp only[Bool.false_eq_true,if_false,e]
theorem Ro {c:UInt8}:∀ {l:List UInt8},(lW c l).1.length≤l.length∧∀t,(lW c l).2=some t→t.length≤l.length:=by
 intro l
 cases h:(lW c l).2 with
 | none=>rw[(Be h).2.1];exact⟨Nat.le_refl _,fun t ht=>by cases ht⟩
 |
  some r =>
  have:=congrArg List.length (HY h).2.1
  rw[List.length_append,List.length_cons] at this
  exact⟨by omega,fun t ht=>by cases ht;omega⟩
theorem N1 {n:Nat}:(((aC 4294967296 n).length:Nat):Int)=0↔n=0:=by
 rw[←lQ (b:=4294967296) (n:=n) (by decide),←List.length_eq_zero_iff]
 omega
set_option maxRecDepth 100000 in
set_option maxHeartbeats 4000000 in
theorem Mo (l:List UInt8) (hl:l.length≤1000000000000):TC 115 [bB l] (C0 l):=by
 refine TC.walk ⟨true,false⟩ L7 rfl (Nat.le_of_ble_eq_true rfl) rfl (Uh l) ?_
 have e1:=asZ l hl
 obtain⟨l1,l2⟩:=Ro (c:=47) (l:=l)
 have hq:=Vd l
 unfold C0
 rw[hq]
 clear hq
 generalize (lW 47 l).1=f at *
 generalize (lW 47 l).2=s2 at *
 have e2:=SU f
 have ld:(if isNeg f=true then f.drop 1 else f).length≤f.length:=by split<;>simp
 generalize (if isNeg f=true then f.drop 1 else f)=d at *
 generalize isNeg f=neg at *
 have e3:=C4 d (by omega)
 have c1:TC 139 [.sc (.int .u64 1)] (bN 1):=mR 1 (by decide)
 cases hd:hC d with
 |
  false =>
  have hp:oH neg d s2=none:=if_pos (.inl hd)
  rw[hp]
  unfold As at e3
  rw[hd,if_neg (by decide)] at e3
  simp only[eJ,dG,e1,e2,e3,aH,iU,Nat.reduceLeDiff,Nat.reduceLT,Nat.reduceSub,VX,Nat.reduceEqDiff,Nat.reduceAdd]
  exact bO (d:=6) fW (aJ (v:=VB false) rfl)
 |
  true =>
  unfold As at e3
  rw[hd,if_pos rfl] at e3
  by_cases hz:neg=true∧bX d=0
  ·have hp:oH neg d s2=none:=if_pos (.inr hz)
   rw[hp]
   obtain⟨rfl,D9⟩:=hz
   rw[D9] at e3
   have Bi:(((aC 4294967296 0).length:Nat):Int)=0:=N1.2 rfl
   simp only[eJ,dG,e1,e2,e3,dJ,Bi,aH,iU,Nat.reduceLeDiff,Nat.reduceLT,Nat.reduceSub,VX,Nat.reduceEqDiff,Nat.reduceAdd]
   exact bO (d:=6) fW (aJ (v:=VB false) rfl)
  ·have hbt:=yC hd
   have Bi:neg=true→¬(((aC 4294967296 (bX d)).length:Nat):Int)=0:=fun h h0=>hz ⟨h,N1.1 h0⟩
   cases s2 with
   |
    none =>
    have hp:oH neg d none=some (mkRat (kE neg (bX d)) 1):=if_neg (by rw[hd];rintro(h | h);exact absurd h (by decide);exact hz h)
    rw[hp]
    simp only[]
    rw[Lz (by decide) (Nat.gcd_one_right _) hz]
    cases neg with
    |
     false =>
     simp only[eJ,dG,e1,e2,e3,c1,Option.isSome_none,Option.getD_none,aH,aY,aV,aP,iU,Nat.reduceLeDiff,Nat.reduceLT,Nat.reduceSub,VX,Nat.reduceEqDiff,Nat.reduceAdd]
     exact bO (d:=6) (qF (aJ (v:=VB false) rfl) (aJ (bS _)) (aJ (bS _))) (aJ (v:=VB true) rfl)
    |
     true =>
     have Bi:=Bi rfl
     simp only[eJ,dG,e1,e2,e3,c1,dJ,Bi,Option.isSome_none,Option.getD_none,aH,aY,aV,aP,iU,Nat.reduceLeDiff,Nat.reduceLT,Nat.reduceSub,VX,Nat.reduceEqDiff,Nat.reduceAdd]
     exact bO (d:=6) (qF (aJ (v:=VB true) rfl) (aJ (bS _)) (aJ (bS _))) (aJ (v:=VB true) rfl)
   |
    some t =>
    have e4:=C4 t (by have:=l2 t rfl;omega)
    have hp:oH neg d (some t)=if hC t=true∧1<bX t∧Nat.gcd (bX d) (bX t)=1 then some (mkRat (kE neg (bX d)) (bX t)) else none:=if_neg (by rw[hd];rintro(h | h);exact absurd h (by decide);exact hz h)
    rw[hp]
    cases ht:hC t with
    |
     false =>
     rw[if_neg (fun h=>absurd h.1 (by decide))]
     unfold As at e4
     rw[ht,if_neg (by decide)] at e4
     cases neg with
     |
      false =>
      simp only[eJ,dG,e1,e2,e3,e4,c1,Option.isSome_some,Option.getD_some,aH,aY,aV,aP,iU,Nat.reduceLeDiff,Nat.reduceLT,Nat.reduceSub,VX,Nat.reduceEqDiff,Nat.reduceAdd]
      exact bO (d:=6) fW (aJ (v:=VB false) rfl)
     |
      true =>
      have Bi:=Bi rfl
      simp only[eJ,dG,e1,e2,e3,e4,c1,dJ,Bi,Option.isSome_some,Option.getD_some,aH,aY,aV,aP,iU,Nat.reduceLeDiff,Nat.reduceLT,Nat.reduceSub,VX,Nat.reduceEqDiff,Nat.reduceAdd]
      exact bO (d:=6) fW (aJ (v:=VB false) rfl)
    |
     true =>
     have Lj:=yC ht
     unfold As at e4
     rw[ht,if_pos rfl] at e4
     have c2:=jS (bX t) 1 (fG (by omega)) (fG (Nat.le_trans (Gb (n:=1) (k:=1) (by decide)) (by decide)))
     have c3:=C9 (bX d) (bX t) (fG (by omega)) (fG (by omega))
     by_cases h1:eX (bX t) 1≤0
     ·have hle:¬1<bX t:=fun h=>by unfold eX at h1;rw[if_neg (by omega),if_neg (by omega)] at h1;exact absurd h1 (by decide)
      rw[if_neg (fun h=>hle h.2.1)]
      cases neg with
      |
       false =>
       simp only[eJ,dG,e1,e2,e3,e4,c1,c2,h1,Option.isSome_some,Option.getD_some,aH,aY,aV,aP,iU,Nat.reduceLeDiff,Nat.reduceLT,Nat.reduceSub,VX,Nat.reduceEqDiff,Nat.reduceAdd]
       exact bO (d:=6) fW (aJ (v:=VB false) rfl)
      |
       true =>
       have Bi:=Bi rfl
       simp only[eJ,dG,e1,e2,e3,e4,c1,c2,h1,dJ,Bi,Option.isSome_some,Option.getD_some,aH,aY,aV,aP,iU,Nat.reduceLeDiff,Nat.reduceLT,Nat.reduceSub,VX,Nat.reduceEqDiff,Nat.reduceAdd]
       exact bO (d:=6) fW (aJ (v:=VB false) rfl)
     ·have bF:1<bX t:=by
       rcases Nat.lt_or_ge 1 (bX t) with h | h
       ·exact h
       ·exfalso
        apply h1
        unfold eX
        split
        ·decide
        ·rw[if_pos (by omega)];decide
      have YZ:bl (Nat.gcd (bX d) (bX t))≤665:=Nat.le_trans (jZ (Nat.le_of_dvd (by omega) (Nat.gcd_dvd_right _ _))) Lj
      have c4:=jS (Nat.gcd (bX d) (bX t)) 1 (fG (by omega)) (fG (Nat.le_trans (Gb (n:=1) (k:=1) (by decide)) (by decide)))
      by_cases hg:Nat.gcd (bX d) (bX t)=1
      ·have h4:eX (Nat.gcd (bX d) (bX t)) 1=0:=by rw[hg];rfl
       rw[if_pos ⟨rfl,bF,hg⟩]
       simp only[]
       rw[Lz (by omega) hg hz]
       cases neg with
       |
        false =>
        simp only[eJ,dG,e1,e2,e3,e4,c1,c2,c3,c4,h1,h4,Option.isSome_some,Option.getD_some,aH,aY,aV,aP,iU,Nat.reduceLeDiff,Nat.reduceLT,Nat.reduceSub,VX,Nat.reduceEqDiff,Nat.reduceAdd]
        exact bO (d:=6) (qF (aJ (v:=VB false) rfl) (aJ (bS _)) (aJ (bS _))) (aJ (v:=VB true) rfl)
       |
        true =>
        have Bi:=Bi rfl
        simp only[eJ,dG,e1,e2,e3,e4,c1,c2,c3,c4,h1,h4,dJ,Bi,Option.isSome_some,Option.getD_some,aH,aY,aV,aP,iU,Nat.reduceLeDiff,Nat.reduceLT,Nat.reduceSub,VX,Nat.reduceEqDiff,Nat.reduceAdd]
        exact bO (d:=6) (qF (aJ (v:=VB true) rfl) (aJ (bS _)) (aJ (bS _))) (aJ (v:=VB true) rfl)
      ·have h4:¬eX (Nat.gcd (bX d) (bX t)) 1=0:=by
        unfold eX
        split<;>(try split)<;>first | decide | omega
       rw[if_neg (fun h=>hg h.2.2)]
       cases neg with
       |
        false =>
        simp only[eJ,dG,e1,e2,e3,e4,c1,c2,c3,c4,h1,h4,Option.isSome_some,Option.getD_some,aH,aY,aV,aP,iU,Nat.reduceLeDiff,Nat.reduceLT,Nat.reduceSub,VX,Nat.reduceEqDiff,Nat.reduceAdd]
        exact bO (d:=6) fW (aJ (v:=VB false) rfl)
       |
        true =>
        have Bi:=Bi rfl
        simp only[eJ,dG,e1,e2,e3,e4,c1,c2,c3,c4,h1,h4,dJ,Bi,Option.isSome_some,Option.getD_some,aH,aY,aV,aP,iU,Nat.reduceLeDiff,Nat.reduceLT,Nat.reduceSub,VX,Nat.reduceEqDiff,Nat.reduceAdd]
        exact bO (d:=6) fW (aJ (v:=VB false) rfl)
end Go.PM
namespace Go.PM
open Go.Lib
theorem Sm {l:List UInt8} {q:Rat} (h:yM l=some q):C0 l = .dT [aQ q,VB true]:=by unfold C0;rw[h]
theorem RQ {l:List UInt8} (h:yM l=none):C0 l = .dT [Fw,VB false]:=by unfold C0;rw[h]
theorem Di:aB Fw=[VB false,bN 0,bN 0]:=rfl
theorem Fj:isAny Fw=false:=rfl
theorem Ld:dD true 3 Fw 0=some Fw:=rfl
end Go.PM
namespace Go.PM
open Go.Lib
end Go.PM