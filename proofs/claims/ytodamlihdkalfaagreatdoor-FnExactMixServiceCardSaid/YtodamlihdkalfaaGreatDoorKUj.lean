/- Texts of a claim, in one: part 10. -/
import Derived.Lib.Bytealg
import Derived.Lib.ParseIntB
import Derived.Test.YtodamlihdkalfaaGreatDoorKUi
set_option linter.unusedSimpArgs false
set_option linter.unusedVariables false
namespace Go.PM
open Go.Lib
def bE (q:Rat):VV := .agg [VB (decide (q.num<0)),bL q.num.natAbs,bL q.den]
theorem gS (q:Rat):aR (bE q)=true:=by simp[bE,aR,aM,bO,kE]
theorem Bd (q:Rat):gQ (bE q)=true:=by simp[bE,gQ,rA,qA,kE]
theorem JZ {q:Rat} {neg:Bool} {t b:Nat} (h0:q.num<0↔neg=true) (h1:q.num.natAbs=t) (h2:q.den=b):bE q = .agg [VB neg,bL t,bL b]:=by
 subst h1 h2
 unfold bE
 congr 4
 cases neg<;>simp_all
theorem acQ {neg:Bool} {t b:Nat} (hb:b≠0) (ht:t≠0):bE (mkRat (pS neg t) b) = .agg [VB neg,bL (t / Nat.gcd t b),bL (b / Nat.gcd t b)]:=by
 refine JZ ?_ ?_ (TU hb)
 ·rw[KH hb,Uz]
  have h1:t / Nat.gcd t b≠0:=by
   have:=Nat.div_pos (Nat.le_of_dvd (by omega) (Nat.gcd_dvd_left t b)) (Nat.gcd_pos_of_pos_left b (by omega))
   omega
  simp[h1]
 ·rw[KH hb,Aq]
theorem Xv:bE 0 = .agg [VB false,.tree [] .op,bL 1]:=by
 rw[JZ (q:=0) (neg:=false) (t:=0) (b:=1) (by simp) rfl rfl,DV]
theorem aS (n:Nat):bI (bL n)=true:=rfl
theorem aT (n:Nat):isAny (bL n)=false:=rfl
theorem aO (n:Nat):aB (bL n)=[bL n]:=rfl
theorem cW (q:Rat):isAny (bE q)=false:=rfl
theorem aH (q:Rat):aB (bE q)=[VB (decide (q.num<0)),bL q.num.natAbs,bL q.den]:=rfl
theorem fD (q:Rat):dQ true 3 (bE q) 0=some (bE q):=rfl
theorem oA (q:Rat):dQ false 1 (bE q) 0=some (VB (decide (q.num<0))):=rfl
theorem nR (q:Rat):dQ false 1 (bE q) 1=some (bL q.num.natAbs):=rfl
theorem rP (q:Rat):dQ false 1 (bE q) 2=some (bL q.den):=rfl
theorem qG {d:Nat} {H:aA} {u u' v v' w w':VV} (h1:fz (d+1) H u=some u') (h2:fz (d+1) H v=some v') (h3:fz (d+1) H w=some w'):fz (d+2) H (.agg [u,v,w])=some (.agg [u',v',w']):=by
 have e:fz (d+2) H (.agg [u,v,w])=if aR (.agg [u,v,w])=true then some (.agg [u,v,w]) else ([u,v,w].mapM (fz (d+1) H)).map .agg:=rfl
 rw[e]
 by_cases hp:aR (.agg [u,v,w])=true
 ·rw[if_pos hp]
  simp only[aR,aM,Bool.and_eq_true,and_true] at hp
  rw[aJ hp.1] at h1
  rw[aJ hp.2.1] at h2
  rw[aJ hp.2.2] at h3
  cases h1
  cases h2
  cases h3
  rfl
 ·rw[if_neg hp,List.mapM_cons,h1,List.mapM_cons,h2,List.mapM_cons,h3]
  rfl
theorem ZK {d:Nat} {H:aA} {v:Value} (h:kE v=true):fz (d+1) H (.sc v)=some (.sc v):=aJ h
theorem GQ {H:aA} {neg:Bool} {t b:Nat}:fz depth H (.agg [VB neg,bL t,bL b])=some (.agg [VB neg,bL t,bL b]):=aF (by simp[aR,aM,bO,kE])
theorem Ah {H:aA} (q:Rat):fz depth H (bE q)=some (bE q):=aF (gS q)
theorem aoF {n:Nat} (h:bl n≤2199023255552):(aC 4294967296 n).length≤68719476736:=by
 have:=afR n
 omega
theorem gK {n:Nat} (h:bl n≤4398046511104):(aC 4294967296 n).length≤17592186044416:=by
 have:=afR n
 omega
theorem AB (neg:Bool) (t b:Nat) (hb:b≠0) (ht:bl t≤4398046511104) (uJ:bl b≤4398046511104):TC 100 [VB neg,bL t,bL b] (bE (mkRat (pS neg t) b)):=by
 refine TC.walk ⟨true,false⟩ MI rfl (Nat.le_of_ble_eq_true rfl) (by simp[aM,bO,aR,kE]) (Bd _) ?_
 by_cases h0:t=0
 ·subst h0
  have hl:(((aC 4294967296 0).length:Nat):Int)=0:=by rw[bS];rfl
  have c1:TC 101 [.sc (.int .u64 1)] (bL 1):=mO 1 (by decide)
  rw[P8,Rat.zero_mkRat,Xv,←DV]
  simp only[uT,qB,dY,hl,c1,aS,aT,aO,kC,Nat.reduceLeDiff,Nat.reduceLT,Nat.reduceSub,VX,Nat.reduceEqDiff,Nat.reduceAdd]
  exact qG (ZK rfl) wK (aJ (bO _))
 ·have hl:¬(((aC 4294967296 t).length:Nat):Int)=0:=by have:=wV.2 h0;omega
  have c1:=DM t b (gK ht) (gK uJ)
  have hg0:Nat.gcd t b≠0:=Nat.gcd_ne_zero_right hb
  have X7:bl (Nat.gcd t b)≤4398046511104:=Nat.le_trans (pH (Nat.gcd_le_right t (by omega))) uJ
  have c2:=xO t _ hg0 (gK ht) (gK X7)
  have c3:=xO b _ hg0 (gK uJ) (gK X7)
  rw[acQ hb h0]
  by_cases h1:((aC 4294967296 (Nat.gcd t b)).length:Int)=1
  ·obtain⟨d,hd⟩:∃d,aC 4294967296 (Nat.gcd t b)=[d]:=List.length_eq_one_iff.1 (by omega)
   obtain⟨hgd,_,_⟩:=QD hd
   have e1:bM 1 (bL (Nat.gcd t b)) (.sc (.int .i64 0)) [.row 0 [.agg [VB false,.tree [] .nil,.tree [] .nil]] 3 true]=some (.cZ (uV d) 0):=aK (f:=uV) (xs:=aC 4294967296 (Nat.gcd t b)) (i:=0) (k := .i64) (by rw[hd];rfl) rfl
   by_cases h2:(d:Int)=1
   ·have hg1:Nat.gcd t b=1:=by omega
    simp only[uT,qB,dY,hl,c1,h1,h2,e1,aS,aT,aO,kC,Nat.reduceLeDiff,Nat.reduceLT,Nat.reduceSub,VX,Nat.reduceEqDiff,Nat.reduceAdd]
    rw[hg1,Nat.div_one,Nat.div_one]
    exact GQ
   ·simp only[uT,qB,dY,hl,c1,c2,c3,h1,h2,e1,aS,aT,aO,kC,Nat.reduceLeDiff,Nat.reduceLT,Nat.reduceSub,VX,Nat.reduceEqDiff,Nat.reduceAdd]
    exact GQ
  ·simp only[uT,qB,dY,hl,c1,c2,c3,h1,aS,aT,aO,kC,Nat.reduceLeDiff,Nat.reduceLT,Nat.reduceSub,VX,Nat.reduceEqDiff,Nat.reduceAdd]
   exact GQ
theorem WU {n:Int} (h0 : -9223372036854775808≤n) (h:n<0):IntKind.u64.wrap (0-IntKind.u64.wrap n)=(n.natAbs:Int):=by
 rw[wrap_u64,wrap_u64]
 omega
theorem HH (n:Int) (h0 : -9223372036854775808≤n) (h1:n≤9223372036854775807):TC 107 [VI n] (VK .u64 (n.natAbs:Int)):=by
 refine TC.walk ⟨true,false⟩ HW rfl (Nat.le_of_ble_eq_true rfl) rfl rfl ?_
 by_cases h:n<0
 ·simp only[xL,tO,h,WU h0 h,VX,Nat.reduceEqDiff,Nat.reduceAdd]
  exact aF rfl
 ·have w:IntKind.u64.wrap n=(n.natAbs:Int):=by rw[wrap_u64];omega
  simp only[xL,tO,h,w,VX,Nat.reduceEqDiff,Nat.reduceAdd]
  exact aF rfl
theorem Ye (n:Int):bE (n:Rat) = .agg [VB (decide (n<0)),bL n.natAbs,bL 1]:=JZ (by simp) (by simp) (by simp)
theorem BT (n:Int) (h0 : -9223372036854775808≤n) (h1:n≤9223372036854775807):TC 97 [VI n] (bE (n:Rat)):=by
 refine TC.walk ⟨true,false⟩ OE rfl (Nat.le_of_ble_eq_true rfl) rfl (Bd _) ?_
 have c1:=HH n h0 h1
 have c2:=mO n.natAbs (by omega)
 have c3:TC 101 [.sc (.int .u64 1)] (bL 1):=mO 1 (by decide)
 rw[Ye]
 simp only[KJ,Gm,c1,c2,c3,aS,aT,aO,kC,Nat.reduceLeDiff,Nat.reduceLT,Nat.reduceSub,VX,Nat.reduceEqDiff,Nat.reduceAdd]
 exact GQ
theorem U8 {q:Rat}:(((aC 4294967296 q.num.natAbs).length:Nat):Int)=0↔q.num=0:=by
 have:=wV (n:=q.num.natAbs)
 omega
theorem kJ (q:Rat):TC 104 [bE q] (VI (kR q)):=by
 refine TC.walk ⟨true,false⟩ Gq rfl (Nat.le_of_ble_eq_true rfl) (by simp[aM,gS]) rfl ?_
 unfold kR
 by_cases h0:q.num=0
 ·have hl:=U8.2 h0
  rw[if_pos h0]
  simp only[qP,oB,dY,hl,aH,oA,nR,aS,aT,aO,kC,Nat.reduceLeDiff,Nat.reduceLT,Nat.reduceSub,VX,Nat.reduceEqDiff,Nat.reduceAdd]
  exact aF rfl
 ·have hl:¬(((aC 4294967296 q.num.natAbs).length:Nat):Int)=0:=fun h=>h0 (U8.1 h)
  rw[if_neg h0]
  by_cases h1:q.num<0
  ·simp only[qP,oB,dY,hl,h1,aH,oA,nR,aS,aT,aO,kC,Nat.reduceLeDiff,Nat.reduceLT,Nat.reduceSub,VX,Nat.reduceEqDiff,Nat.reduceAdd]
   exact aF rfl
  ·simp only[qP,oB,dY,hl,h1,aH,oA,nR,aS,aT,aO,kC,Nat.reduceLeDiff,Nat.reduceLT,Nat.reduceSub,VX,Nat.reduceEqDiff,Nat.reduceAdd]
   exact aF rfl
end Go.PM
namespace Go.PM
open Go.Lib
theorem vV (a b:Bool):MF false (.bool a) (.bool b)=some (.bool (a == b)):=by
 show some (Value.bool ((a == b) != false))=_
 rw[Bool.bne_false]
theorem B6 (a b:Bool):MF true (.bool a) (.bool b)=some (.bool (a != b)):=by
 show some (Value.bool ((a == b) != true))=_
 cases a<;>cases b<;>rfl
theorem BC {q:Rat} {k:Nat} (h:dL q≤k):bl q.num.natAbs≤k:=Nat.le_trans Bw h
theorem BI {q:Rat} {k:Nat} (h:dL q≤k):bl q.den≤k:=Nat.le_trans Be h
theorem IB {X Y B:Nat} {a b:Rat} (hB:B≠0) (ha:mkRat (pS (decide (a.num<0)) X) B=a) (hb:mkRat (pS (decide (b.num<0)) Y) B=b) :
  ((decide (a.num<0))=(decide (b.num<0))→mkRat (pS (decide (a.num<0)) (X+Y)) B=a+b) ∧
  ((decide (a.num<0))≠(decide (b.num<0))→Y≤X→mkRat (pS (decide (a.num<0)) (X-Y)) B=a+b) ∧
  ((decide (a.num<0))≠(decide (b.num<0))→X≤Y→mkRat (pS (decide (b.num<0)) (Y-X)) B=a+b):=by
 refine⟨fun h => ?_,fun h hx => ?_,fun h hx => ?_⟩
 ·conv=>rhs;rw[←ha,←hb,DL _ _ hB,←h,OH]
 ·conv=>rhs;rw[←ha,←hb,DL _ _ hB,Ul h hx]
 ·conv=>rhs;rw[←ha,←hb,DL _ _ hB,Tg h hx]
theorem L7 (a b:Rat) (hka:dL a≤1099511627776) (SH:dL b≤1099511627776):TC 99 [bE a,bE b] (bE (a+b)):=by
 refine TC.walk ⟨true,false⟩ HC rfl (Nat.le_of_ble_eq_true rfl) (by simp[aM,gS]) (Bd _) ?_
 have ca:=kJ a
 have cb:=kJ b
 by_cases ha0:a.num=0
 ·have:a=0:=Rat.num_eq_zero.1 ha0
  rw[lD ha0] at ca
  rw[this,Rat.zero_add,←this]
  simp only[fZ,eV,ca,cb,aH,fD,cW,aS,aT,aO,kC,Nat.reduceLeDiff,Nat.reduceLT,Nat.reduceSub,VX,Nat.reduceEqDiff,Nat.reduceAdd]
  exact Ah _
 have hsa:¬kR a=0:=fun h=>ha0 (Rat.num_eq_zero.2 (Lw.1 h))
 by_cases SF:b.num=0
 ·have:b=0:=Rat.num_eq_zero.1 SF
  rw[lD SF] at cb
  rw[this,Rat.add_zero,←this]
  simp only[fZ,eV,ca,cb,hsa,aH,fD,cW,aS,aT,aO,kC,Nat.reduceLeDiff,Nat.reduceLT,Nat.reduceSub,VX,Nat.reduceEqDiff,Nat.reduceAdd]
  exact Ah _
 have hsb:¬kR b=0:=fun h=>SF (Rat.num_eq_zero.2 (Lw.1 h))
 have la:=BC hka
 have lb:=BC SH
 have lda:=BI hka
 have ldb:=BI SH
 have fin:∀(X Y B:Nat),bl X≤2199023255552→bl Y≤2199023255552→bl B≤2199023255552→B≠0→mkRat (pS (decide (a.num<0)) X) B=a→mkRat (pS (decide (b.num<0)) Y) B=b →
   TC 174 [bL X,bL Y] (bL (X+Y))∧TC 170 [bL X,bL Y] (VI (fF X Y)) ∧
   (Y≤X→TC 181 [bL X,bL Y] (bL (X-Y)))∧(X≤Y→TC 181 [bL Y,bL X] (bL (Y-X))) ∧
   (∀neg,TC 100 [VB neg,bL (X+Y),bL B] (bE (mkRat (pS neg (X+Y)) B))) ∧
   (∀neg,TC 100 [VB neg,bL (X-Y),bL B] (bE (mkRat (pS neg (X-Y)) B))) ∧
   (∀neg,TC 100 [VB neg,bL (Y-X),bL B] (bE (mkRat (pS neg (Y-X)) B))):=by
  intro X Y B hX hY hB hB0 _ _
  refine⟨C5 X Y (gK (by omega)) (gK (by omega)),kA X Y (gK (by omega)) (gK (by omega)),fun h=>C4 X Y h (gK (by omega)),fun h=>C4 Y X h (gK (by omega)),fun neg=>AB neg _ _ hB0 ?_ (by omega),fun neg=>AB neg _ _ hB0 ?_ (by omega),fun neg=>AB neg _ _ hB0 ?_ (by omega)⟩
  ·exact Nat.le_trans (Tl hX hY) (by omega)
  ·exact Nat.le_trans (pH (Nat.sub_le _ _)) (by omega)
  ·exact Nat.le_trans (pH (Nat.sub_le _ _)) (by omega)
 by_cases hd:a.den=b.den
 ·have hBn:=a.den_nz
  have cc:=kA a.den b.den (gK (by omega)) (gK (by omega))
  rw[show fF a.den b.den=0 from xC.2 hd] at cc
  have eb:mkRat (pS (decide (b.num<0)) b.num.natAbs) a.den=b:=by rw[hd,J1]
  obtain⟨f1,f2,f3,f4,f5,f6,f7⟩:=fin a.num.natAbs b.num.natAbs a.den (by omega) (by omega) (by omega) hBn (J1 a) eb
  obtain⟨p1,p2,p3⟩:=IB hBn (J1 a) eb
  by_cases hn:decide (a.num<0)=decide (b.num<0)
  ·have R1:(decide (a.num<0) == decide (b.num<0))=true:=by simpa using hn
   rw[←p1 hn]
   simp only[fZ,eV,ca,cb,hsa,hsb,cc,f1,f5,vV,B6,R1,aH,fD,oA,nR,rP,cW,aS,aT,aO,kC,Nat.reduceLeDiff,Nat.reduceLT,Nat.reduceSub,VX,Nat.reduceEqDiff,Nat.reduceAdd]
   exact Ah _
  ·have R1:(decide (a.num<0) == decide (b.num<0))=false:=by simpa using hn
   by_cases hx:(0:Int)≤fF a.num.natAbs b.num.natAbs
   ·have hle:b.num.natAbs≤a.num.natAbs:=by have := @wQ a.num.natAbs b.num.natAbs;omega
    have c3:=f3 hle
    rw[←p2 hn hle]
    simp only[fZ,eV,ca,cb,hsa,hsb,cc,f2,c3,f6,hx,vV,B6,R1,aH,fD,oA,nR,rP,cW,aS,aT,aO,kC,Nat.reduceLeDiff,Nat.reduceLT,Nat.reduceSub,VX,Nat.reduceEqDiff,Nat.reduceAdd]
    exact Ah _
   ·have hle:a.num.natAbs≤b.num.natAbs:=by have := @wQ a.num.natAbs b.num.natAbs;omega
    have c3:=f4 hle
    rw[←p3 hn hle]
    simp only[fZ,eV,ca,cb,hsa,hsb,cc,f2,c3,f7,hx,vV,B6,R1,aH,fD,oA,nR,rP,cW,aS,aT,aO,kC,Nat.reduceLeDiff,Nat.reduceLT,Nat.reduceSub,VX,Nat.reduceEqDiff,Nat.reduceAdd]
    exact Ah _
 ·have hBn:=Nat.mul_ne_zero a.den_nz b.den_nz
  have cc:=kA a.den b.den (gK (by omega)) (gK (by omega))
  have Mw:¬fF a.den b.den=0:=fun h=>hd (xC.1 h)
  have m1:=lX a.num.natAbs b.den (gK (by omega)) (gK (by omega))
  have m2:=lX b.num.natAbs a.den (gK (by omega)) (gK (by omega))
  have m3:=lX a.den b.den (gK (by omega)) (gK (by omega))
  have ea:mkRat (pS (decide (a.num<0)) (a.num.natAbs*b.den)) (a.den*b.den)=a:=Eg a b.den_nz
  have eb:mkRat (pS (decide (b.num<0)) (b.num.natAbs*a.den)) (a.den*b.den)=b:=by rw[Nat.mul_comm a.den];exact Eg b a.den_nz
  have k1:=sU a.num.natAbs b.den
  have k2:=sU b.num.natAbs a.den
  have k3:=sU a.den b.den
  obtain⟨f1,f2,f3,f4,f5,f6,f7⟩:=fin _ _ _ (by omega) (by omega) (by omega) hBn ea eb
  obtain⟨p1,p2,p3⟩:=IB hBn ea eb
  by_cases hn:decide (a.num<0)=decide (b.num<0)
  ·have R1:(decide (a.num<0) == decide (b.num<0))=true:=by simpa using hn
   rw[←p1 hn]
   simp only[fZ,eV,ca,cb,hsa,hsb,cc,Mw,m1,m2,m3,f1,f5,vV,B6,R1,aH,fD,oA,nR,rP,cW,aS,aT,aO,kC,Nat.reduceLeDiff,Nat.reduceLT,Nat.reduceSub,VX,Nat.reduceEqDiff,Nat.reduceAdd]
   exact Ah _
  ·have R1:(decide (a.num<0) == decide (b.num<0))=false:=by simpa using hn
   by_cases hx:(0:Int)≤fF (a.num.natAbs*b.den) (b.num.natAbs*a.den)
   ·have hle:b.num.natAbs*a.den≤a.num.natAbs*b.den:=by have := @wQ (a.num.natAbs*b.den) (b.num.natAbs*a.den);omega
    have c3:=f3 hle
    rw[←p2 hn hle]
    simp only[fZ,eV,ca,cb,hsa,hsb,cc,Mw,m1,m2,m3,f2,c3,f6,hx,vV,B6,R1,aH,fD,oA,nR,rP,cW,aS,aT,aO,kC,Nat.reduceLeDiff,Nat.reduceLT,Nat.reduceSub,VX,Nat.reduceEqDiff,Nat.reduceAdd]
    exact Ah _
   ·have hle:a.num.natAbs*b.den≤b.num.natAbs*a.den:=by have := @wQ (a.num.natAbs*b.den) (b.num.natAbs*a.den);omega
    have c3:=f4 hle
    rw[←p3 hn hle]
    simp only[fZ,eV,ca,cb,hsa,hsb,cc,Mw,m1,m2,m3,f2,c3,f7,hx,vV,B6,R1,aH,fD,oA,nR,rP,cW,aS,aT,aO,kC,Nat.reduceLeDiff,Nat.reduceLT,Nat.reduceSub,VX,Nat.reduceEqDiff,Nat.reduceAdd]
    exact Ah _
theorem Jh (q:Rat) : -1≤kR q∧kR q≤1:=by
 rcases Int.lt_trichotomy q.num 0 with h | h | h
 ·rw[nX h];omega
 ·rw[lD h];omega
 ·rw[oD h];omega
theorem TZ (m n:Nat) : -1≤fF m n∧fF m n≤1:=by
 rcases Nat.lt_trichotomy m n with h | h | h
 ·rw[fF,if_pos h];omega
 ·subst h;rw[fF,if_neg (by omega),if_pos rfl];omega
 ·rw[fF,if_neg (by omega),if_neg (by omega)];omega
theorem KE (a b:Rat) (hka:dL a≤1099511627776) (SH:dL b≤1099511627776):TC 206 [bE a,bE b] (VI (MU a b)):=by
 refine TC.walk ⟨true,false⟩ Hp rfl (Nat.le_of_ble_eq_true rfl) (by simp[aM,gS]) rfl ?_
 have ca:=kJ a
 have cb:=kJ b
 have la:=BC hka
 have lb:=BC SH
 have lda:=BI hka
 have ldb:=BI SH
 have k1:=sU a.num.natAbs b.den
 have k2:=sU b.num.natAbs a.den
 have m1:=lX a.num.natAbs b.den (gK (by omega)) (gK (by omega))
 have m2:=lX b.num.natAbs a.den (gK (by omega)) (gK (by omega))
 have c1:=kA (a.num.natAbs*b.den) (b.num.natAbs*a.den) (gK (by omega)) (gK (by omega))
 have ra:=Jh a
 have rb:=Jh b
 have rc:=TZ (a.num.natAbs*b.den) (b.num.natAbs*a.den)
 unfold MU
 by_cases hs:kR a=kR b
 ·rw[if_pos hs]
  have w:IntKind.i64.wrap (0-fF (a.num.natAbs*b.den) (b.num.natAbs*a.den)) = -fF (a.num.natAbs*b.den) (b.num.natAbs*a.den):=by rw[wrap64 (by omega) (by omega)];omega
  by_cases hn:a.num<0
  ·rw[if_pos hn]
   simp only[sY,pA,ca,cb,hs,m1,m2,c1,hn,w,aH,fD,oA,nR,rP,cW,aS,aT,aO,kC,Nat.reduceLeDiff,Nat.reduceLT,Nat.reduceSub,VX,Nat.reduceEqDiff,Nat.reduceAdd]
   exact aF rfl
  ·rw[if_neg hn]
   simp only[sY,pA,ca,cb,hs,m1,m2,c1,hn,aH,fD,oA,nR,rP,cW,aS,aT,aO,kC,Nat.reduceLeDiff,Nat.reduceLT,Nat.reduceSub,VX,Nat.reduceEqDiff,Nat.reduceAdd]
   exact aF rfl
 ·rw[if_neg hs]
  have w:IntKind.i64.wrap (kR a-kR b)=kR a-kR b:=wrap64 (by omega) (by omega)
  simp only[sY,pA,ca,cb,hs,w,aH,fD,oA,nR,rP,cW,aS,aT,aO,kC,Nat.reduceLeDiff,Nat.reduceLT,Nat.reduceSub,VX,Nat.reduceEqDiff,Nat.reduceAdd]
  exact aF rfl
theorem It (a:Rat) (hka:dL a≤1099511627776):TC 196 [bE a] (VB (decide (a=1))):=by
 refine TC.walk ⟨true,false⟩ FF rfl (Nat.le_of_ble_eq_true rfl) (by simp[aM,gS]) rfl ?_
 have c1:=KE a 1 hka (by rw[NO];decide)
 have c2:TC 97 [VI 1] (bE 1):=BT 1 (by decide) (by decide)
 by_cases h:MU a 1=0
 ·rw[decide_eq_true (Ot.1 h)]
  simp only[uI,qZ,c1,c2,h,aH,fD,cW,aS,aT,aO,kC,Nat.reduceLeDiff,Nat.reduceLT,Nat.reduceSub,VX,Nat.reduceEqDiff,Nat.reduceAdd]
  exact aF rfl
 ·rw[decide_eq_false (mt Ot.2 h)]
  simp only[uI,qZ,c1,c2,h,aH,fD,cW,aS,aT,aO,kC,Nat.reduceLeDiff,Nat.reduceLT,Nat.reduceSub,VX,Nat.reduceEqDiff,Nat.reduceAdd]
  exact aF rfl
end Go.PM
namespace Go.PM
theorem vI {n:Nat}:(0:Int)<((aC 1000000000 n).length:Int)↔n≠0:=by
 constructor
 ·intro h h0
  subst h0
  rw[bS] at h
  simp at h
 ·intro h
  have:=(lR (b:=1000000000) (by decide) (n:=n))
  have h2:aC 1000000000 n≠[]:=fun hx=>h (this.1 hx)
  have:=List.length_pos_iff.2 h2
  omega
theorem rC {n:Nat} (h:bl n≤4398046511104):(aC 1000000000 n).length<17592186044416:=by
 have:=agA n
 omega
theorem E9 (a b:Nat) (ha:(aC 1000000000 a).length<17592186044416) (hb:(aC 1000000000 b).length<17592186044416):TC 213 [bR a,bR b] (bR (Nat.gcd a b)):=by
 refine TC.walk ⟨true,false⟩ Mz rfl (Nat.le_of_ble_eq_true rfl) (by simp[aM,cB]) (nD _) ?_
 simp only[I7,E5,VX,Nat.reduceEqDiff,Nat.reduceAdd]
 refine aQ (fun(t:Nat×Nat) ρ H=>H=[]∧Nat.gcd t.1 t.2=Nat.gcd a b∧(aC 1000000000 t.1).length<17592186044416∧(aC 1000000000 t.2).length<17592186044416∧ρ 0=bR t.1∧ρ 1=bR t.2) (fun t=>t.2) (a,b) ⟨rfl,rfl,ha,hb,rfl,rfl⟩ ?_
 rintro⟨x,y⟩ ρ H ⟨rfl,hg,hx,hy,g0,g1⟩
 simp only at hg hx hy g0 g1
 by_cases hy0:y=0
 ·subst hy0
  have hl:¬(0:Int)<((aC 1000000000 0).length:Int):=by rw[vI];omega
  rw[Nat.gcd_zero_right] at hg
  simp only[xZ,g0,g1,cM,hl,VX,Nat.reduceEqDiff,Nat.reduceAdd]
  rw[hg]
  exact aF (cB _)
 ·have hl:(0:Int)<((aC 1000000000 y).length:Int):=vI.2 hy0
  have c3:=uG x y hy0 hx hy
  have hm:=Nat.mod_lt x (show 0<y by omega)
  simp only[xZ,g0,g1,cM,hl,c3,VX,Nat.reduceEqDiff,Nat.reduceAdd]
  refine⟨(y,x % y),hm,?_,hy,?_,rfl,rfl⟩
  ·simp only
   rw[←hg,Nat.gcd_comm x y,Nat.gcd_rec y x,Nat.gcd_comm]
  ·simp only
   have:=dZ (b:=1000000000) (by decide) (Nat.le_of_lt hm)
   omega
def bZ (q:Rat):VV := .agg [VB (decide (q.num<0)),bR q.num.natAbs,bR q.den]
theorem tG (q:Rat):aR (bZ q)=true:=by simp[bZ,aR,aM,cB,kE]
theorem Dy (q:Rat):gQ (bZ q)=true:=by simp[bZ,gQ,rA,nD,kE]
theorem OF {q:Rat} {neg:Bool} {t b:Nat} (h0:q.num<0↔neg=true) (h1:q.num.natAbs=t) (h2:q.den=b):bZ q = .agg [VB neg,bR t,bR b]:=by
 subst h1 h2
 unfold bZ
 congr 4
 cases neg<;>simp_all
theorem aN (n:Nat):bI (bR n)=true:=rfl
theorem bF (n:Nat):isAny (bR n)=false:=rfl
theorem aZ (n:Nat):aB (bR n)=[bR n]:=rfl
theorem kX (q:Rat):isAny (bZ q)=false:=rfl
theorem cL (q:Rat):aB (bZ q)=[VB (decide (q.num<0)),bR q.num.natAbs,bR q.den]:=rfl
theorem kB (q:Rat):dQ true 3 (bZ q) 0=some (bZ q):=rfl
theorem jY (q:Rat):dQ false 1 (bZ q) 0=some (VB (decide (q.num<0))):=rfl
theorem nF (q:Rat):dQ false 1 (bZ q) 1=some (bR q.num.natAbs):=rfl
theorem nC (q:Rat):dQ false 1 (bZ q) 2=some (bR q.den):=rfl
theorem wZ {H:aA} {neg:Bool} {t b:Nat}:fz depth H (.agg [VB neg,bR t,bR b])=some (.agg [VB neg,bR t,bR b]):=aF (by simp[aR,aM,cB,kE])
theorem GY {H:aA} (q:Rat):fz depth H (bZ q)=some (bZ q):=aF (tG q)
theorem Yf (n:Int):bZ (n:Rat) = .agg [VB (decide (n<0)),bR n.natAbs,bR 1]:=OF (by simp) (by simp) (by simp)
theorem J7 {n lo:Nat} {H:aA} {K:VV→aA→Prop} (h:(aC 1000000000 n).length≤17592186044416):cQ 178 [bR n,.tree [VI 1] (.cl 1)] lo H K=K (VI (fF n 1)) H:=by
 have c:=uQ n 1 h (by rw[DO (by decide) (by decide) (by decide)];simp)
 have e:bR 1 = .tree [VI 1] .op:=by rw[bR,DO (by decide) (by decide) (by decide)];rfl
 rw[e] at c
 exact TC.args c rfl (by simp only[aM,cB];rfl) (YM (aF (cB n)) (agE rfl)) (by simp only[List.flatMap_cons,List.flatMap_nil,Fz (cB n),Z8 (es:=[VI 1]) rfl,List.append_nil]) lo K
theorem dR {d:Int} {H:aA}:mB false [.int .i64 0] 1 [(0,VI d)] H=some (.tree [VI d] (.cl 1),H):=sQ
theorem fN {e:Nat} {es:List VV}:bI (.tree es (.cl e))=true:=rfl
theorem dP {k:TK} {es:List VV}:aB (.tree es k)=[.tree es k]:=rfl
theorem fL {k:TK} {es:List VV}:isAny (.tree es k)=false:=rfl
theorem OC {d:Nat} {H:aA}:fz (d+2) H (.tree [VI 1] (.cl 1))=some (bR 1):=by
 rw[ZG]
 unfold fz
 have:aR (.tree [VI 1] (.cl 1))=false:=by simp[aR]
 simp only[this,Bool.false_eq_true,if_false]
 rfl
theorem yW (neg:Bool) (t b:Nat) (hb:b≠0) (ht:bl t≤4398046511104) (uJ:bl b≤4398046511104):TC 164 [VB neg,bR t,bR b] (bZ (mkRat (pS neg t) b)):=by
 refine TC.walk ⟨true,false⟩ L9 rfl (Nat.le_of_ble_eq_true rfl) (by simp[aM,cB,aR,kE]) (Dy _) ?_
 have hg0:Nat.gcd t b≠0:=Nat.gcd_ne_zero_right hb
 have X7:bl (Nat.gcd t b)≤4398046511104:=Nat.le_trans (pH (Nat.gcd_le_right t (by omega))) uJ
 have c1:=E9 t b (rC ht) (rC uJ)
 have c2:=uG t _ hg0 (rC ht) (rC X7)
 have c3:=uG b _ hg0 (rC uJ) (rC X7)
 have c4:∀lo H K,_:=fun lo H K=>J7 (n:=Nat.gcd t b) (lo:=lo) (H:=H) (K:=K) (Nat.le_of_lt (rC X7))
 have S3:bZ (mkRat (pS neg t) b) = .agg [VB (neg&&decide (t / Nat.gcd t b≠0)),bR (t / Nat.gcd t b),bR (b / Nat.gcd t b)]:=by
  refine OF ?_ (by rw[KH hb,Aq]) (TU hb)
  rw[KH hb,Uz,Bool.and_eq_true,decide_eq_true_eq]
 rw[S3]
 by_cases h1:fF (Nat.gcd t b) 1=0
 ·have hg1:=xC.1 h1
  have e1:t / Nat.gcd t b=t:=by rw[hg1,Nat.div_one]
  have e2:b / Nat.gcd t b=b:=by rw[hg1,Nat.div_one]
  rw[e1,e2]
  cases neg with
  |
   false =>
   simp only[mX,jW,c1,c4,h1,dR,aN,bF,aZ,kC,Nat.reduceLeDiff,Nat.reduceLT,Nat.reduceSub,VX,Nat.reduceEqDiff,Nat.reduceAdd]
   exact wZ
  |
   true =>
   by_cases h0:t=0
   ·have hl:¬(0:Int)<((aC 1000000000 t).length:Int):=by rw[vI];omega
    simp only[mX,jW,c1,c4,h1,hl,cM,dR,aN,bF,aZ,kC,Nat.reduceLeDiff,Nat.reduceLT,Nat.reduceSub,VX,Nat.reduceEqDiff,Nat.reduceAdd]
    rw[h0]
    exact wZ
   ·have hl:(0:Int)<((aC 1000000000 t).length:Int):=vI.2 h0
    simp only[mX,jW,c1,c4,h1,hl,cM,dR,aN,bF,aZ,kC,Nat.reduceLeDiff,Nat.reduceLT,Nat.reduceSub,VX,Nat.reduceEqDiff,Nat.reduceAdd]
    rw[decide_eq_true h0]
    exact wZ
 ·cases neg with
  |
   false =>
   simp only[mX,jW,c1,c2,c3,c4,h1,dR,aN,bF,aZ,kC,Nat.reduceLeDiff,Nat.reduceLT,Nat.reduceSub,VX,Nat.reduceEqDiff,Nat.reduceAdd]
   exact wZ
  |
   true =>
   generalize t / Nat.gcd t b=t' at *
   by_cases h0:t'=0
   ·have hl:¬(0:Int)<((aC 1000000000 t').length:Int):=by rw[vI];omega
    simp only[mX,jW,c1,c2,c3,c4,h1,hl,cM,dR,aN,bF,aZ,kC,Nat.reduceLeDiff,Nat.reduceLT,Nat.reduceSub,VX,Nat.reduceEqDiff,Nat.reduceAdd]
    rw[h0]
    exact wZ
   ·have hl:(0:Int)<((aC 1000000000 t').length:Int):=vI.2 h0
    simp only[mX,jW,c1,c2,c3,c4,h1,hl,cM,dR,aN,bF,aZ,kC,Nat.reduceLeDiff,Nat.reduceLT,Nat.reduceSub,VX,Nat.reduceEqDiff,Nat.reduceAdd]
    rw[decide_eq_true h0]
    exact wZ
theorem EJ (n:Int) (h0 : -9223372036854775808<n) (h1:n≤9223372036854775807):TC 166 [VI n] (bZ (n:Rat)):=by
 refine TC.walk ⟨true,false⟩ MT rfl (Nat.le_of_ble_eq_true rfl) rfl (Dy _) ?_
 rw[Yf]
 by_cases h:n<0
 ·have w:IntKind.i64.wrap (0-n)=(n.natAbs:Int):=wrapN _ (by omega) (by omega)
  have c1:TC 161 [VI (n.natAbs:Int)] (bR n.natAbs):=qE (n.natAbs:Int) (by omega)
  rw[decide_eq_true h]
  simp only[DC,Aw,h,w,c1,dR,aN,bF,aZ,fN,dP,fL,kC,Nat.reduceLeDiff,Nat.reduceLT,Nat.reduceSub,VX,Nat.reduceEqDiff,Nat.reduceAdd]
  exact qG (d:=6) (ZK rfl) (aJ (cB _)) (OC (d:=5))
 ·have c1:TC 161 [VI n] (bR n.natAbs):=by
   have:=qE n h1
   rwa [show n.toNat=n.natAbs by omega] at this
  rw[decide_eq_false h]
  simp only[DC,Aw,h,c1,dR,aN,bF,aZ,fN,dP,fL,kC,Nat.reduceLeDiff,Nat.reduceLT,Nat.reduceSub,VX,Nat.reduceEqDiff,Nat.reduceAdd]
  exact qG (d:=6) (ZK rfl) (aJ (cB _)) (OC (d:=5))
theorem My:TC 124 [] (bZ 1):=by
 refine TC.walk ⟨true,false⟩ Mx rfl (Nat.le_of_ble_eq_true rfl) rfl (Dy _) ?_
 have c1:TC 166 [VI 1] (bZ 1):=EJ 1 (by decide) (by decide)
 simp only[I6,EU,c1,cL,kB,kX,aN,kC,Nat.reduceLeDiff,Nat.reduceLT,Nat.reduceSub,VX,Nat.reduceEqDiff,Nat.reduceAdd]
 exact GY _
theorem Dc:TC 136 [] (bZ 0):=by
 refine TC.walk ⟨true,false⟩ Ms rfl (Nat.le_of_ble_eq_true rfl) rfl (Dy _) ?_
 have c1:TC 166 [VI 0] (bZ 0):=EJ 0 (by decide) (by decide)
 simp only[GM,Df,c1,cL,kB,kX,aN,kC,Nat.reduceLeDiff,Nat.reduceLT,Nat.reduceSub,VX,Nat.reduceEqDiff,Nat.reduceAdd]
 exact GY _
theorem MH (a b:Rat) (hka:dL a≤1099511627776) (SH:dL b≤1099511627776):TC 94 [bZ a,bZ b] (bZ (a+b)):=by
 refine TC.walk ⟨true,false⟩ M4 rfl (Nat.le_of_ble_eq_true rfl) (by simp[aM,tG]) (Dy _) ?_
 have la:=BC hka
 have lb:=BC SH
 have lda:=BI hka
 have ldb:=BI SH
 have hBn:=Nat.mul_ne_zero a.den_nz b.den_nz
 have m1:=lL a.num.natAbs b.den (Nat.le_of_lt (rC (by omega))) (Nat.le_of_lt (rC (by omega)))
 have m2:=lL b.num.natAbs a.den (Nat.le_of_lt (rC (by omega))) (Nat.le_of_lt (rC (by omega)))
 have m3:=lL a.den b.den (Nat.le_of_lt (rC (by omega))) (Nat.le_of_lt (rC (by omega)))
 have ea:mkRat (pS (decide (a.num<0)) (a.num.natAbs*b.den)) (a.den*b.den)=a:=Eg a b.den_nz
 have eb:mkRat (pS (decide (b.num<0)) (b.num.natAbs*a.den)) (a.den*b.den)=b:=by rw[Nat.mul_comm a.den];exact Eg b a.den_nz
 have k1:=sU a.num.natAbs b.den
 have k2:=sU b.num.natAbs a.den
 have k3:=sU a.den b.den
 obtain⟨p1,p2,p3⟩:=IB hBn ea eb
 have hX:bl (a.num.natAbs*b.den)≤2199023255552:=by omega
 have hY:bl (b.num.natAbs*a.den)≤2199023255552:=by omega
 have hB:bl (a.den*b.den)≤4398046511104:=by omega
 generalize a.num.natAbs*b.den=X at *
 generalize b.num.natAbs*a.den=Y at *
 generalize a.den*b.den=B at *
 have f1:=HJ X Y (rC (by omega)) (rC (by omega))
 have f2:=uQ X Y (Nat.le_of_lt (rC (by omega))) (Nat.le_of_lt (rC (by omega)))
 have hS:bl (X+Y)≤4398046511104:=Nat.le_trans (Tl hX hY) (by decide)
 have hD1:bl (X-Y)≤4398046511104:=Nat.le_trans (pH (Nat.sub_le _ _)) (by omega)
 have hD2:bl (Y-X)≤4398046511104:=Nat.le_trans (pH (Nat.sub_le _ _)) (by omega)
 have f5:=fun neg=>yW neg (X+Y) B hBn hS hB
 have f6:=fun neg=>yW neg (X-Y) B hBn hD1 hB
 have f7:=fun neg=>yW neg (Y-X) B hBn hD2 hB
 by_cases hn:decide (a.num<0)=decide (b.num<0)
 ·have R1:(decide (a.num<0) == decide (b.num<0))=true:=by simpa using hn
  rw[←p1 hn]
  simp only[zV,uN,m1,m2,m3,f1,f5,vV,B6,R1,cL,kB,jY,nF,nC,kX,aN,bF,aZ,kC,Nat.reduceLeDiff,Nat.reduceLT,Nat.reduceSub,VX,Nat.reduceEqDiff,Nat.reduceAdd]
  exact GY _
 ·have R1:(decide (a.num<0) == decide (b.num<0))=false:=by simpa using hn
  by_cases hx:(0:Int)≤fF X Y
  ·have hle:Y≤X:=by have := @wQ X Y;omega
   have c3:=Af X Y hle (Nat.le_of_lt (rC (by omega)))
   rw[←p2 hn hle]
   simp only[zV,uN,m1,m2,m3,f2,c3,f6,hx,vV,B6,R1,cL,kB,jY,nF,nC,kX,aN,bF,aZ,kC,Nat.reduceLeDiff,Nat.reduceLT,Nat.reduceSub,VX,Nat.reduceEqDiff,Nat.reduceAdd]
   exact GY _
  ·have hle:X≤Y:=by have := @wQ X Y;omega
   have c3:=Af Y X hle (Nat.le_of_lt (rC (by omega)))
   rw[←p3 hn hle]
   simp only[zV,uN,m1,m2,m3,f2,c3,f7,hx,vV,B6,R1,cL,kB,jY,nF,nC,kX,aN,bF,aZ,kC,Nat.reduceLeDiff,Nat.reduceLT,Nat.reduceSub,VX,Nat.reduceEqDiff,Nat.reduceAdd]
   exact GY _
theorem K6 (q:Rat):TC 141 [bZ q] (VB (decide (q=0))):=by
 refine TC.walk ⟨true,false⟩ KZ rfl (Nat.le_of_ble_eq_true rfl) (by simp[aM,tG]) rfl ?_
 by_cases h0:q=0
 ·have hl:(((aC 1000000000 q.num.natAbs).length:Nat):Int)=0:=by rw[h0];simp[bS]
  simp only[BR,xG,cM,hl,cL,jY,nF,nC,aN,bF,aZ,kC,Nat.reduceLeDiff,Nat.reduceLT,Nat.reduceSub,VX,Nat.reduceEqDiff,Nat.reduceAdd]
  rw[decide_eq_true h0]
  exact aF rfl
 ·have hn:q.num≠0:=fun h=>h0 (Rat.num_eq_zero.1 h)
  have hl:¬(((aC 1000000000 q.num.natAbs).length:Nat):Int)=0:=by have := @vI q.num.natAbs;omega
  simp only[BR,xG,cM,hl,cL,jY,nF,nC,aN,bF,aZ,kC,Nat.reduceLeDiff,Nat.reduceLT,Nat.reduceSub,VX,Nat.reduceEqDiff,Nat.reduceAdd]
  rw[decide_eq_false h0]
  exact aF rfl
theorem MS (q:Rat):TC 232 [bZ q] (VB (decide (q.num<0))):=by
 refine TC.walk ⟨true,false⟩ MK rfl (Nat.le_of_ble_eq_true rfl) (by simp[aM,tG]) rfl ?_
 simp only[I8,EE,cL,jY,aN,kC,Nat.reduceLeDiff,Nat.reduceLT,Nat.reduceSub,VX,Nat.reduceEqDiff,Nat.reduceAdd]
 exact aF rfl
end Go.PM
namespace Go.PM
open Go.Lib
theorem afJ {m n:Nat} (h:decDigits m=decDigits n):m=n:=by
 have key:∀k m n:Nat,m<10^(k+1)→decDigits m=decDigits n→m=n:=by
  intro k
  induction k with
  |
   zero =>
   intro m n hm h
   rw[iG (by omega)] at h
   by_cases hn:n<10
   ·rw[iG hn] at h
    have h1:=List.singleton_inj.1 h
    unfold d10 at h1
    have:=congrArg UInt8.toNat h1
    simp at this
    omega
   ·rw[zX hn] at h
    have:=congrArg List.length h
    have h2:=List.length_pos_iff.2 (O4 (n / 10))
    simp only[List.length_append,List.length_cons,List.length_nil] at this
    omega
  |
   succ k ih =>
   intro m n hm h
   by_cases h1:m<10
   ·rw[iG h1] at h
    by_cases hn:n<10
    ·rw[iG hn] at h
     have h1:=List.singleton_inj.1 h
     unfold d10 at h1
     have:=congrArg UInt8.toNat h1
     simp at this
     omega
    ·rw[zX hn] at h
     have:=congrArg List.length h
     have h2:=List.length_pos_iff.2 (O4 (n / 10))
     simp only[List.length_append,List.length_cons,List.length_nil] at this
     omega
   ·rw[zX h1] at h
    by_cases hn:n<10
    ·rw[iG hn] at h
     have:=congrArg List.length h
     have h2:=List.length_pos_iff.2 (O4 (m / 10))
     simp only[List.length_append,List.length_cons,List.length_nil] at this
     omega
    ·rw[zX hn] at h
     obtain⟨h2,h3⟩:=List.append_inj' h rfl
     have h4:=ih (m / 10) (n / 10) (by rw[Nat.pow_succ] at hm;omega) h2
     have h5:=List.singleton_inj.1 h3
     unfold d10 at h5
     have:=congrArg UInt8.toNat h5
     simp at this
     omega
 exact key m m n (Nat.lt_trans (Nat.lt_pow_self (by decide)) (Nat.pow_lt_pow_right (by decide) (Nat.lt_succ_self m))) h
def EO (q:Rat):List UInt8:=(if q.num<0 then [45] else [])++decDigits q.num.natAbs++(if q.den=1 then [] else 47::decDigits q.den)
def wE (q:Rat):Bool:=decide ((decDigits q.num.natAbs).length≤200)&&decide ((decDigits q.den).length≤200)
theorem AR (n:Nat):(decDigits n).length≤bl n+1:=by
 by_cases h:n=0
 ·subst h;rw[iG (by decide)];simp
 ·have h1:=alB h
  obtain⟨k,hk⟩:∃k,bl n=k+1:=⟨bl n-1,by omega⟩
  have h2:=NJ n
  rw[hk] at h2 ⊢
  have h3:2^(k+1)≤10^(k+1):=Nat.pow_le_pow_left (by decide) _
  have:=zF n k (by omega)
  omega
end Go.PM
namespace Go.PM
open Go.Lib
theorem Px (a b:List UInt8):dB .neq (.string ⟨a.toArray⟩) (.string ⟨b.toArray⟩)=some (.bool (!decide (a=b))):=by
 have h:∀l:List UInt8,(ByteArray.toList ⟨l.toArray⟩)=l:=fun l=>by rw[ByteArray.toList_eq]
 show some (Value.bool (!(ByteArray.toList ⟨a.toArray⟩ == ByteArray.toList ⟨b.toArray⟩)))=_
 rw[h,h]
 congr 3
 cases h2:a == b
 ·rw[decide_eq_false (by simpa using h2)]
 ·rw[decide_eq_true (by simpa using h2)]
theorem UI (a b:List UInt8):dB .eql (.string ⟨a.toArray⟩) (.string ⟨b.toArray⟩)=some (.bool (decide (a=b))):=by
 have h:∀l:List UInt8,(ByteArray.toList ⟨l.toArray⟩)=l:=fun l=>by rw[ByteArray.toList_eq]
 show some (Value.bool (ByteArray.toList ⟨a.toArray⟩ == ByteArray.toList ⟨b.toArray⟩))=_
 rw[h,h]
 congr 2
 cases h2:a == b
 ·rw[decide_eq_false (by simpa using h2)]
 ·rw[decide_eq_true (by simpa using h2)]
theorem Lu {n:Nat}:(decDigits n=[49])↔n=1:=by
 have e:decDigits 1=[49]:=by rw[iG (by decide)];rfl
 rw[←e]
 exact⟨afJ,fun h=>by rw[h]⟩
theorem JX (q:Rat) (hk:dL q≤1099511627776):TC 172 [bE q] (.dS [aU (EO q),VB (wE q)]):=by
 refine TC.walk ⟨true,false⟩ Gf rfl (Nat.le_of_ble_eq_true rfl) (by simp[aM,gS]) rfl ?_
 have la:=BC hk
 have lb:=BI hk
 have t1:=CA q.num.natAbs (aoF (by omega))
 have t2:=CA q.den (aoF (by omega))
 have d1:=AR q.num.natAbs
 have d2:=AR q.den
 have a1:dB .add (.string ⟨#[45]⟩) (.string ⟨(decDigits q.num.natAbs).toArray⟩)=some (.string ⟨(45::decDigits q.num.natAbs).toArray⟩):=qJ [45] _ (by simp only[List.length_cons,List.length_nil];omega)
 have a2:dB .add (.string ⟨#[47]⟩) (.string ⟨(decDigits q.den).toArray⟩)=some (.string ⟨(47::decDigits q.den).toArray⟩):=qJ [47] (decDigits q.den) (by simp only[List.length_cons,List.length_nil];omega)
 have a3:=qJ (45::decDigits q.num.natAbs) (47::decDigits q.den) (by simp only[List.length_cons];omega)
 have a4:=qJ (decDigits q.num.natAbs) (47::decDigits q.den) (by simp only[List.length_cons];omega)
 have ne:dB .neq (.string ⟨(decDigits q.den).toArray⟩) (.string ⟨#[49]⟩)=_:=Px (decDigits q.den) [49]
 have hf:wE q=(decide (((decDigits q.num.natAbs).length:Int)≤200)&&decide (((decDigits q.den).length:Int)≤200)):=by
  unfold wE
  congr 1<;>exact decide_eq_decide.2 (by omega)
 rw[hf]
 have hs:EO q=(if q.num<0 then (45::decDigits q.num.natAbs) else decDigits q.num.natAbs)++(if q.den=1 then [] else 47::decDigits q.den):=by
  unfold EO
  by_cases hn:q.num<0
  ·rw[if_pos hn,if_pos hn];rfl
  ·rw[if_neg hn,if_neg hn];rfl
 rw[hs]
 by_cases hd:q.den=1
 ·rw[decide_eq_true (Lu.2 hd)] at ne
  rw[if_pos hd,List.append_nil]
  by_cases hn:q.num<0<;>by_cases hl:((decDigits q.num.natAbs).length:Int)≤200
  all_goals
   simp only[vK,rX,t1,t2,a1,a2,a3,a4,ne,hn,hl,bK,aH,fD,oA,nR,rP,cW,aS,aT,aO,kC,Nat.reduceLeDiff,Nat.reduceLT,Nat.reduceSub,VX,Nat.reduceEqDiff,Nat.reduceAdd]
   exact aF rfl
 ·rw[decide_eq_false (mt Lu.1 hd)] at ne
  rw[if_neg hd]
  by_cases hn:q.num<0<;>by_cases hl:((decDigits q.num.natAbs).length:Int)≤200
  all_goals
   simp only[vK,rX,t1,t2,a1,a2,a3,a4,ne,hn,hl,bK,aH,fD,oA,nR,rP,cW,aS,aT,aO,kC,Nat.reduceLeDiff,Nat.reduceLT,Nat.reduceSub,VX,Nat.reduceEqDiff,Nat.reduceAdd]
   exact aF rfl
def QJ (q:Rat):VV:=if wE q=true then .dS [aU (EO q),VB true] else .dS [aU [],VB false]
theorem WM (q:Rat):gQ (QJ q)=true:=by unfold QJ;split<;>rfl
end Go.PM
namespace Go.PM
open Go.Lib
abbrev bV (b:UInt8):VV := .sc (.int .u8 (b.toNat:Int))
theorem Lf:∀bs:List UInt8,HO (bs.map bV)=some bs
 | []=>rfl
 |
  b::bs=>by
  rw[List.map_cons]
  show (HO (bs.map bV)).map (UInt8.ofNat ((b.toNat:Int)).toNat :: ·)=_
  rw[Lf bs]
  simp
structure FG (v:VV) (H:aA) (bs:List UInt8):Prop where
 len:pT v H=some (VI bs.length)
 src:cU 1 v H=some (bs.map bV)
 nsc:∀x,v ≠ .sc x
theorem FG.str {v:VV} {H:aA} {bs:List UInt8} (h:FG v H bs) {fl:Fl} {lo:Nat} {x:Operand} {ρ:dG} (hx:eE ρ x=v):vop fl lo (.b2s x) ρ H=some (aU bs,H):=by
 have h1:=h.nsc
 have h2:=h.src
 unfold vop
 dsimp only
 rw[hx]
 cases v with
 | sc x=>exact absurd rfl (h1 x)
 | _=>simp only[h2,Lf,Option.map_some]
theorem Wp {bs:List UInt8} {k:TK} {H:aA}:cU 1 (.tree (bs.map bV) k) H=some (bs.map bV):=by
 have:((bs.map bV).all fun x=>(aB x).length == 1&&(aB x).all bI)=true:=by
  rw[List.all_eq_true]
  intro x hx
  obtain⟨d,_,rfl⟩:=List.mem_map.1 hx
  rfl
 simp only[cU,this,if_true]
theorem FG.tree {bs:List UInt8} {k:TK} {H:aA}:FG (.tree (bs.map bV) k) H bs:=⟨eX,Wp,fun x=>by simp⟩
theorem FG.row {bs:List UInt8} {H:aA} {b g:Nat} {w:Bool} (h:aI H b g=some (bs.map bV,1,w)):FG (.ref b g 0 bs.length bs.length) H bs:=by
 refine⟨dU h,?_,fun x=>by simp⟩
 have lM:(((bs.map bV).drop 0).take bs.length).all (fun x=>(aB x).all bI)=true:=by
  rw[List.all_eq_true]
  intro x hx
  obtain⟨d,_,rfl⟩:=List.mem_map.1 (List.mem_of_mem_drop (List.mem_of_mem_take hx))
  rfl
 simp only[cU,h]
 rw[if_pos ⟨trivial,by simp,lM⟩,List.drop_zero,List.take_of_length_le (by simp)]
theorem FG.cons {v:VV} {H:aA} {bs:List UInt8} (h:FG v H bs) (x:UInt8) (hl:bs.length≤1000000) (lo:Nat):∃v' H',eR lo 1 1 (.tree [bV x] (.cl 1)) (bs.map bV) H=some (v',H')∧FG v' H' (x::bs):=by
 by_cases hb:bs=[]
 ·subst hb
  exact⟨_,_,rfl,FG.tree (bs:=[x])⟩
 ·have fH:bs.length≠0:=fun h=>hb (List.length_eq_zero_iff.1 h)
  refine⟨.ref H.length 0 0 (x::bs).length (x::bs).length,H++[.row 0 ((x::bs).map bV) 1 true],?_,FG.row (P5 rfl)⟩
  simp only[eR,List.length_map]
  rw[if_pos ⟨by decide,by decide⟩,if_pos trivial,if_neg fH,if_pos (by simp;omega)]
  simp[Nat.add_comm]
theorem Qn (r:Int):dB .rem (.int .i64 r) (.int .i64 10)=some (.int .i64 (r.tmod 10)):=rfl
theorem afX (r:Int) (h0 : -9223372036854775808≤r) (h1:r≤9223372036854775807):dB .quo (.int .i64 r) (.int .i64 10)=some (.int .i64 (r.tdiv 10)):=by
 show some (Value.int .i64 (IntKind.i64.wrap (r.tdiv 10)))=_
 have h2:(r.tdiv 10).natAbs=r.natAbs / 10:=by rw[Int.natAbs_tdiv];rfl
 rw[wrap64 (by omega) (by omega)]
theorem Nj {d:Nat} (h:d<10):(d10 d).toNat=48+d:=by
 unfold d10
 simp
 omega
theorem Iv {n r:Nat} {bs:List UInt8} (h:decDigits n=decDigits r++bs):decDigits n=lU (r / 10)++d10 (r % 10)::bs:=by
 rw[h]
 by_cases hr:r<10
 ·rw[iG hr,lU,if_pos (by omega),Nat.mod_eq_of_lt hr];rfl
 ·rw[zX hr,lU,if_neg (by omega),List.append_assoc];rfl
theorem MX (n:Int) (h0 : -9223372036854775808≤n) (h1:n≤9223372036854775807):TC 235 [VI n] (aU ((if n<0 then [45] else [])++decDigits n.natAbs)):=by
 refine TC.walk ⟨true,false⟩ MD rfl (Nat.le_of_ble_eq_true rfl) rfl rfl ?_
 have e0:∀lr,mB lr [.int .u8 0] 0 [] []=some (.ref 0 0 0 0 0,[.row 0 (([]:List UInt8).map bV) 1 true]):=fun lr=>jR (H:=[]) rfl
 have e1:∀(x:UInt8) (H:aA),mB false [.int .u8 0] 1 [(0,bV x)] H=some (.tree [bV x] (.cl 1),H):=fun x H=>iD rfl rfl rfl
 have hdl:=zF n.natAbs 19 (by omega)
 simp only[IU,EH,e0,VX,Nat.reduceEqDiff,Nat.reduceAdd]
 refine aQ (fun(s:Int×List UInt8) ρ H => -9223372036854775808≤s.1∧s.1≤9223372036854775807∧(s.2=[]→s.1=n)∧(s.2≠[]→decDigits n.natAbs=lU s.1.natAbs++s.2)∧FG (ρ 3) H s.2∧ρ 0=VI n∧ρ 4=VI s.1) (fun s=>s.1.natAbs+(if s.2=[] then 1 else 0)) (n,[]) ⟨h0,h1,fun _=>rfl,fun h=>absurd rfl h,by simp only[VX,Nat.reduceEqDiff,Nat.reduceAdd];exact FG.row (bs:=[]) bA,rfl,rfl⟩ ?_
 rintro⟨r,bs⟩ ρ H ⟨CB,IQ,hn,hd,ho,g0,g4⟩
 simp only at CB IQ hn hd ho g4
 generalize hv3:ρ 3=v3 at ho
 have hlen:=ho.len
 have Bm:=ho.src
 by_cases Mm:bs≠[]∧r=0
 ·obtain⟨hb,hr⟩:=Mm
  subst hr
  have hl:¬(bs.length:Int)=0:=by have:=List.length_pos_iff.2 hb;omega
  have YE:=hd hb
  simp only[lU,Int.natAbs_zero,if_true,List.nil_append] at YE
  by_cases kU:n<0
  ·obtain⟨v',H',ap,Zp⟩:=ho.cons 45 (by rw[←YE];omega) 0
   have V4:mB false [.int .u8 0] 1 [(0,.sc (.int .u8 45))] H=some (.tree [bV 45] (.cl 1),H):=e1 45 H
   have bs2:=fun bC (h:eE bC (.tmp 34)=v')=>Zp.str (fl:=⟨true,false⟩) (lo:=0) h
   simp only[jQ,g0,g4,hv3,hlen,hl,VX,Nat.reduceEqDiff,Nat.reduceAdd]
   simp only[g0,kU,hv3,V4,Bm,ap,Pc,VX,Nat.reduceEqDiff,Nat.reduceAdd]
   rw[bs2 _ (by rfl)]
   simp only[VX,Nat.reduceEqDiff,Nat.reduceAdd]
   rw[YE]
   exact aF rfl
  ·have bs2:=fun bC (h:eE bC (.tmp 34)=v3)=>ho.str (fl:=⟨true,false⟩) (lo:=0) h
   simp only[jQ,g0,g4,hv3,hlen,hl,VX,Nat.reduceEqDiff,Nat.reduceAdd]
   simp only[g0,kU,hv3,Pc,VX,Nat.reduceEqDiff,Nat.reduceAdd]
   rw[bs2 _ (by simp only[VX,Nat.reduceEqDiff,Nat.reduceAdd];try exact hv3)]
   simp only[VX,Nat.reduceEqDiff,Nat.reduceAdd]
   rw[YE]
   exact aF rfl
 ·have hm:r.tmod 10=if r<0 then -((r.natAbs % 10:Nat):Int) else ((r.natAbs % 10:Nat):Int):=by
   have:=Int.tmod_eq_emod_of_nonneg (a:=r) (b:=10)
   by_cases h:r<0
   ·rw[if_pos h]
    have h2:=Int.neg_tmod (-r) 10
    rw[Int.neg_neg] at h2
    rw[h2,Int.tmod_eq_emod_of_nonneg (by omega)]
    omega
   ·rw[if_neg h,this (by omega)]
    omega
  have hq:(r.tdiv 10).natAbs=r.natAbs / 10:=by rw[Int.natAbs_tdiv];rfl
  have hmd:=Nat.mod_lt r.natAbs (show 0<10 by decide)
  have q1:=afX r CB IQ
  have uJ:bs.length≤19:=by
   by_cases hb:bs=[]
   ·subst hb;simp
   ·have h2:=hd hb
    have h3:=congrArg List.length h2
    rw[List.length_append] at h3
    have h4:r≠0:=fun h=>Mm ⟨hb,h⟩
    have h5:=List.length_pos_iff.2 (O4 r.natAbs)
    rw[lU,if_neg (by omega)] at h3
    omega
  obtain⟨v',H',ap,Zp⟩:=ho.cons (d10 (r.natAbs % 10)) (by omega) 0
  have w2:IntKind.i64.wrap (48+((r.natAbs % 10:Nat):Int))=((48+r.natAbs % 10:Nat):Int):=wrapN _ (by omega) (by omega)
  have w3:IntKind.u8.wrap ((48+r.natAbs % 10:Nat):Int)=((48+r.natAbs % 10:Nat):Int):=by
   simp[IntKind.wrap,IntKind.bits,IntKind.signed]
   omega
  have hx:VV.sc (.int .u8 ((48+r.natAbs % 10:Nat):Int))=bV (d10 (r.natAbs % 10)):=by rw[bV,Nj hmd]
  have V4:=e1 (d10 (r.natAbs % 10)) H
  rw[←hx] at V4 ap
  have next:∃s':Int×List UInt8,s'.1.natAbs+(if s'.2=[] then 1 else 0)<r.natAbs+(if bs=[] then 1 else 0) ∧ -9223372036854775808≤s'.1∧s'.1≤9223372036854775807∧(s'.2=[]→s'.1=n)∧(s'.2≠[]→decDigits n.natAbs=lU s'.1.natAbs++s'.2)∧FG v' H' s'.2∧r.tdiv 10=s'.1:=by
   refine⟨(r.tdiv 10,d10 (r.natAbs % 10)::bs),?_,by simp only;omega,by simp only;omega,fun h=>(by simp at h),fun _ => ?_,Zp,rfl⟩
   ·simp only[hq,List.cons_ne_nil,if_false]
    by_cases hb:bs=[]
    ·rw[if_pos hb];omega
    ·have h4:r≠0:=fun h=>Mm ⟨hb,h⟩
     rw[if_neg hb];omega
   ·simp only[hq]
    by_cases hb:bs=[]
    ·subst hb
     refine Iv ?_
     rw[hn rfl,List.append_nil]
    ·have h4:r≠0:=fun h=>Mm ⟨hb,h⟩
     have h2:=hd hb
     rw[lU,if_neg (by omega)] at h2
     exact Iv h2
  by_cases hrn:r.tmod 10<0
  ·have w1:IntKind.i64.wrap (0-r.tmod 10)=((r.natAbs % 10:Nat):Int):=by
    have:r.tmod 10 = -((r.natAbs % 10:Nat):Int):=by
     by_cases h:r<0
     ·rw[if_pos h] at hm;exact hm
     ·rw[if_neg h] at hm;omega
    rw[this]
    exact wrapN _ (by omega) (by omega)
   by_cases hb:bs=[]
   ·have hl:(bs.length:Int)=0:=by rw[hb];rfl
    simp only[jQ,g0,g4,hv3,hlen,hl,Qn,q1,hrn,w1,w2,w3,V4,Bm,ap,VX,Nat.reduceEqDiff,Nat.reduceAdd]
    obtain⟨s',n1,n2,n3,n4,n5,n6,n7⟩:=next
    exact⟨s',n1,n2,n3,n4,n5,n6,by rw[n7]⟩
   ·have hl:¬(bs.length:Int)=0:=by have:=List.length_pos_iff.2 hb;omega
    have hr:¬r=0:=fun h=>Mm ⟨hb,h⟩
    simp only[jQ,g0,g4,hv3,hlen,hl,hr,Qn,q1,hrn,w1,w2,w3,V4,Bm,ap,VX,Nat.reduceEqDiff,Nat.reduceAdd]
    obtain⟨s',n1,n2,n3,n4,n5,n6,n7⟩:=next
    exact⟨s',n1,n2,n3,n4,n5,n6,by rw[n7]⟩
  ·have hmm:r.tmod 10=((r.natAbs % 10:Nat):Int):=by
    rw[hm] at hrn ⊢
    split
    ·rename_i h;rw[if_pos h] at hrn;omega
    ·rfl
   have apH:¬((r.natAbs % 10:Nat):Int)<0:=by omega
   by_cases hb:bs=[]
   ·have hl:(bs.length:Int)=0:=by rw[hb];rfl
    simp only[jQ,g0,g4,hv3,hlen,hl,Qn,hmm,q1,apH,w2,w3,V4,Bm,ap,VX,Nat.reduceEqDiff,Nat.reduceAdd]
    obtain⟨s',n1,n2,n3,n4,n5,n6,n7⟩:=next
    exact⟨s',n1,n2,n3,n4,n5,n6,by rw[n7]⟩
   ·have hl:¬(bs.length:Int)=0:=by have:=List.length_pos_iff.2 hb;omega
    have hr:¬r=0:=fun h=>Mm ⟨hb,h⟩
    simp only[jQ,g0,g4,hv3,hlen,hl,hr,Qn,hmm,q1,apH,w2,w3,V4,Bm,ap,VX,Nat.reduceEqDiff,Nat.reduceAdd]
    obtain⟨s',n1,n2,n3,n4,n5,n6,n7⟩:=next
    exact⟨s',n1,n2,n3,n4,n5,n6,by rw[n7]⟩
end Go.PM
namespace Go.PM
abbrev chV (c:List (List ByteArray)):VV := .agg [vS c]
def CS (n:Nat) (H:aA) (bare:Bool) (c:List (List ByteArray)) (r:VV):Prop:=∃c0,r = .agg [c0]∧xW n H bare c c0
theorem CS.bU {n:Nat} {H H':aA} {bare:Bool} {s:List (List ByteArray)} {c:VV} (h:CS n H bare s c) (hk:∀b g x,n<b→aI H b g=some x→aI H' b g=some x):CS n H' bare s c:=by
 obtain⟨c0,rfl,h0⟩:=h
 exact⟨c0,rfl,h0.bU hk⟩
theorem CS.pre {n:Nat} {H H':aA} {bare:Bool} {s:List (List ByteArray)} {c:VV} (h:CS n H bare s c) (hh:H <+: H'):CS n H' bare s c:=h.bU fun _ _ _ _=>bX hh
theorem CS.fz {n:Nat} {H:aA} {bare:Bool} {s:List (List ByteArray)} {c:VV} (h:CS n H bare s c):PM.fz depth H c=some (chV s):=by
 obtain⟨c0,rfl,h0⟩:=h
 have f0:=h0.fz (d:=4)
 have e:PM.fz (7+1) H (.agg [c0])=if aR (.agg [c0])=true then some (.agg [c0]) else ([c0].mapM (PM.fz 7 H)).map .agg:=rfl
 show PM.fz (7+1) H (.agg [c0])=_
 rw[e]
 by_cases hp:aR (.agg [c0])=true
 ·rw[if_pos hp]
  have hu:aR c0=true:=by simpa[aR,aM] using hp
  rw[aJ hu] at f0
  cases f0
  rfl
 ·rw[if_neg hp,List.mapM_cons,f0]
  rfl
end Go.PM
namespace Go.PM
open Go.Lib
def hJ (c:UInt8):Bool:=decide (48≤c.toNat)&&decide (c.toNat≤57)
def dv (c:UInt8):Nat:=c.toNat-48
def KL (a:Nat) (l:List UInt8):Nat:=l.foldl (fun a c=>a*10+dv c) a
def bP (l:List UInt8):Nat:=KL 0 l
theorem Ve (l:List UInt8):∀a,KL a l=a*10^l.length+bP l:=by
 induction l with
 | nil=>intro a;simp[KL,bP]
 |
  cons c l ih =>
  intro a
  have h1:KL a (c::l)=KL (a*10+dv c) l:=rfl
  have h2:bP (c::l)=KL (0*10+dv c) l:=rfl
  rw[h1,h2,ih,ih (0*10+dv c),List.length_cons,Nat.pow_succ]
  grind
theorem L5 (a b:List UInt8):bP (a++b)=bP a*10^b.length+bP b:=by
 have:bP (a++b)=KL (bP a) b:=by unfold bP KL;rw[List.foldl_append]
 rw[this,Ve]
theorem Mf:bP []=0:=rfl
theorem XM (a:List UInt8) (c:UInt8):bP (a++[c])=bP a*10+dv c:=by
 rw[L5]
 simp[bP,KL]
theorem agQ {c:UInt8} (h:hJ c=true):dv c<10:=by
 simp only[hJ,Bool.and_eq_true,decide_eq_true_eq] at h
 unfold dv
 omega
theorem GX:∀ {l:List UInt8},l.all hJ=true→bP l<10^l.length:=by
 intro l
 induction l with
 | nil=>intro _;decide
 |
  cons c l ih =>
  intro h
  rw[List.all_cons,Bool.and_eq_true] at h
  have h1:=agQ h.1
  have h2:=ih h.2
  have h3:bP (c::l)=KL (0*10+dv c) l:=rfl
  rw[h3,Ve,List.length_cons,Nat.pow_succ]
  have h4:(0*10+dv c)*10^l.length≤9*10^l.length:=Nat.mul_le_mul_right _ (by omega)
  omega
theorem ajZ {M:Nat} (hM:1000000000000000000≤M):∀(l:List UInt8) (k acc:Nat),l.all hJ=true→acc<10^k→k+l.length≤18→parseUintM M acc l = .ok (KL acc l):=by
 intro l
 induction l with
 | nil=>intro k acc _ _ _;rfl
 |
  cons c l ih =>
  intro k acc h hk hl
  rw[List.all_cons,Bool.and_eq_true] at h
  have h1:=agQ h.1
  have h0:=h.1
  simp only[hJ,Bool.and_eq_true,decide_eq_true_eq] at h0
  rw[List.length_cons] at hl
  have h18:acc<10^17:=Nat.lt_of_lt_of_le hk (Nat.pow_le_pow_right (by decide) (by omega))
  have e17:(10:Nat)^17=100000000000000000:=by decide
  rw[e17] at h18
  have hd:c.toNat-48=dv c:=rfl
  rw[parseUintM,if_pos h0,if_neg (by omega),hd,if_neg (by omega),ih (k+1) _ h.2 (by rw[Nat.pow_succ];omega) (by omega)]
  rfl
theorem aiA {l:List UInt8} (h:l.all hJ=true) (h0:l≠[]) (hl:l.length≤18):parseUintB 64 l = .ok (bP l):=by
 unfold parseUintB
 rw[if_neg h0]
 exact ajZ (by decide) l 0 0 h (by decide) (by omega)
def gV (l:List UInt8):Bool:=l.all hJ&&decide (1≤l.length)&&decide (l.length≤200)&&(decide (l.length=1) || !decide (l.getD 0 0=48))
theorem jJ {l:List UInt8}:gV l=true↔l.all hJ=true∧1≤l.length∧l.length≤200∧(l.length=1∨l.getD 0 0≠48):=by
 unfold gV
 simp only[Bool.and_eq_true,Bool.or_eq_true,Bool.not_eq_true',decide_eq_true_eq,decide_eq_false_iff_not,ne_eq,and_assoc]
theorem zB {l:List UInt8} (h:gV l=true):bl (bP l)≤665:=by
 obtain⟨h1,h2,h3,_⟩:=jJ.1 h
 refine GO (Nat.lt_of_lt_of_le (GX h1) ?_)
 exact Nat.le_trans (Nat.pow_le_pow_right (by decide) h3) (by decide +kernel)
def mA (c:UInt8):List UInt8→List UInt8×Option (List UInt8)
 | []=>([],none)
 | x::r=>if x=c then ([],some r) else (x::(mA c r).1,(mA c r).2)
theorem Bt {c:UInt8}:∀ {l:List UInt8},(mA c l).2=none→indexByte l c = -1∧(mA c l).1=l∧c∉l:=by
 intro l
 induction l with
 | nil=>intro _;exact⟨rfl,rfl,by simp⟩
 |
  cons x l ih =>
  intro h
  unfold mA at h ⊢
  by_cases hx:x=c
  ·rw[if_pos hx] at h
   cases h
  ·rw[if_neg hx] at h ⊢
   obtain⟨h1,h2,h3⟩:=ih h
   refine⟨?_,by rw[h2],?_⟩
   ·rw[indexByte,if_neg (by simpa using hx),h1]
    rfl
   ·rw[List.mem_cons,not_or]
    exact⟨fun h=>hx h.symm,h3⟩
theorem Ih {c:UInt8}:∀ {l r:List UInt8},(mA c l).2=some r→indexByte l c=((mA c l).1.length:Int)∧l=(mA c l).1++c::r∧c∉(mA c l).1:=by
 intro l
 induction l with
 | nil=>intro r h;cases h
 |
  cons x l ih =>
  intro r h
  unfold mA at h ⊢
  by_cases hx:x=c
  ·rw[if_pos hx] at h ⊢
   cases h
   subst hx
   refine⟨?_,rfl,by simp⟩
   rw[indexByte,if_pos (by simp)]
   rfl
  ·rw[if_neg hx] at h ⊢
   obtain⟨h1,h2,h3⟩:=ih h
   refine⟨?_,?_,?_⟩
   ·rw[indexByte,if_neg (by simpa using hx),h1,if_neg]
    ·simp
    ·simp
   ·conv=>lhs;rw[h2]
    rfl
   ·rw[List.mem_cons,not_or]
    exact⟨fun h=>hx h.symm,h3⟩
def oN (neg:Bool) (d:List UInt8) (s:Option (List UInt8)):Option Rat :=
 if gV d=false∨(neg=true∧bP d=0) then none else
 match s with
 | none=>some (mkRat (pS neg (bP d)) 1)
 | some t=>if gV t=true∧1<bP t∧Nat.gcd (bP d) (bP t)=1 then some (mkRat (pS neg (bP d)) (bP t)) else none
def isNeg (l:List UInt8):Bool:=decide (1≤l.length)&&decide (l.getD 0 0=45)
def zI (l:List UInt8):Option Rat:=oN (isNeg l) ((mA 47 (if isNeg l then l.drop 1 else l)).1) ((mA 47 (if isNeg l then l.drop 1 else l)).2)
theorem SK {neg:Bool} {d:List UInt8} {s:Option (List UInt8)} {q:Rat} (h:oN neg d s=some q):gV d=true∧¬(neg=true∧bP d=0)∧((s=none∧q=mkRat (pS neg (bP d)) 1)∨∃t,s=some t∧gV t=true∧1<bP t∧Nat.gcd (bP d) (bP t)=1∧q=mkRat (pS neg (bP d)) (bP t)):=by
 unfold oN at h
 split at h
 ·cases h
 ·rename_i hc
  rw[not_or] at hc
  refine⟨by simpa using hc.1,hc.2,?_⟩
  split at h
  ·exact .inl ⟨rfl,(Option.some.inj h).symm⟩
  ·rename_i t
   split at h
   ·rename_i ht
    exact .inr ⟨t,rfl,ht.1,ht.2.1,ht.2.2,(Option.some.inj h).symm⟩
   ·cases h
theorem Rp {neg:Bool} {d:List UInt8} {s:Option (List UInt8)} {q:Rat} (h:oN neg d s=some q):dL q≤665:=by
 obtain⟨h1,_,h3⟩:=SK h
 have hb:=zB h1
 rcases h3 with⟨_,rfl⟩ | ⟨t,_,h4,h5,_,rfl⟩
 ·exact Km (by rw[Aq];exact hb) (GO (by decide +kernel)) (by decide)
 ·exact Km (by rw[Aq];exact hb) (zB h4) (by omega)
theorem Tq {l:List UInt8} {q:Rat} (h:zI l=some q):dL q≤665:=Rp h
theorem IS {neg:Bool} {t b:Nat} (hb:b≠0) (hg:Nat.gcd t b=1):(mkRat (pS neg t) b).num=pS neg t∧(mkRat (pS neg t) b).den=b:=by
 rw[KH hb,TU hb,hg,Nat.div_one,Nat.div_one]
 exact⟨rfl,rfl⟩
theorem Fe {c:UInt8} {l:List UInt8}:isNeg (c::l)=decide (c=45):=by simp[isNeg]
theorem Y9 {l:List UInt8} (h:l.all hJ=true):(47:UInt8)∉l:=by
 intro hm
 have:=List.all_eq_true.1 h _ hm
 exact absurd this (by decide)
end Go.PM
namespace Go.PM
open Go.Lib
theorem C8 (l:List UInt8) {i:Nat} (h:i<l.length):GZ (.string ⟨l.toArray⟩) (.int .i64 (i:Int))=some (.int .u8 ((l.getD i 0).toNat:Int)):=by
 have hs:(⟨l.toArray⟩:ByteArray).size=l.length:=by simp[ByteArray.size]
 have e1:(0:Int)≤i∧(i:Int)<(l.length:Int):=by omega
 simp only[GZ,hs,e1,and_self,if_true,Int.toNat_natCast]
theorem Hs (l:List UInt8) (h:0<l.length):GZ (.string ⟨l.toArray⟩) (.int .i64 0)=some (.int .u8 ((l.getD 0 0).toNat:Int)):=C8 l h
theorem Gv (l:List UInt8) (a b:Nat):(⟨l.toArray⟩:ByteArray).extract a b=⟨((l.drop a).take (b-a)).toArray⟩:=by
 rw[ByteArray.ext_iff,ByteArray.data_extract]
 simp[List.extract_toArray,List.extract_eq_take_drop]
theorem Fv (l:List UInt8) {a:Nat} (h:a≤l.length):vF (aU l) (some (VI (a:Int))) none=some (aU (l.drop a)):=by
 have hs:(⟨l.toArray⟩:ByteArray).size=l.length:=by simp[ByteArray.size]
 have e2:(0:Int)≤a∧(a:Int)≤(l.length:Int):=by omega
 simp only[vF,FH,Ak,hs,eO,e2,and_self,if_true,Int.toNat_natCast,Gv]
 rw[List.take_of_length_le (by simp)]
theorem K9 (l:List UInt8) {b:Nat} (hb:b≤l.length):vF (aU l) none (some (VI (b:Int)))=some (aU (l.take b)):=by
 have hs:(⟨l.toArray⟩:ByteArray).size=l.length:=by simp[ByteArray.size]
 have e1:(0:Int)≤b∧(b:Int)≤(l.length:Int):=by omega
 simp only[vF,FH,Ak,hs,eO,e1,and_self,if_true,Int.toNat_natCast,Gv]
 rw[List.drop_zero,Nat.sub_zero]
theorem RY (l:List UInt8):dB .eql (.string ⟨l.toArray⟩) (.string ⟨#[]⟩)=some (.bool (decide (l=[]))):=UI l []
theorem Jm (l:List UInt8):dB .neq (.string ⟨l.toArray⟩) (.string ⟨#[]⟩)=some (.bool (!decide (l=[]))):=Px l []
theorem R2 (l:List UInt8):TC 229 [aU l,aU [45]] (VB (isNeg l)):=by
 refine TC.walk ⟨true,false⟩ rY rfl (Nat.le_of_ble_eq_true rfl) rfl rfl ?_
 have e1:A2 (.string ⟨#[45]⟩)=some (.int .i64 1):=rfl
 by_cases h:(1:Int)≤(l.length:Int)
 ·have e2:=K9 l (b:=1) (by omega)
  have e2:vF (aU l) none (some (VI 1))=some (aU (l.take 1)):=e2
  have e3:dB .eql (.string ⟨(l.take 1).toArray⟩) (.string ⟨#[45]⟩)=some (.bool (decide (l.take 1=[45]))):=UI (l.take 1) [45]
  have e4:isNeg l=decide (l.take 1=[45]):=by
   cases l with
   | nil=>exact absurd h (by decide)
   | cons c l=>rw[Fe];simp
  rw[e4]
  simp only[gO,gE,bK,e1,ge_iff_le,h,e2,e3,VX,Nat.reduceEqDiff,Nat.reduceAdd]
  exact aF rfl
 ·have e4:isNeg l=false:=by unfold isNeg;rw[decide_eq_false (by omega)];rfl
  rw[e4]
  simp only[gO,gE,bK,e1,ge_iff_le,h,VX,Nat.reduceEqDiff,Nat.reduceAdd]
  exact aF rfl
theorem Pl (l:List UInt8):TC 216 [aU l,aU [45]] (.dS [aU (if isNeg l then l.drop 1 else l),VB (isNeg l)]):=by
 refine TC.walk ⟨true,false⟩ sJ rfl (Nat.le_of_ble_eq_true rfl) rfl rfl ?_
 have e0:=R2 l
 have e1:A2 (.string ⟨#[45]⟩)=some (.int .i64 1):=rfl
 cases h:isNeg l with
 |
  true =>
  rw[h] at e0
  have hl:1≤l.length:=by
   cases l with
   | nil=>cases h
   | cons c l=>simp
  have e2:vF (aU l) (some (VI 1)) none=some (aU (l.drop 1)):=Fv l (a:=1) hl
  simp only[gP,fY,e0,e1,e2,VX,Nat.reduceEqDiff,Nat.reduceAdd]
  exact aF rfl
 |
  false =>
  rw[h] at e0
  simp only[gP,fY,e0,Bool.false_eq_true,if_false,VX,Nat.reduceEqDiff,Nat.reduceAdd]
  exact aF rfl
theorem St (l:List UInt8):TC 168 [aU l,aU [45]] (.dS [aU (if isNeg l then l.drop 1 else l),VB (isNeg l)]):=by
 refine TC.walk ⟨true,false⟩ EA rfl (Nat.le_of_ble_eq_true rfl) rfl rfl ?_
 have e0:=Pl l
 simp only[Ai,wA,e0,VX,Nat.reduceEqDiff,Nat.reduceAdd]
 exact aF rfl
theorem akJ (l:List UInt8) (hl:l.length≤1000000000000):TC 215 [aU l,aU [47]] (.dS [aU (mA 47 l).1,aU ((mA 47 l).2.getD []),VB (mA 47 l).2.isSome]):=by
 refine TC.walk ⟨true,false⟩ xY rfl (Nat.le_of_ble_eq_true rfl) rfl rfl ?_
 have e0:=acU l 47
 have e1:A2 (.string ⟨#[47]⟩)=some (.int .i64 1):=rfl
 cases h:(mA 47 l).2 with
 |
  none =>
  obtain⟨h1,h2,_⟩:=Bt h
  rw[h1] at e0
  rw[h2]
  simp only[kY,jS,e0,ge_iff_le,Int.reduceNeg,Int.reduceLE,VX,Nat.reduceEqDiff,Nat.reduceAdd]
  exact aF rfl
 |
  some r =>
  obtain⟨h1,h2,_⟩:=Ih h
  rw[h1] at e0
  generalize (mA 47 l).1=a at *
  subst h2
  rw[List.length_append,List.length_cons] at hl
  have h0:(0:Int)≤(a.length:Int):=by omega
  have e2:=K9 (a++47::r) (b:=a.length) (by simp)
  have e3:=Fv (a++47::r) (a:=a.length+1) (by simp)
  rw[List.take_left] at e2
  have ed:(a++47::r).drop (a.length+1)=r:=by rw[List.drop_append];simp
  rw[ed] at e3
  have w:IntKind.i64.wrap ((a.length:Int)+1)=((a.length+1:Nat):Int):=wrapN _ (by omega) (by omega)
  simp only[kY,jS,e0,e1,ge_iff_le,h0,w,e2,e3,VX,Nat.reduceEqDiff,Nat.reduceAdd]
  exact aF rfl
theorem amH (l:List UInt8) (hl:l.length≤1000000000000):TC 167 [aU l,aU [47]] (.dS [aU (mA 47 l).1,aU ((mA 47 l).2.getD []),VB (mA 47 l).2.isSome]):=by
 refine TC.walk ⟨true,false⟩ M0 rfl (Nat.le_of_ble_eq_true rfl) rfl rfl ?_
 have e0:=akJ l hl
 simp only[Jg,EM,e0,VX,Nat.reduceEqDiff,Nat.reduceAdd]
 exact aF rfl
def Bb (l:List UInt8):VV:=if gV l=true then .dS [bL (bP l),VB true] else .dS [bL 0,VB false]
theorem XJ (l:List UInt8):gQ (Bb l)=true:=by
 unfold Bb
 split<;>simp[gQ,rA,qA,kE]
theorem aiU {d:Nat}:fz (d+1) [.row 0 [] 1 true] (.ref 0 0 0 0 0)=some (bL 0):=by
 rw[DV]
 cases d with
 | zero=>rfl
 | succ d=>rfl
theorem KI {n:Nat} (hn:n≤9) {lo:Nat} {H:aA} {ρ:dG} {Q:VQ} (h58:ρ 58=VI n) (h59:ρ 59=VI 0) (h9:ρ 9=VK .u64 1) (hQ:∀bC,(∀t,t<9→bC t=ρ t)→bC 9=VK .u64 ((10^n:Nat):Int)→Q .normal bC H):VW ⟨true,false⟩ lo (.loop qF) (AA 4 Q) ρ H:=by
 refine aQ (fun(i:Nat) bC H'=>i≤n∧H'=H∧(∀t,t<9→bC t=ρ t)∧bC 58=VI n∧bC 59=VI i∧bC 9=VK .u64 ((10^i:Nat):Int)) (fun i=>n-i) 0 ⟨Nat.zero_le _,rfl,fun _ _=>rfl,h58,h59,h9⟩ ?_
 rintro i bC H' ⟨hi,rfl,hk,g58,g59,g9⟩
 by_cases cN:(i:Int)<(n:Int)
 ·have wi:IntKind.i64.wrap ((i:Int)+1)=((i+1:Nat):Int):=wrapN (i+1) (by omega) (by omega)
  have hp:10^i≤10^8:=Nat.pow_le_pow_right (by decide) (by omega)
  have e8:(10:Nat)^8=100000000:=by decide
  have wp:IntKind.u64.wrap (((10^i:Nat):Int)*10)=((10^(i+1):Nat):Int):=by
   rw[Nat.pow_succ]
   generalize 10^i=p at *
   have:=dW (p*10) (by omega)
   rw[Int.natCast_mul] at this
   rw[Int.natCast_mul]
   exact this
  simp only[qF,g58,g59,g9,cN,wi,wp,VX,Nat.reduceEqDiff,Nat.reduceAdd]
  refine⟨i+1,by omega,by omega,fun t ht => ?_,rfl,rfl⟩
  try simp only[uZ]
  repeat rw[if_neg (by omega)]
  exact hk t ht
 ·have oJ:i=n:=by omega
  subst oJ
  simp only[qF,g58,g59,cN,VX,Nat.reduceEqDiff,Nat.reduceAdd]
  refine hQ _ (fun t ht => ?_) ?_
  ·try simp only[uZ]
   repeat rw[if_neg (by omega)]
   exact hk t ht
  ·simp only[g9,VX,Nat.reduceEqDiff,Nat.reduceAdd]
theorem aaV {l:List UInt8} {i:Nat} (h:i<l.length):(l.take (i+1)).all hJ=((l.take i).all hJ&&hJ (l.getD i 0)):=by
 rw[List.take_add_one,List.all_append]
 have:l[i]? = some (l.getD i 0):=by rw[List.getElem?_eq_getElem h,List.getD_eq_getElem?_getD,List.getElem?_eq_getElem h];rfl
 rw[this]
 simp
theorem Lr {l:List UInt8} (hl:l.length≤1000000000000) {lo:Nat} {H:aA} {ρ:dG} {Q:VQ} (h0:ρ 0=aU l) (h29:ρ 29=VI l.length) (h30:ρ 30=VI 0)
  (hR:l.all hJ=false→∀bC:dG,bC 2 = .tree [] .nil→bC 3=VB false→Q .ret bC H) (hN:l.all hJ=true→∀bC:dG,(∀t,t<5→bC t=ρ t)→Q .normal bC H):VW ⟨true,false⟩ lo (.loop kG) (AA 0 Q) ρ H:=by
 refine aQ (fun(i:Nat) bC H'=>i≤l.length∧H'=H∧(l.take i).all hJ=true∧(∀t,t<5→bC t=ρ t)∧bC 29=VI l.length∧bC 30=VI i) (fun i=>l.length-i) 0 ⟨Nat.zero_le _,rfl,rfl,fun _ _=>rfl,h29,h30⟩ ?_
 rintro i bC H' ⟨hi,rfl,hd,hk,g29,g30⟩
 have g0:=(hk 0 (by decide)).trans h0
 by_cases cN:(i:Int)<(l.length:Int)
 ·have Uu:i<l.length:=by omega
  have e1:=C8 l Uu
  have wi:IntKind.i64.wrap ((i:Int)+1)=((i+1:Nat):Int):=wrapN (i+1) (by omega) (by omega)
  have ht:=aaV Uu
  rw[hd,Bool.true_and] at ht
  have S8:hJ (l.getD i 0)=(decide (48≤(l.getD i 0).toNat)&&decide ((l.getD i 0).toNat≤57)):=rfl
  have lM:hJ (l.getD i 0)=false→l.all hJ=false:=by
   intro h
   rw[h] at ht
   rw[←List.take_append_drop (i+1) l,List.all_append,ht,Bool.false_and]
  generalize (l.getD i 0).toNat=c at *
  by_cases q1:(c:Int)<48
  ·have:=lM (by rw[S8,decide_eq_false (by omega)];rfl)
   simp only[kG,g0,g29,g30,cN,e1,q1,VX,Nat.reduceEqDiff,Nat.reduceAdd]
   exact hR this _ (by simp only[VX,Nat.reduceEqDiff,Nat.reduceAdd]) (by simp only[VX,Nat.reduceEqDiff,Nat.reduceAdd])
  ·by_cases q2:(57:Int)<(c:Int)
   ·have:=lM (by rw[S8,decide_eq_false (show ¬c≤57 by omega),Bool.and_false])
    simp only[kG,g0,g29,g30,cN,e1,q1,q2,VX,Nat.reduceEqDiff,Nat.reduceAdd]
    exact hR this _ (by simp only[VX,Nat.reduceEqDiff,Nat.reduceAdd]) (by simp only[VX,Nat.reduceEqDiff,Nat.reduceAdd])
   ·rw[S8,decide_eq_true (by omega),decide_eq_true (by omega),Bool.and_self] at ht
    simp only[kG,g0,g29,g30,cN,e1,q1,q2,wi,VX,Nat.reduceEqDiff,Nat.reduceAdd]
    refine⟨i+1,by omega,by omega,ht,fun t ht => ?_,rfl⟩
    try simp only[uZ]
    repeat rw[if_neg (by omega)]
    exact hk t ht
 ·have oJ:i=l.length:=by omega
  subst oJ
  rw[List.take_length] at hd
  simp only[kG,g29,g30,cN,VX,Nat.reduceEqDiff,Nat.reduceAdd]
  refine hN hd _ fun t ht => ?_
  try simp only[uZ]
  repeat rw[if_neg (by omega)]
  exact hk t ht
set_option maxHeartbeats 2000000 in
theorem Lz {l:List UInt8} (hd:l.all hJ=true) (hl:l.length≤200) (fH:l≠[]) {ρ:dG} {Q:VQ} (h0:ρ 0=aU l) (h4:ρ 4 = .ref 0 0 0 0 0)
  (hQ:∀(bC:dG),bC 4=bL (bP l)→Q .normal bC [.row 0 [] 1 false]):VW ⟨true,false⟩ 0 (.loop nH) (AA 2 Q) ρ [.row 0 [] 1 true]:=by
 refine aQ (fun(s:List UInt8×List UInt8) bC H'=>l=s.1++s.2∧bC 0=aU s.2∧((H'=[.row 0 [] 1 true]∧bC 4 = .ref 0 0 0 0 0∧s.1=[])∨(H'=[.row 0 [] 1 false]∧bC 4=bL (bP s.1)))) (fun s=>s.2.length) ([],l) ⟨rfl,h0,.inl ⟨rfl,h4,rfl⟩⟩ ?_
 rintro⟨pre,rest⟩ bC H' ⟨RX,g0,hv⟩
 simp only at RX g0 hv
 have e1:=Jm rest
 by_cases he:rest=[]
 ·subst he
  rw[List.append_nil] at RX
  subst RX
  rcases hv with⟨_,_,h⟩ | ⟨rfl,g4⟩
  ·exact absurd h fH
  have V4:dB .neq (.string ⟨#[]⟩) (.string ⟨#[]⟩)=some (.bool false):=by
   have:=Jm []
   rw[decide_eq_true rfl] at this
   exact this
  simp only[nH,g0,V4,VX,Nat.reduceEqDiff,Nat.reduceAdd]
  exact hQ _ (by simp only[g4,VX,Nat.reduceEqDiff,Nat.reduceAdd])
 ·rw[RX,List.all_append,Bool.and_eq_true] at hd
  obtain⟨hd1,hd2⟩:=hd
  rw[RX,List.length_append] at hl
  have jT:0<rest.length:=List.length_pos_iff.2 he
  have V4:dB .neq (.string ⟨rest.toArray⟩) (.string ⟨#[]⟩)=some (.bool true):=by rw[e1,decide_eq_false he];rfl
  have wm:(rest.length:Int).tmod 9=((rest.length % 9:Nat):Int):=by rw[Int.tmod_eq_emod_of_nonneg (by omega)];simp
  have er:dB .rem (.int .i64 (rest.length:Int)) (.int .i64 9)=some (.int .i64 ((rest.length % 9:Nat):Int)):=by
   rw[←wm]
   rfl
  obtain⟨n,hn⟩:∃n,n=if rest.length % 9=0 then 9 else rest.length % 9:=⟨_,rfl⟩
  have hn1:1≤n∧n≤9∧n≤rest.length:=by
   rw[hn]
   split<;>omega
  obtain⟨n1,n9,nl⟩:=hn1
  have e2:=K9 rest nl
  have e3:=Fv rest nl
  have hch:(rest.take n).length=n:=by rw[List.length_take];omega
  have hcd:(rest.take n).all hJ=true:=by
   rw[←List.take_append_drop n rest,List.all_append,Bool.and_eq_true] at hd2
   exact hd2.1
  have hp:=acO (rest.take n) (bP (rest.take n)) (by omega) (aiA hcd (fun h=>by rw[h] at hch;simp at hch;omega) (by omega))
  have EX:=GX hcd
  rw[hch] at EX
  have hp9:10^n≤10^9:=Nat.pow_le_pow_right (by decide) n9
  have e9:(10:Nat)^9=1000000000:=by decide
  have aBA:bP (rest.take n)<1000000000:=by omega
  have c1:=mO (10^n) (by omega)
  have c2:=mO (bP (rest.take n)) (by omega)
  have hbp:bl (bP pre)≤665:=by
   refine GO (Nat.lt_of_lt_of_le (GX hd1) ?_)
   exact Nat.le_trans (Nat.pow_le_pow_right (by decide) (by omega:pre.length≤200)) (by decide +kernel)
  have hb9:bl (10^n)≤64:=GO (by omega)
  have hbm:=sU (bP pre) (10^n)
  have hbc:bl (bP (rest.take n))≤64:=GO (by omega)
  have tm:=lX (bP pre) (10^n) (gK (by omega)) (gK (by omega))
  have c4:=C5 (bP pre*10^n) (bP (rest.take n)) (gK (by omega)) (gK (by omega))
  have sG:bP pre*10^n+bP (rest.take n)=bP (pre++rest.take n):=by rw[L5,hch]
  rw[sG] at c4
  have fin:(rest.drop n).length<rest.length∧pre++rest=(pre++rest.take n)++rest.drop n:=⟨by rw[List.length_drop];omega,by rw[List.append_assoc,List.take_append_drop]⟩
  obtain⟨v4,g4,c3⟩:∃v4,bC 4=v4∧∀lo K,cQ 180 [v4,bL (10^n)] lo H' K=K (bL (bP pre*10^n)) [.row 0 [] 1 false]:=by
   rcases hv with⟨rfl,g4,hp0⟩ | ⟨rfl,g4⟩
   ·refine⟨_,g4,fun lo K => ?_⟩
    subst hp0
    have:=tm.G7 (H:=[.row 0 [] 1 true]) (args:=[.ref 0 0 0 0 0,bL (10^n)]) (lo:=lo) (k:=K) rfl (by simp[aM,bO]) (YM aiU (aJ (bO _))) rfl
    rw[this,show KC (bL (bP []*10^n))=false from rfl,if_neg (by decide),List.flatMap_cons,List.flatMap_cons,List.flatMap_nil,Fz (bO _),Nh (n:=0) (c:=0) (es:=[]) (e:=1) (w:=true) bA rfl rfl]
    rfl
   ·exact⟨_,g4,fun lo K=>tm lo [.row 0 [] 1 false] K⟩
  clear hv
  obtain⟨P,hP⟩:∃P,P=10^n:=⟨_,rfl⟩
  rw[←hP] at c1 c4 c3
  have hnI:(rest.length % 9:Nat)=0∨¬(rest.length % 9:Nat)=0:=by omega
  rcases hnI with h9 | h9
  ·rw[if_pos h9] at hn
   subst hn
   have q:((rest.length % 9:Nat):Int)=0:=by omega
   have e2':vF (aU rest) none (some (VI 9))=some (aU (rest.take 9)):=e2
   have e3':vF (aU rest) (some (VI 9)) none=some (aU (rest.drop 9)):=e3
   simp only[nH,g0,g4,V4,bK,er,q,e2',hp,VX,Nat.reduceEqDiff,Nat.reduceAdd]
   refine KI (n:=9) (by decide) ?_ ?_ ?_ fun wW k1 q9 => ?_
   ·simp only[VX,Nat.reduceEqDiff,Nat.reduceAdd];rfl
   ·simp only[VX,Nat.reduceEqDiff,Nat.reduceAdd]
   ·simp only[VX,Nat.reduceEqDiff,Nat.reduceAdd]
   rw[←hP] at q9
   have u0:wW 0=aU rest:=by rw[k1 0 (by decide)];simp only[g0,VX,Nat.reduceEqDiff,Nat.reduceAdd]
   have u4:wW 4=v4:=by rw[k1 4 (by decide)];simp only[g4,VX,Nat.reduceEqDiff,Nat.reduceAdd]
   have u6:wW 6=VI 9:=by rw[k1 6 (by decide)];simp only[VX,Nat.reduceEqDiff,Nat.reduceAdd]
   have u7:wW 7=VK .u64 (bP (rest.take 9)):=by rw[k1 7 (by decide)];simp only[VX,Nat.reduceEqDiff,Nat.reduceAdd]
   simp only[u0,u4,u6,u7,q9,c1,c2,c3,c4,e3',VX,Nat.reduceEqDiff,Nat.reduceAdd]
   exact⟨(pre++rest.take 9,rest.drop 9),fin.1,RX.trans fin.2,rfl,.inr rfl⟩
  ·rw[if_neg h9] at hn
   rw[←hn] at er
   have q:¬(n:Int)=0:=by omega
   simp only[nH,g0,g4,V4,bK,er,q,e2,hp,VX,Nat.reduceEqDiff,Nat.reduceAdd]
   refine KI (n:=n) n9 ?_ ?_ ?_ fun wW k1 q9 => ?_
   ·simp only[VX,Nat.reduceEqDiff,Nat.reduceAdd]
   ·simp only[VX,Nat.reduceEqDiff,Nat.reduceAdd]
   ·simp only[VX,Nat.reduceEqDiff,Nat.reduceAdd]
   rw[←hP] at q9
   have u0:wW 0=aU rest:=by rw[k1 0 (by decide)];simp only[g0,VX,Nat.reduceEqDiff,Nat.reduceAdd]
   have u4:wW 4=v4:=by rw[k1 4 (by decide)];simp only[g4,VX,Nat.reduceEqDiff,Nat.reduceAdd]
   have u6:wW 6=VI n:=by rw[k1 6 (by decide)];simp only[VX,Nat.reduceEqDiff,Nat.reduceAdd]
   have u7:wW 7=VK .u64 (bP (rest.take n)):=by rw[k1 7 (by decide)];simp only[VX,Nat.reduceEqDiff,Nat.reduceAdd]
   simp only[u0,u4,u6,u7,q9,c1,c2,c3,c4,e3,VX,Nat.reduceEqDiff,Nat.reduceAdd]
   exact⟨(pre++rest.take n,rest.drop n),fin.1,RX.trans fin.2,rfl,.inr rfl⟩
set_option maxHeartbeats 2000000 in
theorem DB (l:List UInt8) (hl:l.length≤1000000000000):TC 169 [aU l] (Bb l):=by
 refine TC.walk ⟨true,false⟩ Lj rfl (Nat.le_of_ble_eq_true rfl) rfl (XJ l) ?_
 have e1:=RY l
 by_cases he:l=[]
 ·have hk:gV l=false:=by rw[he];rfl
  have V4:dB .eql (.string ⟨l.toArray⟩) (.string ⟨#[]⟩)=some (.bool true):=by rw[e1,decide_eq_true he]
  unfold Bb
  rw[hk]
  simp only[oW,lQ,V4,Bool.false_eq_true,if_false,VX,Nat.reduceEqDiff,Nat.reduceAdd]
  exact bN (d:=6) wK (aJ (v:=VB false) rfl)
 have jT:0<l.length:=List.length_pos_iff.2 he
 by_cases afE:(200:Int)<(l.length:Int)
 ·have hk:gV l=false:=by
   cases h:gV l with
   | false=>rfl
   | true=>have:=(jJ.1 h).2.2.1;omega
  unfold Bb
  rw[hk]
  simp only[oW,lQ,e1,he,decide_false,bK,afE,Bool.false_eq_true,if_false,VX,Nat.reduceEqDiff,Nat.reduceAdd]
  exact bN (d:=6) wK (aJ (v:=VB false) rfl)
 have e2:=Hs l jT
 by_cases hz:(((l.getD 0 0).toNat:Int)=48∧1<(l.length:Int))
 ·obtain⟨Hg,SA⟩:=hz
  have hk:gV l=false:=by
   cases h:gV l with
   | false=>rfl
   |
    true =>
    rcases(jJ.1 h).2.2.2 with h1 | h1
    ·omega
    ·exact absurd (UInt8.toNat_inj.1 (by rw[show (48:UInt8).toNat=48 from rfl];omega)) h1
  unfold Bb
  rw[hk]
  simp only[oW,lQ,e1,he,decide_false,bK,afE,e2,Hg,SA,Bool.false_eq_true,if_false,VX,Nat.reduceEqDiff,Nat.reduceAdd]
  exact bN (d:=6) wK (aJ (v:=VB false) rfl)
 have anL:l.length=1∨l.getD 0 0≠48:=by
  by_cases h1:l.length=1
  ·exact .inl h1
  ·right
   intro h2
   apply hz
   rw[h2]
   exact⟨rfl,by omega⟩
 have e3:∀lr,mB lr [.int .u32 0] 0 [] []=some (.ref 0 0 0 0 0,[.row 0 [] 1 true]):=fun lr=>jR (H:=[]) (lr:=lr) (z:=[.int .u32 0]) rfl
 have kN:l.all hJ=true→gV l=true:=fun h=>jJ.2 ⟨h,jT,by omega,anL⟩
 have kF:l.all hJ=false→gV l=false:=fun h=>by unfold gV;rw[h];rfl
 have rF:gV l=false→Bb l = .dS [bL 0,VB false]:=fun h=>by unfold Bb;rw[h];rfl
 have rT:gV l=true→Bb l = .dS [bL (bP l),VB true]:=fun h=>if_pos h
 by_cases hA:(((l.getD 0 0).toNat:Int)=48)
 ·have hB:¬1<(l.length:Int):=fun h=>hz ⟨hA,h⟩
  simp only[oW,lQ,e1,e3,he,decide_false,bK,afE,e2,hA,hB,Bool.false_eq_true,if_false,VX,Nat.reduceEqDiff,Nat.reduceAdd]
  refine Lr hl ?_ ?_ ?_ (fun hd wW g2 g3 => ?_) fun hd wW k1 => ?_
  ·simp only[VX,Nat.reduceEqDiff,Nat.reduceAdd]
  ·simp only[VX,Nat.reduceEqDiff,Nat.reduceAdd]
  ·simp only[VX,Nat.reduceEqDiff,Nat.reduceAdd]
  ·rw[rF (kF hd)]
   simp only[g2,g3,VX,Nat.reduceEqDiff,Nat.reduceAdd]
   exact bN (d:=6) wK (aJ (v:=VB false) rfl)
  ·rw[rT (kN hd)]
   simp only[VX,Nat.reduceEqDiff,Nat.reduceAdd]
   refine Lz hd (by omega) he ?_ ?_ fun N8 g4 => ?_
   ·rw[k1 0 (by decide)];simp only[VX,Nat.reduceEqDiff,Nat.reduceAdd]
   ·rw[k1 4 (by decide)];simp only[VX,Nat.reduceEqDiff,Nat.reduceAdd]
   ·simp only[g4,VX,Nat.reduceEqDiff,Nat.reduceAdd]
    exact bN (d:=6) (aJ (bO _)) (aJ (v:=VB true) rfl)
 ·simp only[oW,lQ,e1,e3,he,decide_false,bK,afE,e2,hA,Bool.false_eq_true,if_false,VX,Nat.reduceEqDiff,Nat.reduceAdd]
  refine Lr hl ?_ ?_ ?_ (fun hd wW g2 g3 => ?_) fun hd wW k1 => ?_
  ·simp only[VX,Nat.reduceEqDiff,Nat.reduceAdd]
  ·simp only[VX,Nat.reduceEqDiff,Nat.reduceAdd]
  ·simp only[VX,Nat.reduceEqDiff,Nat.reduceAdd]
  ·rw[rF (kF hd)]
   simp only[g2,g3,VX,Nat.reduceEqDiff,Nat.reduceAdd]
   exact bN (d:=6) wK (aJ (v:=VB false) rfl)
  ·rw[rT (kN hd)]
   simp only[VX,Nat.reduceEqDiff,Nat.reduceAdd]
   refine Lz hd (by omega) he ?_ ?_ fun N8 g4 => ?_
   ·rw[k1 0 (by decide)];simp only[VX,Nat.reduceEqDiff,Nat.reduceAdd]
   ·rw[k1 4 (by decide)];simp only[VX,Nat.reduceEqDiff,Nat.reduceAdd]
   ·simp only[g4,VX,Nat.reduceEqDiff,Nat.reduceAdd]
    exact bN (d:=6) (aJ (bO _)) (aJ (v:=VB true) rfl)
def GJ:VV := .agg [VB false,bL 0,bL 0]
def CX (l:List UInt8):VV:=match zI l with
 | some q => .dS [bE q,VB true]
 | none => .dS [GJ,VB false]
theorem Wy:aR GJ=true:=by simp[GJ,aR,aM,bO,kE]
theorem KN:gQ GJ=true:=by simp[GJ,gQ,rA,qA,kE]
theorem SS (l:List UInt8):gQ (CX l)=true:=by
 unfold CX
 split<;>simp[gQ,rA,Bd,KN,kE]
theorem fW {d:Nat} {H:aA}:fz (d+2) H (.agg [VB false,.tree [] .nil,.tree [] .nil])=some GJ:=qG (aJ (v:=VB false) rfl) wK wK
theorem KF {neg:Bool} {t b:Nat} (hb:b≠0) (hg:Nat.gcd t b=1) (hn:¬(neg=true∧t=0)):bE (mkRat (pS neg t) b) = .agg [VB neg,bL t,bL b]:=by
 obtain⟨e1,e2⟩:=IS (neg:=neg) hb hg
 refine JZ ?_ (by rw[e1,Aq]) e2
 rw[e1]
 cases neg with
 | false=>unfold pS;simp
 |
  true =>
  have:t≠0:=fun h=>hn ⟨rfl,h⟩
  unfold pS
  simp
  omega
theorem SY (l:List UInt8):zI l=oN (isNeg (mA 47 l).1) (if isNeg (mA 47 l).1 then (mA 47 l).1.drop 1 else (mA 47 l).1) (mA 47 l).2:=by
 cases l with
 | nil=>rfl
 |
  cons c r =>
  unfold zI
  by_cases h47:c=47
  ·subst h47
   rfl
  ·have e:mA 47 (c::r)=(c::(mA 47 r).1,(mA 47 r).2):=by rw[mA,if_neg h47]
   by_cases h45:c=45
   ·subst h45
    rw[e]
    rfl
   ·rw[e,Fe,Fe,decide_eq_false h45]
    simp only[Bool.false_eq_true,if_false,e]
theorem RB {c:UInt8}:∀ {l:List UInt8},(mA c l).1.length≤l.length∧∀t,(mA c l).2=some t→t.length≤l.length:=by
 intro l
 cases h:(mA c l).2 with
 | none=>rw[(Bt h).2.1];exact⟨Nat.le_refl _,fun t ht=>by cases ht⟩
 |
  some r =>
  have:=congrArg List.length (Ih h).2.1
  rw[List.length_append,List.length_cons] at this
  exact⟨by omega,fun t ht=>by cases ht;omega⟩
theorem NV {n:Nat}:(((aC 4294967296 n).length:Nat):Int)=0↔n=0:=by
 rw[←lR (b:=4294967296) (n:=n) (by decide),←List.length_eq_zero_iff]
 omega
set_option maxRecDepth 100000 in
set_option maxHeartbeats 4000000 in
theorem Dn (l:List UInt8) (hl:l.length≤1000000000000):TC 89 [aU l] (CX l):=by
 refine TC.walk ⟨true,false⟩ KR rfl (Nat.le_of_ble_eq_true rfl) rfl (SS l) ?_
 have e1:=amH l hl
 obtain⟨l1,l2⟩:=RB (c:=47) (l:=l)
 have hq:=SY l
 unfold CX
 rw[hq]
 clear hq
 generalize (mA 47 l).1=f at *
 generalize (mA 47 l).2=s2 at *
 have e2:=St f
 have ld:(if isNeg f=true then f.drop 1 else f).length≤f.length:=by split<;>simp
 generalize (if isNeg f=true then f.drop 1 else f)=d at *
 generalize isNeg f=neg at *
 have e3:=DB d (by omega)
 have c1:TC 101 [.sc (.int .u64 1)] (bL 1):=mO 1 (by decide)
 cases hd:gV d with
 |
  false =>
  have hp:oN neg d s2=none:=if_pos (.inl hd)
  rw[hp]
  unfold Bb at e3
  rw[hd,if_neg (by decide)] at e3
  simp only[eT,dC,e1,e2,e3,aH,kC,Nat.reduceLeDiff,Nat.reduceLT,Nat.reduceSub,VX,Nat.reduceEqDiff,Nat.reduceAdd]
  exact bN (d:=6) fW (aJ (v:=VB false) rfl)
 |
  true =>
  unfold Bb at e3
  rw[hd,if_pos rfl] at e3
  by_cases hz:neg=true∧bP d=0
  ·have hp:oN neg d s2=none:=if_pos (.inr hz)
   rw[hp]
   obtain⟨rfl,Ez⟩:=hz
   rw[Ez] at e3
   have Ac:(((aC 4294967296 0).length:Nat):Int)=0:=NV.2 rfl
   simp only[eT,dC,e1,e2,e3,dY,Ac,aH,kC,Nat.reduceLeDiff,Nat.reduceLT,Nat.reduceSub,VX,Nat.reduceEqDiff,Nat.reduceAdd]
   exact bN (d:=6) fW (aJ (v:=VB false) rfl)
  ·have hbt:=zB hd
   have Ac:neg=true→¬(((aC 4294967296 (bP d)).length:Nat):Int)=0:=fun h h0=>hz ⟨h,NV.1 h0⟩
   cases s2 with
   |
    none =>
    have hp:oN neg d none=some (mkRat (pS neg (bP d)) 1):=if_neg (by rw[hd];rintro(h | h);exact absurd h (by decide);exact hz h)
    rw[hp]
    simp only[]
    rw[KF (by decide) (Nat.gcd_one_right _) hz]
    cases neg with
    |
     false =>
     simp only[eT,dC,e1,e2,e3,c1,Option.isSome_none,Option.getD_none,aH,aT,aS,aO,kC,Nat.reduceLeDiff,Nat.reduceLT,Nat.reduceSub,VX,Nat.reduceEqDiff,Nat.reduceAdd]
     exact bN (d:=6) (qG (aJ (v:=VB false) rfl) (aJ (bO _)) (aJ (bO _))) (aJ (v:=VB true) rfl)
    |
     true =>
     have Ac:=Ac rfl
     simp only[eT,dC,e1,e2,e3,c1,dY,Ac,Option.isSome_none,Option.getD_none,aH,aT,aS,aO,kC,Nat.reduceLeDiff,Nat.reduceLT,Nat.reduceSub,VX,Nat.reduceEqDiff,Nat.reduceAdd]
     exact bN (d:=6) (qG (aJ (v:=VB true) rfl) (aJ (bO _)) (aJ (bO _))) (aJ (v:=VB true) rfl)
   |
    some t =>
    have e4:=DB t (by have:=l2 t rfl;omega)
    have hp:oN neg d (some t)=if gV t=true∧1<bP t∧Nat.gcd (bP d) (bP t)=1 then some (mkRat (pS neg (bP d)) (bP t)) else none:=if_neg (by rw[hd];rintro(h | h);exact absurd h (by decide);exact hz h)
    rw[hp]
    cases ht:gV t with
    |
     false =>
     rw[if_neg (fun h=>absurd h.1 (by decide))]
     unfold Bb at e4
     rw[ht,if_neg (by decide)] at e4
     cases neg with
     |
      false =>
      simp only[eT,dC,e1,e2,e3,e4,c1,Option.isSome_some,Option.getD_some,aH,aT,aS,aO,kC,Nat.reduceLeDiff,Nat.reduceLT,Nat.reduceSub,VX,Nat.reduceEqDiff,Nat.reduceAdd]
      exact bN (d:=6) fW (aJ (v:=VB false) rfl)
     |
      true =>
      have Ac:=Ac rfl
      simp only[eT,dC,e1,e2,e3,e4,c1,dY,Ac,Option.isSome_some,Option.getD_some,aH,aT,aS,aO,kC,Nat.reduceLeDiff,Nat.reduceLT,Nat.reduceSub,VX,Nat.reduceEqDiff,Nat.reduceAdd]
      exact bN (d:=6) fW (aJ (v:=VB false) rfl)
    |
     true =>
     have LP:=zB ht
     unfold Bb at e4
     rw[ht,if_pos rfl] at e4
     have c2:=kA (bP t) 1 (gK (by omega)) (gK (Nat.le_trans (GO (n:=1) (k:=1) (by decide)) (by decide)))
     have c3:=DM (bP d) (bP t) (gK (by omega)) (gK (by omega))
     by_cases h1:fF (bP t) 1≤0
     ·have hle:¬1<bP t:=fun h=>by unfold fF at h1;rw[if_neg (by omega),if_neg (by omega)] at h1;exact absurd h1 (by decide)
      rw[if_neg (fun h=>hle h.2.1)]
      cases neg with
      |
       false =>
       simp only[eT,dC,e1,e2,e3,e4,c1,c2,h1,Option.isSome_some,Option.getD_some,aH,aT,aS,aO,kC,Nat.reduceLeDiff,Nat.reduceLT,Nat.reduceSub,VX,Nat.reduceEqDiff,Nat.reduceAdd]
       exact bN (d:=6) fW (aJ (v:=VB false) rfl)
      |
       true =>
       have Ac:=Ac rfl
       simp only[eT,dC,e1,e2,e3,e4,c1,c2,h1,dY,Ac,Option.isSome_some,Option.getD_some,aH,aT,aS,aO,kC,Nat.reduceLeDiff,Nat.reduceLT,Nat.reduceSub,VX,Nat.reduceEqDiff,Nat.reduceAdd]
       exact bN (d:=6) fW (aJ (v:=VB false) rfl)
     ·have bB:1<bP t:=by
       rcases Nat.lt_or_ge 1 (bP t) with h | h
       ·exact h
       ·exfalso
        apply h1
        unfold fF
        split
        ·decide
        ·rw[if_pos (by omega)];decide
      have X7:bl (Nat.gcd (bP d) (bP t))≤665:=Nat.le_trans (pH (Nat.le_of_dvd (by omega) (Nat.gcd_dvd_right _ _))) LP
      have c4:=kA (Nat.gcd (bP d) (bP t)) 1 (gK (by omega)) (gK (Nat.le_trans (GO (n:=1) (k:=1) (by decide)) (by decide)))
      by_cases hg:Nat.gcd (bP d) (bP t)=1
      ·have h4:fF (Nat.gcd (bP d) (bP t)) 1=0:=by rw[hg];rfl
       rw[if_pos ⟨rfl,bB,hg⟩]
       simp only[]
       rw[KF (by omega) hg hz]
       cases neg with
       |
        false =>
        simp only[eT,dC,e1,e2,e3,e4,c1,c2,c3,c4,h1,h4,Option.isSome_some,Option.getD_some,aH,aT,aS,aO,kC,Nat.reduceLeDiff,Nat.reduceLT,Nat.reduceSub,VX,Nat.reduceEqDiff,Nat.reduceAdd]
        exact bN (d:=6) (qG (aJ (v:=VB false) rfl) (aJ (bO _)) (aJ (bO _))) (aJ (v:=VB true) rfl)
       |
        true =>
        have Ac:=Ac rfl
        simp only[eT,dC,e1,e2,e3,e4,c1,c2,c3,c4,h1,h4,dY,Ac,Option.isSome_some,Option.getD_some,aH,aT,aS,aO,kC,Nat.reduceLeDiff,Nat.reduceLT,Nat.reduceSub,VX,Nat.reduceEqDiff,Nat.reduceAdd]
        exact bN (d:=6) (qG (aJ (v:=VB true) rfl) (aJ (bO _)) (aJ (bO _))) (aJ (v:=VB true) rfl)
      ·have h4:¬fF (Nat.gcd (bP d) (bP t)) 1=0:=by
        unfold fF
        split<;>(try split)<;>first | decide | omega
       rw[if_neg (fun h=>hg h.2.2)]
       cases neg with
       |
        false =>
        simp only[eT,dC,e1,e2,e3,e4,c1,c2,c3,c4,h1,h4,Option.isSome_some,Option.getD_some,aH,aT,aS,aO,kC,Nat.reduceLeDiff,Nat.reduceLT,Nat.reduceSub,VX,Nat.reduceEqDiff,Nat.reduceAdd]
        exact bN (d:=6) fW (aJ (v:=VB false) rfl)
       |
        true =>
        have Ac:=Ac rfl
        simp only[eT,dC,e1,e2,e3,e4,c1,c2,c3,c4,h1,h4,dY,Ac,Option.isSome_some,Option.getD_some,aH,aT,aS,aO,kC,Nat.reduceLeDiff,Nat.reduceLT,Nat.reduceSub,VX,Nat.reduceEqDiff,Nat.reduceAdd]
        exact bN (d:=6) fW (aJ (v:=VB false) rfl)
end Go.PM
namespace Go.PM
open Go.Lib
theorem Jn {l:List UInt8} {q:Rat} (h:zI l=some q):CX l = .dS [bE q,VB true]:=by unfold CX;rw[h]
theorem Jb {l:List UInt8} (h:zI l=none):CX l = .dS [GJ,VB false]:=by unfold CX;rw[h]
theorem zW:aB GJ=[VB false,bL 0,bL 0]:=rfl
theorem B3:isAny GJ=false:=rfl
theorem G4:dQ true 3 GJ 0=some GJ:=rfl
end Go.PM
namespace Go.PM
open Go.Lib
end Go.PM
namespace Go.PM
open Go.Lib
theorem Mb {α:Type} {f:α→VV} {d e b g c:Nat} {xs:List α} {H:aA} {w:Bool} (hp:∀x,aR (f x)=true) (h:aI H b g=some (xs.map f,e,w)) (hc:xs.length≤c):fz (d+2) H (.ref b g 0 xs.length c)=some (aY f xs):=by
 have:aR (.ref b g 0 xs.length c)=false:=rfl
 unfold PM.fz
 simp only[this,h,Bool.false_eq_true,if_false]
 rw[if_pos ⟨by simp,hc⟩,List.drop_zero,List.take_of_length_le (by simp),mapM_pure (dV hp)]
 rfl
theorem acF {d:Nat} {H:aA}:fz (d+1) H (.tree [] .nil)=some (.tree [] .op):=by
 unfold PM.fz
 have:aR (.tree [] .nil)=false:=by simp[aR]
 simp[this]
theorem BZ {H:aA}:fz depth H (.dS [.tree [] .nil,VB false])=some (.dS [.tree [] .op,VB false]):=bN (d:=6) acF (aJ (v:=VB false) rfl)
theorem Dq {u v:VV} (hu:gQ u=true) (hv:gQ v=true):gQ (.dS [u,v])=true:=by simp only[gQ,rA,hu,hv,Bool.and_self]
theorem tY {u v:VV} (hu:aR u=true) (hv:aR v=true):aR (.dS [u,v])=true:=by simp only[aR,aM,hu,hv,Bool.and_self]
theorem ZO {u:VV} (hu:aR u=true):aM [u]=true:=by simp only[aM,hu,Bool.and_self]
theorem Db {u v:VV} (hu:aR u=true) (hv:aR v=true):aM [u,v]=true:=by simp only[aM,hu,hv,Bool.and_self]
def pQ (s:ByteArray):Option Rat:=zI s.data.toList
theorem Uq (s:ByteArray):sV s=aU s.data.toList:=rfl
def nE (xs:List ByteArray):Option (List Rat):=if xs.length≤300 then xs.mapM pQ else none
def L4 (o:Option (List Rat)):VV:=match o with
 | some qs => .dS [aY bE qs,VB true]
 | none => .dS [aY bE [],VB false]
theorem HD (q:Rat):(aB (bE q)).length=3:=rfl
theorem kZ (qs:List Rat):aR (aY bE qs)=true:=kI HD gS
theorem Xw (q:Rat):AE (bE q)=true:=by simp[AE,bE,bL]
theorem NW (qs:List Rat):gQ (aY bE qs)=true:=DP HD Bd Xw
theorem Hy (o:Option (List Rat)):gQ (L4 o)=true:=by
 unfold L4
 split
 ·exact Dq (NW _) rfl
 ·exact Dq (NW []) rfl
theorem Bz {α β:Type} {f:α→Option β} {xs:List α} {ys:List β} {x:α} {y:β} (h:xs.mapM f=some ys) (hx:f x=some y):(xs++[x]).mapM f=some (ys++[y]):=by
 rw[List.mapM_append,h]
 simp[hx]
theorem mapM_none {α β:Type} {f:α→Option β} {x:α} (hx:f x=none):∀ {xs:List α},x∈xs→xs.mapM f=none
 | [],h=>by cases h
 |
  y::xs,h=>by
  rw[List.mapM_cons]
  cases hy:f y with
  | none=>rfl
  |
   some z =>
   rcases List.mem_cons.1 h with rfl | h
   ·rw[hx] at hy;cases hy
   ·show ((xs.mapM f).bind fun zs=>some (z::zs))=none
    rw[mapM_none hx h];rfl
theorem mapM_mem {α β:Type} {f:α→Option β} {P:β→Prop} (hP:∀x y,f x=some y→P y):∀ {xs:List α} {ys:List β},xs.mapM f=some ys→∀y∈ys,P y
 | [],ys,h,y,hy=>by simp at h;subst h;cases hy
 |
  x::xs,ys,h,y,hy=>by
  rw[List.mapM_cons] at h
  cases hx:f x with
  | none=>rw[hx] at h;cases h
  |
   some z =>
   rw[hx] at h
   cases hs:xs.mapM f with
   | none=>rw[hs] at h;cases h
   |
    some zs =>
    rw[hs] at h
    cases h
    rcases List.mem_cons.1 hy with rfl | hy
    ·exact hP _ _ hx
    ·exact mapM_mem hP hs _ hy
theorem lO {α:Type} {xs:List α} {i:Nat} {x:α} (h:xs[i]? = some x):xs.take (i+1)=xs.take i++[x]:=by rw[List.take_add_one,h];rfl
theorem yG {xs:List ByteArray} {qs:List Rat} (h:nE xs=some qs):(∀q∈qs,dL q≤665)∧qs.length≤300∧qs.length=xs.length:=by
 unfold nE at h
 split at h
 ·rename_i hl
  have:=mZ h
  exact⟨mapM_mem (fun _ _ h=>Tq h) h,by omega,this⟩
 ·cases h
set_option maxHeartbeats 1000000 in
theorem R3 (xs:List ByteArray) (hn:xs.length≤1000000000) (hs:∀s∈xs,s.size≤1000000000):TC 145 [dT xs] (L4 (nE xs)):=by
 refine TC.walk ⟨true,false⟩ PW rfl (Nat.le_of_ble_eq_true rfl) (by simp[aM,dN]) (Hy _) ?_
 unfold nE
 by_cases SW:(300:Int)<(xs.length:Int)
 ·rw[if_neg (by omega)]
  simp only[HY,CQ,SW,VX,Nat.reduceEqDiff,Nat.reduceAdd]
  exact BZ
 rw[if_pos (by omega)]
 have e0:=fun H=>jR (H:=H) (lr:=false) (z:=[.bool false,.slice none 0 0,.slice none 0 0]) rfl
 simp only[HY,CQ,SW,e0,VX,Nat.reduceEqDiff,Nat.reduceAdd]
 refine F5 (fun(s:Nat×List Rat) ρ H=>s.1≤xs.length∧(xs.take s.1).mapM pQ=some s.2∧H=[.row s.1 (s.2.map bE) 3 true]∧ρ 4 = .ref 0 s.1 0 s.1 s.1∧ρ 13=dT xs∧ρ 14=VI xs.length∧ρ 15=VI s.1) (fun s=>xs.length-s.1) (0,[]) ⟨Nat.zero_le _,rfl,rfl,rfl,rfl,rfl,rfl⟩ ?_
 rintro⟨i,out⟩ ρ H ⟨hi,Dl,rfl,g4,g13,g14,g15⟩
 simp only at hi Dl g4 g15
 have iQ:out.length=i:=by rw[mZ Dl,List.length_take];omega
 by_cases cN:(i:Int)<(xs.length:Int)
 ·obtain⟨x,hx⟩:∃x,xs[i]? = some x:=⟨_,List.getElem?_eq_getElem (by omega)⟩
  have hxm:=List.mem_of_getElem? hx
  have e1:=fun H=>aK (f:=sV) (t := .op) (H:=H) (size:=1) (k := .i64) hx rfl
  have wi:IntKind.i64.wrap ((i:Int)+1)=((i+1:Nat):Int):=wrapN (i+1) (by omega) (by omega)
  have e2:=Dn x.data.toList (by have:=hs x hxm;rw[Array.length_toList];show x.size≤_;omega)
  rw[←Uq] at e2
  cases hp:pQ x with
  |
   none =>
   rw[Jb hp] at e2
   rw[mapM_none hp hxm]
   simp only[wS,g4,g13,g14,g15,cN,e1,e2,zW,B3,G4,aS,aT,aO,kC,Nat.reduceLeDiff,Nat.reduceLT,Nat.reduceSub,uX,dX,fP,lP,rI,tX,bne_iff_ne,ne_eq,not_false_eq_true,not_true_eq_false,VX,Nat.reduceEqDiff,Nat.reduceAdd]
   exact BZ
  |
   some q =>
   rw[Jn hp] at e2
   have eL:∀H,mB false [.bool false,.slice none 0 0,.slice none 0 0] 1 [(0,bE q)] H=some (.tree [bE q] (.cl 3),H):=fun H=>iD rfl rfl rfl
   have eS:∀H,cU 3 (.tree [bE q] (.cl 3)) H=some [bE q]:=fun H=>fA rfl rfl
   have eP:eR 0 3 56 (.ref 0 i 0 i i) [bE q] [.row i (out.map bE) 3 true,.row 0 [bE q] 3 true]=some (.ref 0 (i+1) 0 (i+1) (i+1),[.row (i+1) ((out++[q]).map bE) 3 true,.row 0 [bE q] 3 true]):=by
    rw[iB (f:=bE) (xs:=out) (by rw[bA]) iQ.symm (Nat.le_refl _) (by decide) (by decide) (by omega),List.set_cons_zero]
   simp only[wS,g4,g13,g14,g15,cN,e1,e2,eL,eS,eP,wi,aH,cW,fD,aS,aT,aO,kC,Nat.reduceLeDiff,Nat.reduceLT,Nat.reduceSub,uX,dX,fP,lP,rI,tX,bne_iff_ne,ne_eq,not_false_eq_true,not_true_eq_false,VX,Nat.reduceEqDiff,Nat.reduceAdd]
   refine⟨(i+1,out++[q]),by simp only;omega,?_,by simp only;omega,by simp only[lO hx];exact Bz Dl hp,rfl,?_⟩
   ·rw[xE (kV _ (dV gS)),DW]
   ·simp only[oK,g13,g14,vH (dN _),Ec (Nat.lt_succ_self 0),VX,Nat.reduceEqDiff,Nat.reduceAdd,List.take_zero,iF,List.all_nil,List.length_nil,oK,Gy,vH]
 ·have oJ:i=xs.length:=by omega
  subst oJ
  rw[List.take_length] at Dl
  rw[Dl]
  simp only[wS,g4,g13,g14,g15,cN,VX,Nat.reduceEqDiff,Nat.reduceAdd]
  refine bN (d:=6) ?_ (aJ (v:=VB true) rfl)
  have:=Mb (d:=5) (w:=true) (f:=bE) (e:=3) (b:=0) (g:=xs.length) (c:=xs.length) (xs:=out) (H:=[.row xs.length (out.map bE) 3 true]) gS (by rw[bA]) (by omega)
  rw[iQ] at this
  exact this
end Go.PM