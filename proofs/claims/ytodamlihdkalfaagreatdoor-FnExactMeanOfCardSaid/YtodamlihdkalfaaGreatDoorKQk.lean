/- Texts of a claim, in one: part 11. -/
import Derived.KernelRfl
import Derived.Test.YtodamlihdkalfaaGreatDoorKQj
set_option linter.unusedSimpArgs false
set_option linter.unusedVariables false
namespace Go.PM
theorem uS {n:Nat}:(0:Int)<((aC 1000000000 n).length:Int)↔n≠0:=by
 constructor
 ·intro h h0
  subst h0
  rw[bR] at h
  simp at h
 ·intro h
  have:=(kA (b:=1000000000) (by decide) (n:=n))
  have h2:aC 1000000000 n≠[]:=fun hx=>h (this.1 hx)
  have:=List.length_pos_iff.2 h2
  omega
theorem mG {n:Nat} (h:bl n≤4398046511104):(aC 1000000000 n).length<17592186044416:=by
 have:=Zx n
 omega
theorem CQ (a b:Nat) (ha:(aC 1000000000 a).length<17592186044416) (hb:(aC 1000000000 b).length<17592186044416):TC 213 [bP a,bP b] (bP (Nat.gcd a b)):=by
 refine TC.walk ⟨true,false⟩ JO rfl (Nat.le_of_ble_eq_true rfl) (by simp[aK,bU]) (lE _) ?_
 simp only[Gu,CL,VX,Nat.reduceEqDiff,Nat.reduceAdd]
 refine bB (fun(t:Nat×Nat) ρ H=>H=[]∧Nat.gcd t.1 t.2=Nat.gcd a b∧(aC 1000000000 t.1).length<17592186044416∧(aC 1000000000 t.2).length<17592186044416∧ρ 0=bP t.1∧ρ 1=bP t.2) (fun t=>t.2) (a,b) ⟨rfl,rfl,ha,hb,rfl,rfl⟩ ?_
 rintro⟨x,y⟩ ρ H ⟨rfl,hg,hx,hy,g0,g1⟩
 simp only at hg hx hy g0 g1
 by_cases X9:y=0
 ·subst X9
  have hl:¬(0:Int)<((aC 1000000000 0).length:Int):=by rw[uS];omega
  rw[Nat.gcd_zero_right] at hg
  simp only[uT,g0,g1,cI,hl,VX,Nat.reduceEqDiff,Nat.reduceAdd]
  rw[hg]
  exact aH (bU _)
 ·have hl:(0:Int)<((aC 1000000000 y).length:Int):=uS.2 X9
  have c3:=qT x y X9 hx hy
  have hm:=Nat.mod_lt x (show 0<y by omega)
  simp only[uT,g0,g1,cI,hl,c3,VX,Nat.reduceEqDiff,Nat.reduceAdd]
  refine⟨(y,x % y),hm,?_,hy,?_,rfl,rfl⟩
  ·simp only
   rw[←hg,Nat.gcd_comm x y,Nat.gcd_rec y x,Nat.gcd_comm]
  ·simp only
   have:=dD (b:=1000000000) (by decide) (Nat.le_of_lt hm)
   omega
def cN (q:Rat):VV := .agg [VB (decide (q.num<0)),bP q.num.natAbs,bP q.den]
theorem tQ (q:Rat):aW (cN q)=true:=by simp[cN,aW,aK,bU,lM]
theorem yL (q:Rat):gH (cN q)=true:=by simp[cN,gH,pE,lE,lM]
theorem MF {q:Rat} {neg:Bool} {t b:Nat} (h0:q.num<0↔neg=true) (h1:q.num.natAbs=t) (h2:q.den=b):cN q = .agg [VB neg,bP t,bP b]:=by
 subst h1 h2
 unfold cN
 congr 4
 cases neg<;>simp_all
theorem aI (n:Nat):cJ (bP n)=true:=rfl
theorem aQ (n:Nat):isAny (bP n)=false:=rfl
theorem aM (n:Nat):aA (bP n)=[bP n]:=rfl
theorem cM (q:Rat):isAny (cN q)=false:=rfl
theorem bE (q:Rat):aA (cN q)=[VB (decide (q.num<0)),bP q.num.natAbs,bP q.den]:=rfl
theorem gR (q:Rat):eX true 3 (cN q) 0=some (cN q):=rfl
theorem jW (q:Rat):eX false 1 (cN q) 0=some (VB (decide (q.num<0))):=rfl
theorem mR (q:Rat):eX false 1 (cN q) 1=some (bP q.num.natAbs):=rfl
theorem mJ (q:Rat):eX false 1 (cN q) 2=some (bP q.den):=rfl
theorem uA {H:aB} {neg:Bool} {t b:Nat}:fz depth H (.agg [VB neg,bP t,bP b])=some (.agg [VB neg,bP t,bP b]):=aH (by simp[aW,aK,bU,lM])
theorem BQ {H:aB} (q:Rat):fz depth H (cN q)=some (cN q):=aH (tQ q)
theorem Xs (n:Int):cN (n:Rat) = .agg [VB (decide (n<0)),bP n.natAbs,bP 1]:=MF (by simp) (by simp) (by simp)
theorem Hr {n lo:Nat} {H:aB} {K:VV→aB→Prop} (h:(aC 1000000000 n).length≤17592186044416):dG 178 [bP n,.tree [VI 1] (.cl 1)] lo H K=K (VI (dX n 1)) H:=by
 have c:=rX n 1 h (by rw[A3 (by decide) (by decide) (by decide)];simp)
 have e:bP 1 = .tree [VI 1] .op:=by rw[bP,A3 (by decide) (by decide) (by decide)];rfl
 rw[e] at c
 exact TC.args c rfl (by simp only[aK,bU];rfl) (fz2 (aH (bU n)) (Zw rfl)) (by simp only[List.flatMap_cons,List.flatMap_nil,Dc (bU n),Wg (es:=[VI 1]) rfl,List.append_nil]) lo K
theorem dA {d:Int} {H:aB}:qY false [.int .i64 0] 1 [(0,VI d)] H=some (.tree [VI d] (.cl 1),H):=qA
theorem eU {e:Nat} {es:List VV}:cJ (.tree es (.cl e))=true:=rfl
theorem cZ {k:TK} {es:List VV}:aA (.tree es k)=[.tree es k]:=rfl
theorem eO {k:TK} {es:List VV}:isAny (.tree es k)=false:=rfl
theorem Mu {d:Nat} {H:aB}:fz (d+2) H (.tree [VI 1] (.cl 1))=some (bP 1):=by
 rw[UM]
 unfold fz
 have:aW (.tree [VI 1] (.cl 1))=false:=by simp[aW]
 simp only[this,Bool.false_eq_true,if_false]
 rfl
theorem pS (neg:Bool) (t b:Nat) (hb:b≠0) (ht:bl t≤4398046511104) (sN:bl b≤4398046511104):TC 164 [VB neg,bP t,bP b] (cN (mkRat (jD neg t) b)):=by
 refine TC.walk ⟨true,false⟩ HH rfl (Nat.le_of_ble_eq_true rfl) (by simp[aK,bU,aW,lM]) (yL _) ?_
 have hg0:Nat.gcd t b≠0:=Nat.gcd_ne_zero_right hb
 have Xg:bl (Nat.gcd t b)≤4398046511104:=Nat.le_trans (jL (Nat.gcd_le_right t (by omega))) sN
 have c1:=CQ t b (mG ht) (mG sN)
 have c2:=qT t _ hg0 (mG ht) (mG Xg)
 have c3:=qT b _ hg0 (mG sN) (mG Xg)
 have c4:∀lo H K,_:=fun lo H K=>Hr (n:=Nat.gcd t b) (lo:=lo) (H:=H) (K:=K) (Nat.le_of_lt (mG Xg))
 have PN:cN (mkRat (jD neg t) b) = .agg [VB (neg&&decide (t / Nat.gcd t b≠0)),bP (t / Nat.gcd t b),bP (b / Nat.gcd t b)]:=by
  refine MF ?_ (by rw[Ds hb,lT]) (Mj hb)
  rw[Ds hb,Mb,Bool.and_eq_true,decide_eq_true_eq]
 rw[PN]
 by_cases h1:dX (Nat.gcd t b) 1=0
 ·have Zp:=tX.1 h1
  have e1:t / Nat.gcd t b=t:=by rw[Zp,Nat.div_one]
  have e2:b / Nat.gcd t b=b:=by rw[Zp,Nat.div_one]
  rw[e1,e2]
  cases neg with
  |
   false =>
   simp only[kT,iR,c1,c4,h1,dA,aI,aQ,aM,gG,Nat.reduceLeDiff,Nat.reduceLT,Nat.reduceSub,VX,Nat.reduceEqDiff,Nat.reduceAdd]
   exact uA
  |
   true =>
   by_cases h0:t=0
   ·have hl:¬(0:Int)<((aC 1000000000 t).length:Int):=by rw[uS];omega
    simp only[kT,iR,c1,c4,h1,hl,cI,dA,aI,aQ,aM,gG,Nat.reduceLeDiff,Nat.reduceLT,Nat.reduceSub,VX,Nat.reduceEqDiff,Nat.reduceAdd]
    rw[h0]
    exact uA
   ·have hl:(0:Int)<((aC 1000000000 t).length:Int):=uS.2 h0
    simp only[kT,iR,c1,c4,h1,hl,cI,dA,aI,aQ,aM,gG,Nat.reduceLeDiff,Nat.reduceLT,Nat.reduceSub,VX,Nat.reduceEqDiff,Nat.reduceAdd]
    rw[decide_eq_true h0]
    exact uA
 ·cases neg with
  |
   false =>
   simp only[kT,iR,c1,c2,c3,c4,h1,dA,aI,aQ,aM,gG,Nat.reduceLeDiff,Nat.reduceLT,Nat.reduceSub,VX,Nat.reduceEqDiff,Nat.reduceAdd]
   exact uA
  |
   true =>
   generalize t / Nat.gcd t b=t' at *
   by_cases h0:t'=0
   ·have hl:¬(0:Int)<((aC 1000000000 t').length:Int):=by rw[uS];omega
    simp only[kT,iR,c1,c2,c3,c4,h1,hl,cI,dA,aI,aQ,aM,gG,Nat.reduceLeDiff,Nat.reduceLT,Nat.reduceSub,VX,Nat.reduceEqDiff,Nat.reduceAdd]
    rw[h0]
    exact uA
   ·have hl:(0:Int)<((aC 1000000000 t').length:Int):=uS.2 h0
    simp only[kT,iR,c1,c2,c3,c4,h1,hl,cI,dA,aI,aQ,aM,gG,Nat.reduceLeDiff,Nat.reduceLT,Nat.reduceSub,VX,Nat.reduceEqDiff,Nat.reduceAdd]
    rw[decide_eq_true h0]
    exact uA
theorem xD (n:Int) (h0 : -9223372036854775808<n) (h1:n≤9223372036854775807):TC 166 [VI n] (cN (n:Rat)):=by
 refine TC.walk ⟨true,false⟩ Jt rfl (Nat.le_of_ble_eq_true rfl) rfl (yL _) ?_
 rw[Xs]
 by_cases h:n<0
 ·have w:IntKind.i64.wrap (0-n)=(n.natAbs:Int):=wrapN _ (by omega) (by omega)
  have c1:TC 161 [VI (n.natAbs:Int)] (bP n.natAbs):=nX (n.natAbs:Int) (by omega)
  rw[decide_eq_true h]
  simp only[A0,xJ,h,w,c1,dA,aI,aQ,aM,eU,cZ,eO,gG,Nat.reduceLeDiff,Nat.reduceLT,Nat.reduceSub,VX,Nat.reduceEqDiff,Nat.reduceAdd]
  exact oJ (d:=6) (U9 rfl) (aJ (bU _)) (Mu (d:=5))
 ·have c1:TC 161 [VI n] (bP n.natAbs):=by
   have:=nX n h1
   rwa [show n.toNat=n.natAbs by omega] at this
  rw[decide_eq_false h]
  simp only[A0,xJ,h,c1,dA,aI,aQ,aM,eU,cZ,eO,gG,Nat.reduceLeDiff,Nat.reduceLT,Nat.reduceSub,VX,Nat.reduceEqDiff,Nat.reduceAdd]
  exact oJ (d:=6) (U9 rfl) (aJ (bU _)) (Mu (d:=5))
theorem CC:TC 124 [] (cN 1):=by
 refine TC.walk ⟨true,false⟩ JJ rfl (Nat.le_of_ble_eq_true rfl) rfl (yL _) ?_
 have c1:TC 166 [VI 1] (cN 1):=xD 1 (by decide) (by decide)
 simp only[Gy,Cz,c1,bE,gR,cM,aI,gG,Nat.reduceLeDiff,Nat.reduceLT,Nat.reduceSub,VX,Nat.reduceEqDiff,Nat.reduceAdd]
 exact BQ _
theorem A6:TC 136 [] (cN 0):=by
 refine TC.walk ⟨true,false⟩ HY rfl (Nat.le_of_ble_eq_true rfl) rfl (yL _) ?_
 have c1:TC 166 [VI 0] (cN 0):=xD 0 (by decide) (by decide)
 simp only[DR,BK,c1,bE,gR,cM,aI,gG,Nat.reduceLeDiff,Nat.reduceLT,Nat.reduceSub,VX,Nat.reduceEqDiff,Nat.reduceAdd]
 exact BQ _
theorem Cw (a b:Rat) (OD:cC a≤1099511627776) (JK:cC b≤1099511627776):TC 94 [cN a,cN b] (cN (a+b)):=by
 refine TC.walk ⟨true,false⟩ JA rfl (Nat.le_of_ble_eq_true rfl) (by simp[aK,tQ]) (yL _) ?_
 have la:=rN OD
 have lb:=rN JK
 have lda:=rG OD
 have ldb:=rG JK
 have XM:=Nat.mul_ne_zero a.den_nz b.den_nz
 have m1:=fV a.num.natAbs b.den (Nat.le_of_lt (mG (by omega))) (Nat.le_of_lt (mG (by omega)))
 have m2:=fV b.num.natAbs a.den (Nat.le_of_lt (mG (by omega))) (Nat.le_of_lt (mG (by omega)))
 have m3:=fV a.den b.den (Nat.le_of_lt (mG (by omega))) (Nat.le_of_lt (mG (by omega)))
 have ea:mkRat (jD (decide (a.num<0)) (a.num.natAbs*b.den)) (a.den*b.den)=a:=B8 a b.den_nz
 have eb:mkRat (jD (decide (b.num<0)) (b.num.natAbs*a.den)) (a.den*b.den)=b:=by rw[Nat.mul_comm a.den];exact B8 b a.den_nz
 have k1:=lK a.num.natAbs b.den
 have k2:=lK b.num.natAbs a.den
 have k3:=lK a.den b.den
 obtain⟨p1,p2,p3⟩:=E2 XM ea eb
 have hX:bl (a.num.natAbs*b.den)≤2199023255552:=by omega
 have hY:bl (b.num.natAbs*a.den)≤2199023255552:=by omega
 have hB:bl (a.den*b.den)≤4398046511104:=by omega
 generalize a.num.natAbs*b.den=X at *
 generalize b.num.natAbs*a.den=Y at *
 generalize a.den*b.den=B at *
 have f1:=Fg X Y (mG (by omega)) (mG (by omega))
 have f2:=rX X Y (Nat.le_of_lt (mG (by omega))) (Nat.le_of_lt (mG (by omega)))
 have hS:bl (X+Y)≤4398046511104:=Nat.le_trans (PL hX hY) (by decide)
 have hD1:bl (X-Y)≤4398046511104:=Nat.le_trans (jL (Nat.sub_le _ _)) (by omega)
 have hD2:bl (Y-X)≤4398046511104:=Nat.le_trans (jL (Nat.sub_le _ _)) (by omega)
 have f5:=fun neg=>pS neg (X+Y) B XM hS hB
 have f6:=fun neg=>pS neg (X-Y) B XM hD1 hB
 have f7:=fun neg=>pS neg (Y-X) B XM hD2 hB
 by_cases hn:decide (a.num<0)=decide (b.num<0)
 ·have Pq:(decide (a.num<0) == decide (b.num<0))=true:=by simpa using hn
  rw[←p1 hn]
  simp only[wZ,rY,m1,m2,m3,f1,f5,rC,uH,Pq,bE,gR,jW,mR,mJ,cM,aI,aQ,aM,gG,Nat.reduceLeDiff,Nat.reduceLT,Nat.reduceSub,VX,Nat.reduceEqDiff,Nat.reduceAdd]
  exact BQ _
 ·have Pq:(decide (a.num<0) == decide (b.num<0))=false:=by simpa using hn
  by_cases hx:(0:Int)≤dX X Y
  ·have hle:Y≤X:=by have := @tN X Y;omega
   have c3:=wV X Y hle (Nat.le_of_lt (mG (by omega)))
   rw[←p2 hn hle]
   simp only[wZ,rY,m1,m2,m3,f2,c3,f6,hx,rC,uH,Pq,bE,gR,jW,mR,mJ,cM,aI,aQ,aM,gG,Nat.reduceLeDiff,Nat.reduceLT,Nat.reduceSub,VX,Nat.reduceEqDiff,Nat.reduceAdd]
   exact BQ _
  ·have hle:X≤Y:=by have := @tN X Y;omega
   have c3:=wV Y X hle (Nat.le_of_lt (mG (by omega)))
   rw[←p3 hn hle]
   simp only[wZ,rY,m1,m2,m3,f2,c3,f7,hx,rC,uH,Pq,bE,gR,jW,mR,mJ,cM,aI,aQ,aM,gG,Nat.reduceLeDiff,Nat.reduceLT,Nat.reduceSub,VX,Nat.reduceEqDiff,Nat.reduceAdd]
   exact BQ _
theorem YF (a b:Int):jD (decide (a<0) != decide (b<0)) (a.natAbs*b.natAbs)=a*b:=by
 rcases Int.lt_trichotomy a 0 with h1 | h1 | h1<;>rcases Int.lt_trichotomy b 0 with h2 | h2 | h2
 ·rw[decide_eq_true h1,decide_eq_true h2]
  simp only[jD,bne_self_eq_false,Bool.false_eq_true,if_false,Int.natCast_mul]
  rw[show (a.natAbs:Int) = -a by omega,show (b.natAbs:Int) = -b by omega,Int.neg_mul_neg]
 ·subst h2;simp[uC]
 ·rw[decide_eq_true h1,decide_eq_false (show ¬b<0 by omega)]
  simp only[jD,Bool.true_bne,Bool.not_false,if_true,Int.natCast_mul]
  rw[show (a.natAbs:Int) = -a by omega,show (b.natAbs:Int)=b by omega,Int.neg_mul,Int.neg_neg]
 ·subst h1;simp[uC]
 ·subst h1;simp[uC]
 ·subst h1;simp[uC]
 ·rw[decide_eq_false (show ¬a<0 by omega),decide_eq_true h2]
  simp only[jD,Bool.false_bne,if_true,Int.natCast_mul]
  rw[show (a.natAbs:Int)=a by omega,show (b.natAbs:Int) = -b by omega,Int.mul_neg,Int.neg_neg]
 ·subst h2;simp[uC]
 ·rw[decide_eq_false (show ¬a<0 by omega),decide_eq_false (show ¬b<0 by omega)]
  simp only[jD,bne_self_eq_false,Bool.false_eq_true,if_false,Int.natCast_mul]
  rw[show (a.natAbs:Int)=a by omega,show (b.natAbs:Int)=b by omega]
theorem Ah (a b:Rat) (OD:cC a≤1099511627776) (JK:cC b≤1099511627776):TC 137 [cN a,cN b] (cN (a*b)):=by
 refine TC.walk ⟨true,false⟩ GZ rfl (Nat.le_of_ble_eq_true rfl) (by simp[aK,tQ]) (yL _) ?_
 have la:=rN OD
 have lb:=rN JK
 have lda:=rG OD
 have ldb:=rG JK
 have k1:=lK a.num.natAbs b.num.natAbs
 have k3:=lK a.den b.den
 have m1:=fV a.num.natAbs b.num.natAbs (Nat.le_of_lt (mG (by omega))) (Nat.le_of_lt (mG (by omega)))
 have m3:=fV a.den b.den (Nat.le_of_lt (mG (by omega))) (Nat.le_of_lt (mG (by omega)))
 have c1:=pS (decide (a.num<0) != decide (b.num<0)) (a.num.natAbs*b.num.natAbs) (a.den*b.den) (Nat.mul_ne_zero a.den_nz b.den_nz) (by omega) (by omega)
 rw[YF,←Rat.mul_def'] at c1
 simp only[CE,An,m1,m3,c1,uH,bE,gR,jW,mR,mJ,cM,aI,aQ,aM,gG,Nat.reduceLeDiff,Nat.reduceLT,Nat.reduceSub,VX,Nat.reduceEqDiff,Nat.reduceAdd]
 exact BQ _
end Go.PM
namespace Go.PM
open Go.Lib
abbrev bV (b:UInt8):VV := .sc (.int .u8 (b.toNat:Int))
theorem I5:∀bs:List UInt8,EU (bs.map bV)=some bs
 | []=>rfl
 |
  b::bs=>by
  rw[List.map_cons]
  show (EU (bs.map bV)).map (UInt8.ofNat ((b.toNat:Int)).toNat :: ·)=_
  rw[I5 bs]
  simp
structure Ew (v:VV) (H:aB) (bs:List UInt8):Prop where
 len:pF v H=some (VI bs.length)
 src:eY 1 v H=some (bs.map bV)
 nsc:∀x,v ≠ .sc x
theorem Ew.str {v:VV} {H:aB} {bs:List UInt8} (h:Ew v H bs) {fl:Fl} {lo:Nat} {x:Operand} {ρ:cP} (hx:dH ρ x=v):vop fl lo (.b2s x) ρ H=some (aR bs,H):=by
 have h1:=h.nsc
 have h2:=h.src
 unfold vop
 dsimp only
 rw[hx]
 cases v with
 | sc x=>exact absurd rfl (h1 x)
 | _=>simp only[h2,I5,Option.map_some]
theorem To {bs:List UInt8} {k:TK} {H:aB}:eY 1 (.tree (bs.map bV) k) H=some (bs.map bV):=by
 have:((bs.map bV).all fun x=>(aA x).length == 1&&(aA x).all cJ)=true:=by
  rw[List.all_eq_true]
  intro x hx
  obtain⟨d,_,rfl⟩:=List.mem_map.1 hx
  rfl
 simp only[eY,this,if_true]
theorem Ew.tree {bs:List UInt8} {k:TK} {H:aB}:Ew (.tree (bs.map bV) k) H bs:=⟨dZ,To,fun x=>by simp⟩
theorem Ew.row {bs:List UInt8} {H:aB} {b g:Nat} {w:Bool} (h:aV H b g=some (bs.map bV,1,w)):Ew (.ref b g 0 bs.length bs.length) H bs:=by
 refine⟨iU h,?_,fun x=>by simp⟩
 have jX:(((bs.map bV).drop 0).take bs.length).all (fun x=>(aA x).all cJ)=true:=by
  rw[List.all_eq_true]
  intro x hx
  obtain⟨d,_,rfl⟩:=List.mem_map.1 (List.mem_of_mem_drop (List.mem_of_mem_take hx))
  rfl
 simp only[eY,h]
 rw[if_pos ⟨trivial,by simp,jX⟩,List.drop_zero,List.take_of_length_le (by simp)]
theorem Ew.cons {v:VV} {H:aB} {bs:List UInt8} (h:Ew v H bs) (x:UInt8) (hl:bs.length≤1000000) (lo:Nat):∃v' H',gF lo 1 1 (.tree [bV x] (.cl 1)) (bs.map bV) H=some (v',H')∧Ew v' H' (x::bs):=by
 by_cases hb:bs=[]
 ·subst hb
  exact⟨_,_,rfl,Ew.tree (bs:=[x])⟩
 ·have eW:bs.length≠0:=fun h=>hb (List.length_eq_zero_iff.1 h)
  refine⟨.ref H.length 0 0 (x::bs).length (x::bs).length,H++[.row 0 ((x::bs).map bV) 1 true],?_,Ew.row (OP rfl)⟩
  simp only[gF,List.length_map]
  rw[if_pos ⟨by decide,by decide⟩,if_pos trivial,if_neg eW,if_pos (by simp;omega)]
  simp[Nat.add_comm]
theorem Rc (r:Int):cU .rem (.int .i64 r) (.int .i64 10)=some (.int .i64 (r.tmod 10)):=rfl
theorem aeP (r:Int) (h0 : -9223372036854775808≤r) (h1:r≤9223372036854775807):cU .quo (.int .i64 r) (.int .i64 10)=some (.int .i64 (r.tdiv 10)):=by
 show some (Value.int .i64 (IntKind.i64.wrap (r.tdiv 10)))=_
 have h2:(r.tdiv 10).natAbs=r.natAbs / 10:=by rw[Int.natAbs_tdiv];rfl
 rw[wrap64 (by omega) (by omega)]
theorem SO {d:Nat} (h:d<10):(d10 d).toNat=48+d:=by
 unfold d10
 simp
 omega
theorem KW {n r:Nat} {bs:List UInt8} (h:decDigits n=decDigits r++bs):decDigits n=oT (r / 10)++d10 (r % 10)::bs:=by
 rw[h]
 by_cases hr:r<10
 ·rw[gP hr,oT,if_pos (by omega),Nat.mod_eq_of_lt hr];rfl
 ·rw[wQ hr,oT,if_neg (by omega),List.append_assoc];rfl
theorem JD (n:Int) (h0 : -9223372036854775808≤n) (h1:n≤9223372036854775807):TC 235 [VI n] (aR ((if n<0 then [45] else [])++decDigits n.natAbs)):=by
 refine TC.walk ⟨true,false⟩ JR rfl (Nat.le_of_ble_eq_true rfl) rfl rfl ?_
 have e0:∀lr,qY lr [.int .u8 0] 0 [] []=some (.ref 0 0 0 0 0,[.row 0 (([]:List UInt8).map bV) 1 true]):=fun lr=>nS (H:=[]) rfl
 have e1:∀(x:UInt8) (H:aB),qY false [.int .u8 0] 1 [(0,bV x)] H=some (.tree [bV x] (.cl 1),H):=fun x H=>sE rfl rfl rfl
 have hdl:=zB n.natAbs 19 (by omega)
 simp only[FW,CU,e0,VX,Nat.reduceEqDiff,Nat.reduceAdd]
 refine bB (fun(s:Int×List UInt8) ρ H => -9223372036854775808≤s.1∧s.1≤9223372036854775807∧(s.2=[]→s.1=n)∧(s.2≠[]→decDigits n.natAbs=oT s.1.natAbs++s.2)∧Ew (ρ 3) H s.2∧ρ 0=VI n∧ρ 4=VI s.1) (fun s=>s.1.natAbs+(if s.2=[] then 1 else 0)) (n,[]) ⟨h0,h1,fun _=>rfl,fun h=>absurd rfl h,by simp only[VX,Nat.reduceEqDiff,Nat.reduceAdd];exact Ew.row (bs:=[]) cE,rfl,rfl⟩ ?_
 rintro⟨r,bs⟩ ρ H ⟨XH,hr1,hn,hd,ho,g0,g4⟩
 simp only at XH hr1 hn hd ho g4
 generalize Yw:ρ 3=v3 at ho
 have hlen:=ho.len
 have yQ:=ho.src
 by_cases Ji:bs≠[]∧r=0
 ·obtain⟨hb,hr⟩:=Ji
  subst hr
  have hl:¬(bs.length:Int)=0:=by have:=List.length_pos_iff.2 hb;omega
  have W7:=hd hb
  simp only[oT,Int.natAbs_zero,if_true,List.nil_append] at W7
  by_cases lL:n<0
  ·obtain⟨v',H',ap,Vo⟩:=ho.cons 45 (by rw[←W7];omega) 0
   have Ru:qY false [.int .u8 0] 1 [(0,.sc (.int .u8 45))] H=some (.tree [bV 45] (.cl 1),H):=e1 45 H
   have bs2:=fun aU (h:dH aU (.tmp 34)=v')=>Vo.str (fl:=⟨true,false⟩) (lo:=0) h
   simp only[iS,g0,g4,Yw,hlen,hl,VX,Nat.reduceEqDiff,Nat.reduceAdd]
   simp only[g0,lL,Yw,Ru,yQ,ap,Sq,VX,Nat.reduceEqDiff,Nat.reduceAdd]
   rw[bs2 _ (by rfl)]
   simp only[VX,Nat.reduceEqDiff,Nat.reduceAdd]
   rw[W7]
   exact aH rfl
  ·have bs2:=fun aU (h:dH aU (.tmp 34)=v3)=>ho.str (fl:=⟨true,false⟩) (lo:=0) h
   simp only[iS,g0,g4,Yw,hlen,hl,VX,Nat.reduceEqDiff,Nat.reduceAdd]
   simp only[g0,lL,Yw,Sq,VX,Nat.reduceEqDiff,Nat.reduceAdd]
   rw[bs2 _ (by simp only[VX,Nat.reduceEqDiff,Nat.reduceAdd];try exact Yw)]
   simp only[VX,Nat.reduceEqDiff,Nat.reduceAdd]
   rw[W7]
   exact aH rfl
 ·have hm:r.tmod 10=if r<0 then -((r.natAbs % 10:Nat):Int) else ((r.natAbs % 10:Nat):Int):=by
   have:=Int.tmod_eq_emod_of_nonneg (a:=r) (b:=10)
   by_cases h:r<0
   ·rw[if_pos h]
    have h2:=Int.neg_tmod (-r) 10
    rw[Int.neg_neg] at h2
    rw[h2,Int.tmod_eq_emod_of_nonneg (by omega)]
    omega
   ·rw[if_neg h,this (by omega)]
    omega
  have hq:(r.tdiv 10).natAbs=r.natAbs / 10:=by rw[Int.natAbs_tdiv];rfl
  have hmd:=Nat.mod_lt r.natAbs (show 0<10 by decide)
  have q1:=aeP r XH hr1
  have sN:bs.length≤19:=by
   by_cases hb:bs=[]
   ·subst hb;simp
   ·have h2:=hd hb
    have h3:=congrArg List.length h2
    rw[List.length_append] at h3
    have h4:r≠0:=fun h=>Ji ⟨hb,h⟩
    have h5:=List.length_pos_iff.2 (Mx r.natAbs)
    rw[oT,if_neg (by omega)] at h3
    omega
  obtain⟨v',H',ap,Vo⟩:=ho.cons (d10 (r.natAbs % 10)) (by omega) 0
  have w2:IntKind.i64.wrap (48+((r.natAbs % 10:Nat):Int))=((48+r.natAbs % 10:Nat):Int):=wrapN _ (by omega) (by omega)
  have w3:IntKind.u8.wrap ((48+r.natAbs % 10:Nat):Int)=((48+r.natAbs % 10:Nat):Int):=by
   simp[IntKind.wrap,IntKind.bits,IntKind.signed]
   omega
  have hx:VV.sc (.int .u8 ((48+r.natAbs % 10:Nat):Int))=bV (d10 (r.natAbs % 10)):=by rw[bV,SO hmd]
  have Ru:=e1 (d10 (r.natAbs % 10)) H
  rw[←hx] at Ru ap
  have next:∃s':Int×List UInt8,s'.1.natAbs+(if s'.2=[] then 1 else 0)<r.natAbs+(if bs=[] then 1 else 0) ∧ -9223372036854775808≤s'.1∧s'.1≤9223372036854775807∧(s'.2=[]→s'.1=n)∧(s'.2≠[]→decDigits n.natAbs=oT s'.1.natAbs++s'.2)∧Ew v' H' s'.2∧r.tdiv 10=s'.1:=by
   refine⟨(r.tdiv 10,d10 (r.natAbs % 10)::bs),?_,by simp only;omega,by simp only;omega,fun h=>(by simp at h),fun _ => ?_,Vo,rfl⟩
   ·simp only[hq,List.cons_ne_nil,if_false]
    by_cases hb:bs=[]
    ·rw[if_pos hb];omega
    ·have h4:r≠0:=fun h=>Ji ⟨hb,h⟩
     rw[if_neg hb];omega
   ·simp only[hq]
    by_cases hb:bs=[]
    ·subst hb
     refine KW ?_
     rw[hn rfl,List.append_nil]
    ·have h4:r≠0:=fun h=>Ji ⟨hb,h⟩
     have h2:=hd hb
     rw[oT,if_neg (by omega)] at h2
     exact KW h2
  by_cases hrn:r.tmod 10<0
  ·have w1:IntKind.i64.wrap (0-r.tmod 10)=((r.natAbs % 10:Nat):Int):=by
    have:r.tmod 10 = -((r.natAbs % 10:Nat):Int):=by
     by_cases h:r<0
     ·rw[if_pos h] at hm;exact hm
     ·rw[if_neg h] at hm;omega
    rw[this]
    exact wrapN _ (by omega) (by omega)
   by_cases hb:bs=[]
   ·have hl:(bs.length:Int)=0:=by rw[hb];rfl
    simp only[iS,g0,g4,Yw,hlen,hl,Rc,q1,hrn,w1,w2,w3,Ru,yQ,ap,VX,Nat.reduceEqDiff,Nat.reduceAdd]
    obtain⟨s',n1,n2,n3,n4,n5,n6,n7⟩:=next
    exact⟨s',n1,n2,n3,n4,n5,n6,by rw[n7]⟩
   ·have hl:¬(bs.length:Int)=0:=by have:=List.length_pos_iff.2 hb;omega
    have hr:¬r=0:=fun h=>Ji ⟨hb,h⟩
    simp only[iS,g0,g4,Yw,hlen,hl,hr,Rc,q1,hrn,w1,w2,w3,Ru,yQ,ap,VX,Nat.reduceEqDiff,Nat.reduceAdd]
    obtain⟨s',n1,n2,n3,n4,n5,n6,n7⟩:=next
    exact⟨s',n1,n2,n3,n4,n5,n6,by rw[n7]⟩
  ·have hmm:r.tmod 10=((r.natAbs % 10:Nat):Int):=by
    rw[hm] at hrn ⊢
    split
    ·rename_i h;rw[if_pos h] at hrn;omega
    ·rfl
   have afL:¬((r.natAbs % 10:Nat):Int)<0:=by omega
   by_cases hb:bs=[]
   ·have hl:(bs.length:Int)=0:=by rw[hb];rfl
    simp only[iS,g0,g4,Yw,hlen,hl,Rc,hmm,q1,afL,w2,w3,Ru,yQ,ap,VX,Nat.reduceEqDiff,Nat.reduceAdd]
    obtain⟨s',n1,n2,n3,n4,n5,n6,n7⟩:=next
    exact⟨s',n1,n2,n3,n4,n5,n6,by rw[n7]⟩
   ·have hl:¬(bs.length:Int)=0:=by have:=List.length_pos_iff.2 hb;omega
    have hr:¬r=0:=fun h=>Ji ⟨hb,h⟩
    simp only[iS,g0,g4,Yw,hlen,hl,hr,Rc,hmm,q1,afL,w2,w3,Ru,yQ,ap,VX,Nat.reduceEqDiff,Nat.reduceAdd]
    obtain⟨s',n1,n2,n3,n4,n5,n6,n7⟩:=next
    exact⟨s',n1,n2,n3,n4,n5,n6,by rw[n7]⟩
end Go.PM
namespace Go.PM
open Go.Lib
theorem Xn (d:Nat) (h:d≤9223372036854775807):TC 235 [VI (d:Int)] (aR (decDigits d)):=by
 have:=JD (d:Int) (by omega) (by omega)
 rw[if_neg (by omega),List.nil_append,Int.natAbs_natCast] at this
 exact this
theorem Vs {n i:Nat} (hi:i+1=(aC 1000000000 n).length):n / 1000000000^i=n / 1000000000^i % 1000000000:=by
 have h1:=S5 (b:=1000000000) (by decide) n (i+1)
 rw[List.drop_of_length_le (by omega)] at h1
 have h2:=(kA (b:=1000000000) (by decide)).1 h1.symm
 rw[pW] at h2
 rcases Nat.div_eq_zero_iff.1 h2 with h | h
 ·exact absurd h (by decide)
 ·exact(Nat.mod_eq_of_lt h).symm
theorem GH (l:List UInt8) (a b:Nat):(⟨l.toArray⟩:ByteArray).extract a b=⟨((l.drop a).take (b-a)).toArray⟩:=by
 rw[ByteArray.ext_iff,ByteArray.data_extract]
 simp[List.extract_toArray,List.extract_eq_take_drop]
theorem VY (l:List UInt8) {a b:Nat} (h:a≤b) (hb:b≤l.length):sC (aR l) (some (VI (a:Int))) (some (VI (b:Int)))=some (aR ((l.drop a).take (b-a))):=by
 have hs:(⟨l.toArray⟩:ByteArray).size=l.length:=by simp[ByteArray.size]
 have e1:(0:Int)≤b∧(b:Int)≤(l.length:Int):=by omega
 have e2:(0:Int)≤a∧(a:Int)≤(b:Int):=by omega
 simp only[sC,D7,wH,hs,dO,e1,e2,and_self,if_true,Int.toNat_natCast,GH]
theorem Kr (l:List UInt8) {a:Nat} (h:a≤l.length):sC (aR l) (some (VI (a:Int))) none=some (aR (l.drop a)):=by
 have hs:(⟨l.toArray⟩:ByteArray).size=l.length:=by simp[ByteArray.size]
 have e2:(0:Int)≤a∧(a:Int)≤(l.length:Int):=by omega
 simp only[sC,D7,wH,hs,dO,e2,and_self,if_true,Int.toNat_natCast,GH]
 rw[List.take_of_length_le (by simp)]
theorem ahB (l:List UInt8) (h:1≤l.length):sC (aR l) (some (VI 1)) none=some (aR (l.drop 1)):=Kr l h
theorem T6 {a:Nat} (h:a<1000000000):IntKind.i64.wrap ((a:Int)+1000000000)=((a+1000000000:Nat):Int):=wrapN _ (by omega) (by omega)
theorem mA (n:Nat) (hn:bl n≤2199023255552):TC 212 [bP n] (aR (decDigits n)):=by
 refine TC.walk ⟨true,false⟩ DX rfl (Nat.le_of_ble_eq_true rfl) (by simp[aK,bU]) rfl ?_
 by_cases h0:n=0
 ·subst h0
  have hl:(((aC 1000000000 0).length:Nat):Int)=0:=by rw[bR];rfl
  simp only[sP,pL,cI,hl,VX,Nat.reduceEqDiff,Nat.reduceAdd]
  rw[gP (by decide)]
  exact aH rfl
 have hl:¬(((aC 1000000000 n).length:Nat):Int)=0:=by have:=(uS (n:=n)).2 h0;omega
 obtain⟨L,hL⟩:∃L,(aC 1000000000 n).length=L+1:=⟨(aC 1000000000 n).length-1,by omega⟩
 have A1:=mG (n:=n) (by omega)
 have hlT:=Zx n
 have hdl:=yN n
 have w1:IntKind.i64.wrap (((L+1:Nat):Int)-1)=(L:Int):=wrapN _ (by omega) (by omega)
 have w2:IntKind.i64.wrap (((L+1:Nat):Int)-2)=(L:Int)-1:=by rw[wrap64 (by omega) (by omega)];omega
 have at':∀i,i≤L→bF 1 (bP n) (VI (i:Int)) []=some (.cO (tV (n / 1000000000^i % 1000000000)) 0):=fun i hi=>aP (f:=tV) (t := .op) (H:=[]) (size:=1) (k := .i64) (HS (b:=1000000000) (by decide) (n:=n) (i:=i) (by omega)) rfl
 have eL:=at' L (Nat.le_refl _)
 have Vc:=Vs (n:=n) (i:=L) (by omega)
 rw[←Vc] at eL
 have JN:n / 1000000000^L≠0:=(B6 (b:=1000000000) (by decide)).1 (by omega)
 have hqT:n / 1000000000^L<1000000000:=by rw[Vc];exact Nat.mod_lt _ (by decide)
 have c1:=Xn (n / 1000000000^L) (by omega)
 rw[hL] at hl
 simp only[sP,pL,cI,hL,hl,w1,w2,eL,c1,VX,Nat.reduceEqDiff,Nat.reduceAdd]
 refine bB (fun(j:Nat) ρ H=>j≤L∧H=[]∧ρ 0=bP n∧ρ 3=aR (decDigits (n / 1000000000^j))∧ρ 4=VI ((j:Int)-1)) (fun j=>j) L ⟨Nat.le_refl _,rfl,rfl,rfl,rfl⟩ ?_
 rintro j ρ H ⟨hj,rfl,g0,g3,g4⟩
 by_cases hz:(0:Int)≤(j:Int)-1
 ·obtain⟨i,rfl⟩:∃i,j=i+1:=⟨j-1,by omega⟩
  have J2:((i+1:Nat):Int)-1=(i:Int):=by omega
  rw[J2] at g4 hz
  have e1:=at' i (by omega)
  have hm:=Nat.mod_lt (n / 1000000000^i) (show 0<1000000000 by decide)
  have hq1:n / 1000000000^(i+1)≠0:=(B6 (b:=1000000000) (by decide)).1 (by omega)
  have hdm:=Nat.mod_add_div (n / 1000000000^i) 1000000000
  rw[←pW] at hdm
  have Zz:=Fw (Nat.pos_of_ne_zero hq1) hm
  have hle:n / 1000000000^i≤n:=Nat.div_le_self _ _
  have Xa:=yN (n / 1000000000^i)
  have hbi:=jL hle
  rw[show n / 1000000000^(i+1)*1000000000+n / 1000000000^i % 1000000000=n / 1000000000^i by omega] at Zz
  generalize hAA:n / 1000000000^i=A at *
  generalize n / 1000000000^(i+1)=B at *
  have w4:IntKind.i64.wrap ((i:Int)-1)=(i:Int)-1:=wrap64 (by omega) (by omega)
  have c2:=Xn (A % 1000000000+1000000000) (by omega)
  rw[Yx hm] at c2
  have e2:=ahB (d10 1::AA 9 (A % 1000000000)) (by simp)
  rw[List.drop_succ_cons,List.drop_zero] at e2
  have hlen:=congrArg List.length Zz
  rw[List.length_append] at hlen
  have a1:=rU (decDigits B) (AA 9 (A % 1000000000)) (by omega)
  rw[←Zz] at a1
  have alF:i≤L:=by omega
  have hmu:i<i+1:=by omega
  have w3:=T6 hm
  simp only[oM,g0,g3,g4,hz,e1,w3,w4,c2,e2,a1,VX,Nat.reduceEqDiff,Nat.reduceAdd]
  refine⟨i,hmu,alF,?_⟩
  rw[hAA]
  exact⟨rfl,rfl⟩
 ·have Qu:j=0:=by omega
  subst Qu
  rw[Nat.pow_zero,Nat.div_one] at g3
  simp only[oM,g0,g3,g4,hz,VX,Nat.reduceEqDiff,Nat.reduceAdd]
  exact aH rfl
theorem Iu (q:Rat) (hk:cC q≤1099511627776):TC 176 [cN q] (VB (Bb q)):=by
 refine TC.walk ⟨true,false⟩ HX rfl (Nat.le_of_ble_eq_true rfl) (by simp[aK,tQ]) rfl ?_
 have la:=rN hk
 have lb:=rG hk
 have t1:=mA q.num.natAbs (by omega)
 have t2:=mA q.den (by omega)
 have hf:Bb q=(decide (((decDigits q.num.natAbs).length:Int)≤200)&&decide (((decDigits q.den).length:Int)≤200)):=by
  unfold Bb
  congr 1<;>exact decide_eq_decide.2 (by omega)
 rw[hf]
 by_cases hl:((decDigits q.num.natAbs).length:Int)≤200
 ·simp only[zW,uQ,t1,t2,hl,aZ,bE,jW,mR,mJ,aI,gG,Nat.reduceLeDiff,Nat.reduceLT,Nat.reduceSub,VX,Nat.reduceEqDiff,Nat.reduceAdd]
  exact aH rfl
 ·simp only[zW,uQ,t1,t2,hl,aZ,bE,jW,mR,mJ,aI,gG,Nat.reduceLeDiff,Nat.reduceLT,Nat.reduceSub,VX,Nat.reduceEqDiff,Nat.reduceAdd]
  exact aH rfl
theorem IC (q:Rat) (hk:cC q≤1099511627776):TC 163 [cN q] (aR (HA q)):=by
 refine TC.walk ⟨true,false⟩ H0 rfl (Nat.le_of_ble_eq_true rfl) (by simp[aK,tQ]) rfl ?_
 have la:=rN hk
 have lb:=rG hk
 have t1:=mA q.num.natAbs (by omega)
 have t2:=mA q.den (by omega)
 have d1:=yN q.num.natAbs
 have d2:=yN q.den
 have c1:∀lo H K,_:=fun lo H K=>Hr (n:=q.den) (lo:=lo) (H:=H) (K:=K) (Nat.le_of_lt (mG (by omega)))
 have a1:cU .add (.string ⟨#[45]⟩) (.string ⟨(decDigits q.num.natAbs).toArray⟩)=some (.string ⟨(45::decDigits q.num.natAbs).toArray⟩):=rU [45] _ (by simp only[List.length_cons,List.length_nil];omega)
 have a2:cU .add (.string ⟨#[47]⟩) (.string ⟨(decDigits q.den).toArray⟩)=some (.string ⟨(47::decDigits q.den).toArray⟩):=rU [47] (decDigits q.den) (by simp only[List.length_cons,List.length_nil];omega)
 have a3:=rU (45::decDigits q.num.natAbs) (47::decDigits q.den) (by simp only[List.length_cons];omega)
 have a4:=rU (decDigits q.num.natAbs) (47::decDigits q.den) (by simp only[List.length_cons];omega)
 have hs:HA q=(if q.num<0 then (45::decDigits q.num.natAbs) else decDigits q.num.natAbs)++(if q.den=1 then [] else 47::decDigits q.den):=by
  unfold HA
  by_cases hn:q.num<0
  ·rw[if_pos hn,if_pos hn];rfl
  ·rw[if_neg hn,if_neg hn];rfl
 rw[hs]
 by_cases hd:dX q.den 1=0
 ·rw[if_pos (tX.1 hd),List.append_nil]
  by_cases hn:q.num<0
  all_goals
   simp only[zT,uE,t1,t2,a1,a2,a3,a4,c1,hd,hn,dA,bE,jW,mR,mJ,aI,gG,Nat.reduceLeDiff,Nat.reduceLT,Nat.reduceSub,VX,Nat.reduceEqDiff,Nat.reduceAdd]
   exact aH rfl
 ·rw[if_neg (mt tX.2 hd)]
  by_cases hn:q.num<0
  all_goals
   simp only[zT,uE,t1,t2,a1,a2,a3,a4,c1,hd,hn,dA,bE,jW,mR,mJ,aI,gG,Nat.reduceLeDiff,Nat.reduceLT,Nat.reduceSub,VX,Nat.reduceEqDiff,Nat.reduceAdd]
   exact aH rfl
theorem Ii (q:Rat) (hk:cC q≤1099511627776):TC 93 [cN q] (Er q):=by
 refine TC.walk ⟨true,false⟩ H6 rfl (Nat.le_of_ble_eq_true rfl) (by simp[aK,tQ]) (Ff q) ?_
 have t1:=Iu q hk
 have t2:=IC q hk
 unfold Er
 by_cases h:Bb q=true
 ·rw[h] at t1
  rw[if_pos h]
  simp only[zG,vW,t1,t2,bE,gR,cM,aI,gG,Nat.reduceLeDiff,Nat.reduceLT,Nat.reduceSub,VX,Nat.reduceEqDiff,Nat.reduceAdd]
  exact aH rfl
 ·have h':Bb q=false:=by simpa using h
  rw[h'] at t1
  rw[if_neg h]
  simp only[zG,vW,t1,bE,gR,cM,aI,gG,Nat.reduceLeDiff,Nat.reduceLT,Nat.reduceSub,VX,Nat.reduceEqDiff,Nat.reduceAdd]
  exact aH rfl
end Go.PM
namespace Go.PM
open Go.Lib
def fY (c:UInt8):List UInt8→List (List UInt8)
 | []=>[[]]
 |
  x::r=>if x=c then []::fY c r else match fY c r with
  | []=>[[x]]
  | a::t=>(x::a)::t
theorem Ig {c:UInt8} {r:List UInt8}:∀ {a:List UInt8},c∉a→fY c (a++c::r)=a::fY c r:=by
 intro a
 induction a with
 | nil=>intro _;rw[List.nil_append,fY,if_pos rfl]
 |
  cons x a ih =>
  intro h
  rw[List.mem_cons,not_or] at h
  rw[List.cons_append,fY,if_neg (fun he=>h.1 he.symm),ih h.2]
theorem Db {c:UInt8}:∀ {a:List UInt8},c∉a→fY c a=[a]:=by
 intro a
 induction a with
 | nil=>intro _;rfl
 |
  cons x a ih =>
  intro h
  rw[List.mem_cons,not_or] at h
  rw[fY,if_neg (fun he=>h.1 he.symm),ih h.2]
theorem P0 {c:UInt8} (l:List UInt8):fY c l≠[]:=by
 cases l with
 | nil=>simp[fY]
 |
  cons x r =>
  rw[fY]
  split
  ·simp
  ·split<;>simp
theorem Nl {c:UInt8} {l:List UInt8} (h:(kH c l).2=none):fY c l=[l]:=Db (xR h).2.2
theorem Gs {c:UInt8} {l r:List UInt8} (h:(kH c l).2=some r):fY c l=(kH c l).1::fY c r:=by
 obtain⟨_,h2,h3⟩:=FT h
 have:=Ig (r:=r) h3
 rw[←h2] at this
 exact this
theorem NF {c:UInt8} {l:List UInt8} (h:c∈l):2≤(fY c l).length:=by
 cases hc:(kH c l).2 with
 | none=>exact absurd h (xR hc).2.2
 |
  some r =>
  rw[Gs hc,List.length_cons]
  have:=List.length_pos_iff.2 (P0 (c:=c) r)
  omega
theorem Te {l:List UInt8} {i:Nat} (h:i<l.length):(l.take (i+1)).all gI=((l.take i).all gI&&gI (l.getD i 0)):=by
 rw[List.take_add_one,List.all_append]
 have:l[i]? = some (l.getD i 0):=by rw[List.getElem?_eq_getElem h,List.getD_eq_getElem?_getD,List.getElem?_eq_getElem h];rfl
 rw[this]
 simp
set_option maxHeartbeats 1000000 in
theorem nL (l:List UInt8) (hl:l.length≤1000000000000):TC 223 [aR l] (VB (gC l)):=by
 refine TC.walk ⟨true,false⟩ FM rfl (Nat.le_of_ble_eq_true rfl) rfl rfl ?_
 simp only[Bh,xP,VX,Nat.reduceEqDiff,Nat.reduceAdd]
 refine bB (fun(i:Nat) ρ H=>i≤l.length∧H=[]∧(l.take i).all gI=true∧ρ 0=aR l∧ρ 3=VI i) (fun i=>l.length-i) 0 ⟨Nat.zero_le _,rfl,rfl,rfl,rfl⟩ ?_
 rintro i ρ H ⟨hi,rfl,hd,g0,g3⟩
 by_cases cX:(i:Int)<(l.length:Int)
 ·have Qs:i<l.length:=by omega
  have e1:=AV l Qs
  have wi:IntKind.i64.wrap ((i:Int)+1)=((i+1:Nat):Int):=wrapN (i+1) (by omega) (by omega)
  have ht:=Te Qs
  rw[hd,Bool.true_and] at ht
  have Ql:gI (l.getD i 0)=(decide (48≤(l.getD i 0).toNat)&&decide ((l.getD i 0).toNat≤57)):=rfl
  have jX:gI (l.getD i 0)=false→gC l=false:=by
   intro h
   rw[h] at ht
   have:l.all gI=false:=by rw[←List.take_append_drop (i+1) l,List.all_append,ht,Bool.false_and]
   unfold gC
   rw[this]
   rfl
  generalize (l.getD i 0).toNat=c at *
  by_cases q1:(c:Int)<48
  ·rw[jX (by rw[Ql,decide_eq_false (by omega)];rfl)]
   simp only[cW,g0,g3,aZ,cX,e1,q1,VX,Nat.reduceEqDiff,Nat.reduceAdd]
   exact aH rfl
  ·by_cases q2:(57:Int)<(c:Int)
   ·rw[jX (by rw[Ql,decide_eq_false (show ¬c≤57 by omega),Bool.and_false])]
    simp only[cW,g0,g3,aZ,cX,e1,q1,q2,VX,Nat.reduceEqDiff,Nat.reduceAdd]
    exact aH rfl
   ·rw[Ql,decide_eq_true (by omega),decide_eq_true (by omega),Bool.and_self] at ht
    simp only[cW,g0,g3,aZ,cX,e1,q1,q2,wi,VX,Nat.reduceEqDiff,Nat.reduceAdd]
    exact⟨i+1,by omega,by omega,ht,rfl⟩
 ·have qX:i=l.length:=by omega
  subst qX
  rw[List.take_length] at hd
  by_cases h1:(1:Int)≤(l.length:Int)
  ·by_cases h2:(l.length:Int)≤200
   ·by_cases h3:(l.length:Int)=1
    ·rw[iM.2 ⟨hd,by omega,by omega,.inl (by omega)⟩]
     simp only[cW,g0,g3,aZ,cX,ge_iff_le,h1,h2,h3,Int.reduceLE,Int.reduceLT,VX,Nat.reduceEqDiff,Nat.reduceAdd]
     exact aH rfl
    ·have e1:=EF l (by omega)
     by_cases h4:(((l.getD 0 0).toNat:Int)=48)
     ·have hk:gC l=false:=by
       cases h:gC l with
       | false=>rfl
       |
        true =>
        rcases(iM.1 h).2.2.2 with h5 | h5
        ·omega
        ·exact absurd (UInt8.toNat_inj.1 (by rw[show (48:UInt8).toNat=48 from rfl];omega)) h5
      rw[hk]
      simp only[cW,g0,g3,aZ,cX,ge_iff_le,h1,h2,h3,h4,e1,VX,Nat.reduceEqDiff,Nat.reduceAdd]
      exact aH rfl
     ·have h5:l.getD 0 0≠48:=fun h=>h4 (by rw[h];rfl)
      rw[iM.2 ⟨hd,by omega,by omega,.inr h5⟩]
      simp only[cW,g0,g3,aZ,cX,ge_iff_le,h1,h2,h3,h4,e1,VX,Nat.reduceEqDiff,Nat.reduceAdd]
      exact aH rfl
   ·have hk:gC l=false:=by
     cases h:gC l with
     | false=>rfl
     | true=>have:=(iM.1 h).2.2.1;omega
    rw[hk]
    simp only[cW,g0,g3,aZ,cX,ge_iff_le,h1,h2,VX,Nat.reduceEqDiff,Nat.reduceAdd]
    exact aH rfl
  ·have hk:gC l=false:=by
    cases h:gC l with
    | false=>rfl
    | true=>have:=(iM.1 h).2.1;omega
   rw[hk]
   simp only[cW,g0,g3,aZ,cX,ge_iff_le,h1,VX,Nat.reduceEqDiff,Nat.reduceAdd]
   exact aH rfl
set_option maxHeartbeats 1000000 in
theorem CT (l:List UInt8) (c:UInt8) (hl:l.length≤1000000000000):TC 222 [aR l,.sc (.int .u8 (c.toNat:Int))] (bT aR (fY c l)):=by
 refine TC.walk ⟨true,false⟩ JT rfl (Nat.le_of_ble_eq_true rfl) rfl (Bx (size:=1) (fun _=>rfl) (fun _=>rfl) fun _=>rfl) ?_
 have e3:∀lr,qY lr [.string ⟨#[]⟩] 0 [] []=some (.ref 0 0 0 0 0,[.row 0 (([]:List (List UInt8)).map aR) 1 true]):=fun lr=>nS (H:=[]) (lr:=lr) (z:=[.string ⟨#[]⟩]) rfl
 have e4:∀(x:List UInt8) (H:aB),qY false [.string ⟨#[]⟩] 1 [(0,aR x)] H=some (.tree [aR x] (.cl 1),H):=fun x H=>sE (z:=[.string ⟨#[]⟩]) rfl rfl rfl
 have e5:∀(x:List UInt8) (H:aB),eY 1 (.tree [aR x] (.cl 1)) H=some [aR x]:=fun x H=>pC rfl rfl
 simp only[Gb,Cu,e3,VX,Nat.reduceEqDiff,Nat.reduceAdd]
 refine bB (fun(s:List (List UInt8)×Nat×Nat) ρ H=>H=[.row s.1.length (s.1.map aR) 1 true]∧s.2.1≤s.2.2∧s.2.2≤l.length+1∧s.1.length≤s.2.1 ∧
  ((s.2.2≤l.length∧fY c l=s.1++fY c (l.drop s.2.1)∧c∉(l.drop s.2.1).take (s.2.2-s.2.1))∨(s.2.2=l.length+1∧fY c l=s.1)) ∧
  ρ 0=aR l∧ρ 1 = .sc (.int .u8 (c.toNat:Int))∧ρ 5 = .ref 0 s.1.length 0 s.1.length s.1.length∧ρ 6=VI s.2.1∧ρ 7=VI s.2.2) (fun s=>l.length+1-s.2.2) ([],0,0) ⟨rfl,Nat.zero_le _,Nat.zero_le _,Nat.zero_le _,.inl ⟨Nat.zero_le _,rfl,by simp⟩,rfl,rfl,rfl,rfl,rfl⟩ ?_
 rintro⟨out,fr,i⟩ ρ H ⟨rfl,hfi,hi,iC,EP,g0,g1,g5,g6,g7⟩
 simp only at hfi hi iC EP g5 g6 g7
 by_cases cX:(i:Int)≤(l.length:Int)
 ·have Qs:i≤l.length:=by omega
  obtain⟨hp,hc⟩:fY c l=out++fY c (l.drop fr)∧c∉(l.drop fr).take (i-fr):=by
   rcases EP with⟨_,h1,h2⟩ | ⟨h,_⟩
   ·exact⟨h1,h2⟩
   ·omega
  have wi:IntKind.i64.wrap ((i:Int)+1)=((i+1:Nat):Int):=wrapN (i+1) (by omega) (by omega)
  have e2:=VY l hfi Qs
  have eP:=oW (f:=aR) (xs:=out) (x:=(l.drop fr).take (i-fr)) (lo:=0) (b:=0) (g:=out.length) (n:=out.length) (e:=1) (bytes:=16) (H:=[.row out.length (out.map aR) 1 true]) cE rfl (Nat.zero_le _) (by decide) (by decide) (by omega)
  have Fk:([.row out.length (out.map aR) 1 true]:aB).set 0 (.row (out.length+1) ((out++[(l.drop fr).take (i-fr)]).map aR) 1 true)=[.row (out.length+1) ((out++[(l.drop fr).take (i-fr)]).map aR) 1 true]:=rfl
  rw[Fk] at eP
  by_cases q1:i=l.length
  ·subst q1
   have WD:fY c l=out++[(l.drop fr).take (l.length-fr)]:=by
    rw[hp]
    have:(l.drop fr).take (l.length-fr)=l.drop fr:=List.take_of_length_le (by rw[List.length_drop];omega)
    rw[this] at hc ⊢
    rw[Db hc]
   simp only[mT,g0,g1,g5,g6,g7,aZ,cX,eq_self,e2,e4,e5,eP,wi,VX,Nat.reduceEqDiff,Nat.reduceAdd]
   refine⟨(out++[(l.drop fr).take (l.length-fr)],l.length+1,l.length+1),by simp only;omega,?_,by simp only;omega,by simp only;omega,?_,.inr ⟨rfl,WD⟩,?_⟩
   ·simp
   ·simp only[List.length_append,List.length_cons,List.length_nil];omega
   ·simp
  ·have XP:i<l.length:=by omega
   have q1':¬(i:Int)=(l.length:Int):=by omega
   have e1:=AV l XP
   have Zi:l.drop i=l.getD i 0::l.drop (i+1):=by rw[List.drop_eq_getElem_cons XP,List.getD_eq_getElem?_getD,List.getElem?_eq_getElem XP];rfl
   by_cases q2:l.getD i 0=c
   ·have q2':((l.getD i 0).toNat:Int)=(c.toNat:Int):=by rw[q2]
    have WD:fY c l=(out++[(l.drop fr).take (i-fr)])++fY c (l.drop (i+1)):=by
     have Oa:l.drop fr=(l.drop fr).take (i-fr)++c::l.drop (i+1):=by
      have h1:(l.drop fr).drop (i-fr)=l.drop i:=by rw[List.drop_drop];congr 1;omega
      conv=>lhs;rw[←List.take_append_drop (i-fr) (l.drop fr),h1,Zi,q2]
     rw[hp]
     conv=>lhs;rw[Oa]
     rw[Ig hc,List.append_assoc]
     rfl
    simp only[mT,g0,g1,g5,g6,g7,aZ,cX,q1',e1,q2',eq_self,e2,e4,e5,eP,wi,VX,Nat.reduceEqDiff,Nat.reduceAdd]
    refine⟨(out++[(l.drop fr).take (i-fr)],i+1,i+1),by simp only;omega,?_,by simp only;omega,by simp only;omega,?_,.inl ⟨by simp only;omega,WD,by simp⟩,?_⟩
    ·simp
    ·simp only[List.length_append,List.length_cons,List.length_nil];omega
    ·simp
   ·have q2':¬((l.getD i 0).toNat:Int)=(c.toNat:Int):=fun h=>q2 (UInt8.toNat_inj.1 (by omega))
    simp only[mT,g0,g1,g5,g6,g7,aZ,cX,q1',e1,q2',wi,VX,Nat.reduceEqDiff,Nat.reduceAdd]
    refine⟨(out,fr,i+1),by simp only;omega,rfl,by simp only;omega,by simp only;omega,iC,.inl ⟨by simp only;omega,hp,?_⟩,rfl,rfl,rfl⟩
    simp only
    rw[show i+1-fr=(i-fr)+1 by omega,List.take_add_one,List.mem_append,not_or]
    refine⟨hc,?_⟩
    have:(l.drop fr)[i-fr]? = some (l.getD i 0):=by
     rw[List.getElem?_drop,show fr+(i-fr)=i by omega,List.getD_eq_getElem?_getD,List.getElem?_eq_getElem XP]
     rfl
    rw[this]
    simp
    exact fun h=>q2 h.symm
 ·have WD:fY c l=out:=by
   rcases EP with⟨h,_⟩ | ⟨_,h⟩
   ·omega
   ·exact h
  rw[WD]
  simp only[mT,g0,g5,g7,aZ,cX,VX,Nat.reduceEqDiff,Nat.reduceAdd]
  exact Dv (es:=out.map aR) cE (by simp) (Nat.le_refl _) (dW fun _=>rfl)
theorem W9 {l:List UInt8} (h:l.all gI=true) {i:Nat} (hi:i<l.length):48≤(l.getD i 0).toNat∧(l.getD i 0).toNat≤57:=by
 have:=List.all_eq_true.1 h (l.getD i 0) (by rw[List.getD_eq_getElem?_getD,List.getElem?_eq_getElem hi];exact List.getElem_mem hi)
 simpa[gI] using this
theorem I4 {l:List UInt8} (hd:l.all gI=true) (hl:l.length≤1000000000000) {fr tq:Nat} (hft:fr≤tq) (h9:tq-fr≤9) (htl:tq≤l.length) {H:aB} {lo:Nat} {ρ:cP} {Q:VQ} (h0:ρ 0=aR l) (h4:ρ 4=VI tq) (h6:ρ 6=VI 0) (h7:ρ 7=VI fr)
  (hQ:∀aU,(∀t,t<6→aU t=ρ t)→aU 6=VI (bM ((l.drop fr).take (tq-fr)))→Q .normal aU H):VW ⟨true,false⟩ lo (.loop kU) (xI 2 Q) ρ H:=by
 refine bB (fun(i:Nat) aU H'=>fr≤i∧i≤tq∧H'=H∧(∀t,t<6→aU t=ρ t)∧aU 6=VI (bM ((l.drop fr).take (i-fr)))∧aU 7=VI i) (fun i=>tq-i) fr ⟨Nat.le_refl _,hft,rfl,fun _ _=>rfl,by rw[h6,Nat.sub_self];rfl,h7⟩ ?_
 rintro i aU H' ⟨hfi,hi,rfl,hk,g6,g7⟩
 have g0:=(hk 0 (by decide)).trans h0
 have g4:=(hk 4 (by decide)).trans h4
 by_cases cX:(i:Int)<(tq:Int)
 ·have Qs:i<l.length:=by omega
  have e1:=AV l Qs
  obtain⟨c1,c2⟩:=W9 hd Qs
  have wi:IntKind.i64.wrap ((i:Int)+1)=((i+1:Nat):Int):=wrapN (i+1) (by omega) (by omega)
  have hcd:((l.drop fr).take (i-fr)).all gI=true:=by
   rw[List.all_eq_true] at hd ⊢
   exact fun x hx=>hd x (List.mem_of_mem_drop (List.mem_of_mem_take hx))
  have aX:=El hcd
  rw[List.length_take,List.length_drop,Nat.min_eq_left (by omega)] at aX
  have hp9:10^(i-fr)≤10^8:=Nat.pow_le_pow_right (by decide) (by omega)
  have e8:(10:Nat)^8=100000000:=by decide
  have rH:bM ((l.drop fr).take (i+1-fr))=bM ((l.drop fr).take (i-fr))*10+dv (l.getD i 0):=by
   have:(l.drop fr)[i-fr]? = some (l.getD i 0):=by
    rw[List.getElem?_drop,show fr+(i-fr)=i by omega,List.getD_eq_getElem?_getD,List.getElem?_eq_getElem Qs]
    rfl
   rw[show i+1-fr=(i-fr)+1 by omega,List.take_add_one,this]
   exact Uj _ _
  have hdv:dv (l.getD i 0)=(l.getD i 0).toNat-48:=rfl
  rw[hdv] at rH
  generalize (l.getD i 0).toNat=c at *
  generalize bM ((l.drop fr).take (i-fr))=D at *
  have w1:IntKind.i64.wrap (10*(D:Int))=((10*D:Nat):Int):=wrapN _ (by omega) (by omega)
  have w2:IntKind.u8.wrap ((c:Int)-48)=((c-48:Nat):Int):=by
   simp[IntKind.wrap,IntKind.bits,IntKind.signed]
   omega
  have w3:IntKind.i64.wrap ((c-48:Nat):Int)=((c-48:Nat):Int):=wrapN _ rfl (by omega)
  have w4:IntKind.i64.wrap (((10*D:Nat):Int)+((c-48:Nat):Int))=((D*10+(c-48):Nat):Int):=wrapN _ (by omega) (by omega)
  simp only[kU,g0,g4,g6,g7,cX,e1,w1,w2,w3,w4,wi,VX,Nat.reduceEqDiff,Nat.reduceAdd]
  refine⟨i+1,by omega,by omega,by omega,fun t ht => ?_,by rw[rH],rfl⟩
  try simp only[sB]
  repeat rw[if_neg (by omega)]
  exact hk t ht
 ·have qX:i=tq:=by omega
  subst qX
  simp only[kU,g4,g7,cX,VX,Nat.reduceEqDiff,Nat.reduceAdd]
  refine hQ _ (fun t ht => ?_) ?_
  ·try simp only[sB]
   repeat rw[if_neg (by omega)]
   exact hk t ht
  ·simp only[g6,VX,Nat.reduceEqDiff,Nat.reduceAdd]
set_option maxHeartbeats 1000000 in
theorem qF (l:List UInt8) (hd:l.all gI=true) (hl:l.length≤1000000000):TC 224 [aR l] (bP (bM l)):=by
 refine TC.walk ⟨true,false⟩ DT rfl (Nat.le_of_ble_eq_true rfl) rfl (lE _) ?_
 have e3:∀lr,qY lr [.int .i64 0] 0 [] []=some (.ref 0 0 0 0 0,[.row 0 (([]:List Nat).map tV) 1 true]):=fun lr=>nS (H:=[]) (lr:=lr) (z:=[.int .i64 0]) rfl
 have e4:∀(x:Nat) (H:aB),qY false [.int .i64 0] 1 [(0,tV x)] H=some (.tree [tV x] (.cl 1),H):=fun x H=>sE (z:=[.int .i64 0]) rfl rfl rfl
 have e5:∀(x:Nat) (H:aB),eY 1 (.tree [tV x] (.cl 1)) H=some [tV x]:=fun x H=>pC rfl rfl
 simp only[Am,wL,e3,aZ,VX,Nat.reduceEqDiff,Nat.reduceAdd]
 refine bB (fun(s:List Nat×Int) ρ H=>H=[.row s.1.length (s.1.map tV) 1 true]∧s.2≤l.length ∧ -9≤s.2∧s.1.length+s.2.toNat≤l.length∧(∀d∈s.1,d<1000000000)∧bM l=val 1000000000 s.1+1000000000^s.1.length*bM (l.take s.2.toNat) ∧
  ρ 0=aR l∧ρ 3 = .ref 0 s.1.length 0 s.1.length s.1.length∧ρ 4=VI s.2) (fun s=>s.2.toNat) ([],(l.length:Int)) ⟨rfl,Int.le_refl _,by simp only;omega,by simp,by simp,?_,rfl,rfl,rfl⟩ ?_
 ·simp only[Int.toNat_natCast,List.take_length,List.length_nil,Nat.pow_zero,Nat.one_mul,val,Nat.zero_add]
 rintro⟨out,z⟩ ρ H ⟨rfl,hz,hz9,iC,hds,hv,g0,g3,g4⟩
 simp only at hz hz9 iC hds hv g3 g4
 by_cases jN:0<z
 ·obtain⟨tq,rfl⟩:∃tq:Nat,z=tq:=⟨z.toNat,by omega⟩
  rw[Int.toNat_natCast] at iC hv
  have hto:0<tq:=by omega
  have key:∀fr:Nat,fr≤tq→tq-fr≤9→bM (l.take tq)=bM (l.take fr)*10^(tq-fr)+bM ((l.drop fr).take (tq-fr))∧bM ((l.drop fr).take (tq-fr))<1000000000:=by
   intro fr h1 h2
   have hcd:((l.drop fr).take (tq-fr)).all gI=true:=by
    rw[List.all_eq_true] at hd ⊢
    exact fun x hx=>hd x (List.mem_of_mem_drop (List.mem_of_mem_take hx))
   have hlen:((l.drop fr).take (tq-fr)).length=tq-fr:=by rw[List.length_take,List.length_drop];omega
   constructor
   ·have:=List.take_add (l:=l) (i:=fr) (j:=tq-fr)
    rw[show fr+(tq-fr)=tq by omega] at this
    rw[this,Hy,hlen]
   ·have:=El hcd
    rw[hlen] at this
    exact Nat.lt_of_lt_of_le this (Nat.le_trans (Nat.pow_le_pow_right (by decide) h2) (by decide))
  have eP:=fun X=>oW (f:=tV) (xs:=out) (x:=X) (lo:=0) (b:=0) (g:=out.length) (n:=out.length) (e:=1) (bytes:=8) (H:=[.row out.length (out.map tV) 1 true]) cE rfl (Nat.zero_le _) (by decide) (by decide) (by omega)
  have Fk:∀X,([.row out.length (out.map tV) 1 true]:aB).set 0 (.row (out.length+1) ((out++[X]).map tV) 1 true)=[.row (out.length+1) ((out++[X]).map tV) 1 true]:=fun _=>rfl
  simp only[Fk] at eP
  by_cases h9:(9:Int)<(tq:Int)
  ·obtain⟨k1,k2⟩:=key (tq-9) (by omega) (by omega)
   have wz:IntKind.i64.wrap ((tq:Int)-9)=((tq-9:Nat):Int):=wrapN _ (by omega) (by omega)
   rw[show tq-(tq-9)=9 by omega] at k1 k2
   rw[show (10:Nat)^9=1000000000 by decide] at k1
   simp only[kQ,g0,g3,g4,jN,h9,wz,VX,Nat.reduceEqDiff,Nat.reduceAdd]
   refine I4 (l:=l) hd (by omega) (fr:=tq-9) (tq:=tq) (by omega) (by omega) (by omega) ?_ ?_ ?_ ?_ fun tZ q q6 => ?_
   all_goals first | (simp only[g0,g4,VX,Nat.reduceEqDiff,Nat.reduceAdd];done) | skip
   rw[show tq-(tq-9)=9 by omega] at q6
   have u3:tZ 3 = .ref 0 out.length 0 out.length out.length:=by rw[q 3 (by decide)];simp only[g3,VX,Nat.reduceEqDiff,Nat.reduceAdd]
   have u0:tZ 0=aR l:=by rw[q 0 (by decide)];simp only[g0,VX,Nat.reduceEqDiff,Nat.reduceAdd]
   have u4:tZ 4=VI tq:=by rw[q 4 (by decide)];simp only[g4,VX,Nat.reduceEqDiff,Nat.reduceAdd]
   generalize bM ((l.drop (tq-9)).take 9)=X at *
   have e4:=e4 X
   have e5:=e5 X
   have eP:=eP X
   simp only[u0,u3,u4,q6,e4,e5,eP,wz,VX,Nat.reduceEqDiff,Nat.reduceAdd]
   refine⟨(out++[X],((tq-9:Nat):Int)),by simp only;omega,?_,by simp only;omega,by simp only;omega,?_,?_,?_,?_⟩
   ·simp
   ·simp only[List.length_append,List.length_cons,List.length_nil];omega
   ·intro d hdm
    rcases List.mem_append.1 hdm with h | h
    ·exact hds d h
    ·rw[List.mem_singleton] at h;omega
   ·simp only[Int.toNat_natCast]
    rw[hv,k1,pH,List.length_append,List.length_singleton,Nat.pow_succ]
    grind
   ·simp
  ·obtain⟨k1,k2⟩:=key 0 (by omega) (by omega)
   rw[List.take_zero,IK,Nat.zero_mul,Nat.zero_add,Nat.sub_zero] at k1
   rw[Nat.sub_zero] at k2
   have wz:IntKind.i64.wrap ((tq:Int)-9)=(tq:Int)-9:=wrap64 (by omega) (by omega)
   simp only[kQ,g0,g3,g4,jN,h9,VX,Nat.reduceEqDiff,Nat.reduceAdd]
   refine I4 (l:=l) hd (by omega) (fr:=0) (tq:=tq) (by omega) (by omega) (by omega) ?_ ?_ ?_ ?_ fun tZ q q6 => ?_
   all_goals first | (simp only[g0,g4,VX,Nat.reduceEqDiff,Nat.reduceAdd];done) | (simp only[VX,Nat.reduceEqDiff,Nat.reduceAdd];rfl) | skip
   rw[Nat.sub_zero] at q6
   have u3:tZ 3 = .ref 0 out.length 0 out.length out.length:=by rw[q 3 (by decide)];simp only[g3,VX,Nat.reduceEqDiff,Nat.reduceAdd]
   have u0:tZ 0=aR l:=by rw[q 0 (by decide)];simp only[g0,VX,Nat.reduceEqDiff,Nat.reduceAdd]
   have u4:tZ 4=VI tq:=by rw[q 4 (by decide)];simp only[g4,VX,Nat.reduceEqDiff,Nat.reduceAdd]
   generalize bM ((l.drop 0).take tq)=X at *
   have e4:=e4 X
   have e5:=e5 X
   have eP:=eP X
   simp only[u0,u3,u4,q6,e4,e5,eP,wz,VX,Nat.reduceEqDiff,Nat.reduceAdd]
   refine⟨(out++[X],(tq:Int)-9),by simp only;omega,?_,by simp only;omega,by simp only;omega,?_,?_,?_,?_⟩
   ·simp
   ·simp only[List.length_append,List.length_cons,List.length_nil];omega
   ·intro d hdm
    rcases List.mem_append.1 hdm with h | h
    ·exact hds d h
    ·rw[List.mem_singleton] at h;omega
   ·simp only
    rw[show ((tq:Int)-9).toNat=0 by omega,List.take_zero,IK,Nat.mul_zero,Nat.add_zero,hv,k1,pH]
   ·simp
 ·have h0:z.toNat=0:=by omega
  rw[h0,List.take_zero,IK,Nat.mul_zero,Nat.add_zero] at hv
  rw[hv]
  have ct:=TC.XR (f:=tV) (xs:=out) (size:=1) (e:=1) (w:=true) (H:=[.row out.length (out.map tV) 1 true]) (b:=0) (gn:=out.length) (n:=out.length) (c:=out.length) (pJ out hds (by show out.length≤70368744177664;omega)) cE rfl (Nat.le_refl _) Dh (fun _=>rfl) rfl rfl
  simp only[kQ,g0,g3,g4,jN,ct,VX,Nat.reduceEqDiff,Nat.reduceAdd]
  exact aH (bU _)
end Go.PM
namespace Go.PM
open Go.Lib
def AL (l:List UInt8):VV:=match uF l with
 | some q => .eK [cN q,VB true]
 | none => .eK [Hz,VB false]
theorem mP (q:Rat):aW (cN q)=true:=by simp[cN,aW,aK,bU,lM]
theorem yD (q:Rat):gH (cN q)=true:=by simp[cN,gH,pE,lE,lM]
theorem PQ (l:List UInt8):gH (AL l)=true:=by
 unfold AL
 split<;>simp[gH,pE,yD,OU,lM]
theorem Ir {neg:Bool} {t b:Nat} (hb:b≠0) (hg:Nat.gcd t b=1) (hn:¬(neg=true∧t=0)):cN (mkRat (jD neg t) b) = .agg [VB neg,bP t,bP b]:=by
 obtain⟨e1,e2⟩:=GK (neg:=neg) hb hg
 refine MF ?_ (by rw[e1,lT]) e2
 rw[e1]
 cases neg with
 | false=>unfold jD;simp
 |
  true =>
  have:t≠0:=fun h=>hn ⟨rfl,h⟩
  unfold jD
  simp
  omega
theorem BY {n:Nat}:(((aC 1000000000 n).length:Nat):Int)=0↔n=0:=by
 rw[←kA (b:=1000000000) (n:=n) (by decide),←List.length_eq_zero_iff]
 omega
theorem Nj {neg:Bool} {d t:List UInt8} (h:(47:UInt8)∈t):mE neg d (some t)=none:=by
 have ht:gC t=false:=by
  cases hk:gC t with
  | false=>rfl
  | true=>exact absurd h (Wl (iM.1 hk).1)
 unfold mE
 split
 ·rfl
 ·simp only
  rw[if_neg (fun h=>by rw[ht] at h;exact absurd h.1 (by decide))]
theorem at_one (x:List UInt8) (H:aB):bF 1 (bT aR [x]) (VI 0) H=some (.cO (aR x) 0):=aP (f:=aR) (t := .op) (H:=H) (size:=1) (k := .i64) (xs:=[x]) (i:=0) rfl rfl
theorem Y6 (x y:List UInt8) (H:aB):bF 1 (bT aR [x,y]) (VI 0) H=some (.cO (aR x) 0):=aP (f:=aR) (t := .op) (H:=H) (size:=1) (k := .i64) (xs:=[x,y]) (i:=0) rfl rfl
theorem Yd (x y:List UInt8) (H:aB):bF 1 (bT aR [x,y]) (VI 1) H=some (.cO (aR y) 0):=aP (f:=aR) (t := .op) (H:=H) (size:=1) (k := .i64) (xs:=[x,y]) (i:=1) rfl rfl
theorem Rh (x:List UInt8) (H:aB):pF (bT aR [x]) H=some (VI 1):=dZ (f:=aR) (xs:=[x])
theorem YL (x y:List UInt8) (H:aB):pF (bT aR [x,y]) H=some (VI 2):=dZ (f:=aR) (xs:=[x,y])
set_option maxRecDepth 100000 in
set_option maxHeartbeats 4000000 in
theorem GY (l:List UInt8) (hl:l.length≤1000000000):TC 175 [aR l] (AL l):=by
 refine TC.walk ⟨true,false⟩ G4 rfl (Nat.le_of_ble_eq_true rfl) rfl (PQ l) ?_
 by_cases xN:l=[]
 ·subst xN
  have eC:TC 222 [.sc (.string ⟨#[]⟩),.sc (.int .u8 47)] (bT aR [[]]):=CT [] 47 (by simp)
  have eD:TC 223 [.sc (.string ⟨#[]⟩)] (VB false):=nL [] (by simp)
  have e1:yO (.string ⟨#[]⟩)=some (.int .i64 0):=rfl
  have a1:=at_one []
  have a2:=Rh []
  simp only[bQ,aY,e1,eC,eD,a1,a2,Int.reduceLT,Int.reduceLE,aE,gG,Nat.reduceLeDiff,Nat.reduceLT,Nat.reduceSub,VX,Nat.reduceEqDiff,Nat.reduceAdd]
  exact bG (d:=6) fJ (aJ (v:=VB false) rfl)
 have hp:0<l.length:=List.length_pos_iff.2 xN
 have jN:(0:Int)<(l.length:Int):=by omega
 have e0:=EF l hp
 unfold AL
 unfold uF
 have lL:isNeg l=decide (((l.getD 0 0).toNat:Int)=45):=by
  unfold isNeg
  rw[decide_eq_true (show 1≤l.length from hp),Bool.true_and]
  refine decide_eq_decide.2 ⟨fun h=>by rw[h];rfl,fun h=>UInt8.toNat_inj.1 (by rw[show (45:UInt8).toNat=45 from rfl];omega)⟩
 have Ps:(if isNeg l=true then l.drop 1 else l).length≤l.length:=by split<;>simp
 have q0:isNeg l=false→¬((l.getD 0 0).toNat:Int)=45:=fun h=>by rw[lL] at h;exact of_decide_eq_false h
 have q9:isNeg l=true→((l.getD 0 0).toNat:Int)=45:=fun h=>by rw[lL] at h;exact of_decide_eq_true h
 have r0:isNeg l=false→(if isNeg l=true then l.drop 1 else l)=l:=fun h=>by rw[h];rfl
 have r9:isNeg l=true→sC (aR l) (some (VI 1)) none=some (aR (if isNeg l=true then l.drop 1 else l)):=fun h=>by rw[h];exact Kr l (a:=1) hp
 generalize (if isNeg l=true then l.drop 1 else l)=r at *
 generalize isNeg l=neg at *
 clear lL
 have eC:TC 222 [aR r,.sc (.int .u8 47)] (bT aR (fY 47 r)):=CT r 47 (by omega)
 obtain⟨l1,l2⟩:=O3 (c:=47) (l:=r)
 cases hs:(kH 47 r).2 with
 |
  none =>
  have hd:=(xR hs).2.1
  rw[Nl hs] at eC
  rw[hd]
  have a1:=at_one r
  have a2:=Rh r
  have eD:=nL r (by omega)
  cases hk:gC r with
  |
   false =>
   rw[hk] at eD
   have Ur:mE neg r none=none:=if_pos (.inl hk)
   rw[Ur]
   cases neg with
   |
    false =>
    have q1:=q0 rfl
    have Ps:=r0 rfl
    subst Ps
    simp only[bQ,aY,aZ,jN,e0,q1,eC,eD,a1,a2,Int.reduceLT,aE,aQ,aI,aM,dA,eU,cZ,eO,gG,Nat.reduceLeDiff,Nat.reduceLT,Nat.reduceSub,VX,Nat.reduceEqDiff,Nat.reduceAdd]
    exact bG (d:=6) fJ (aJ (v:=VB false) rfl)
   |
    true =>
    have q1:=q9 rfl
    have e9:=r9 rfl
    simp only[bQ,aY,aZ,jN,e0,q1,eC,eD,a1,a2,Int.reduceLT,e9,aE,aQ,aI,aM,dA,eU,cZ,eO,gG,Nat.reduceLeDiff,Nat.reduceLT,Nat.reduceSub,VX,Nat.reduceEqDiff,Nat.reduceAdd]
    exact bG (d:=6) fJ (aJ (v:=VB false) rfl)
  |
   true =>
   rw[hk] at eD
   have hbt:=vY hk
   have eN:=qF r (iM.1 hk).1 (by omega)
   by_cases hz:neg=true∧bM r=0
   ·have Ur:mE neg r none=none:=if_pos (.inr hz)
    rw[Ur]
    obtain⟨rfl,FQ⟩:=hz
    have q1:=q9 rfl
    have e9:=r9 rfl
    have EI:(((aC 1000000000 (bM r)).length:Nat):Int)=0:=BY.2 FQ
    simp only[bQ,aY,aZ,jN,e0,q1,eC,eD,a1,a2,eN,e9,cI,EI,Int.reduceLT,aE,aQ,aI,aM,dA,eU,cZ,eO,gG,Nat.reduceLeDiff,Nat.reduceLT,Nat.reduceSub,VX,Nat.reduceEqDiff,Nat.reduceAdd]
    exact bG (d:=6) fJ (aJ (v:=VB false) rfl)
   ·have Ci:neg=true→¬(((aC 1000000000 (bM r)).length:Nat):Int)=0:=fun h h0=>hz ⟨h,BY.1 h0⟩
    have Ur:mE neg r none=some (mkRat (jD neg (bM r)) 1):=if_neg (by rw[hk];rintro(h | h);exact absurd h (by decide);exact hz h)
    rw[Ur]
    simp only[]
    rw[Ir (by decide) (Nat.gcd_one_right _) hz]
    cases neg with
    |
     false =>
     have q1:=q0 rfl
     have Ps:=r0 rfl
     subst Ps
     simp only[bQ,aY,aZ,jN,e0,q1,eC,eD,a1,a2,eN,Int.reduceLT,Int.reduceEq,aE,aQ,aI,aM,dA,eU,cZ,eO,gG,Nat.reduceLeDiff,Nat.reduceLT,Nat.reduceSub,VX,Nat.reduceEqDiff,Nat.reduceAdd]
     exact bG (d:=6) (oJ (aJ (v:=VB false) rfl) (aJ (bU _)) Mu) (aJ (v:=VB true) rfl)
    |
     true =>
     have q1:=q9 rfl
     have e9:=r9 rfl
     have EI:=Ci rfl
     simp only[bQ,aY,aZ,jN,e0,q1,eC,eD,a1,a2,eN,Int.reduceLT,Int.reduceEq,e9,cI,EI,aE,aQ,aI,aM,dA,eU,cZ,eO,gG,Nat.reduceLeDiff,Nat.reduceLT,Nat.reduceSub,VX,Nat.reduceEqDiff,Nat.reduceAdd]
     exact bG (d:=6) (oJ (aJ (v:=VB true) rfl) (aJ (bU _)) Mu) (aJ (v:=VB true) rfl)
 |
  some t =>
  have ltt:=l2 t hs
  rw[Gs hs] at eC
  generalize (kH 47 r).1=d at *
  by_cases hm:(47:UInt8)∈t
  ·rw[Nj hm]
   have hP:=NF hm
   generalize hPP:fY 47 t=P at *
   have a2:∀H,pF (bT aR (d::P)) H=some (VI ((d::P).length:Int)):=fun H=>dZ (f:=aR) (xs:=d::P)
   have hq3:(2:Int)<((d::P).length:Int):=by rw[List.length_cons];omega
   generalize hQQ:d::P=PP at *
   clear hQQ hPP hP
   cases neg with
   |
    false =>
    have q1:=q0 rfl
    have Ps:=r0 rfl
    subst Ps
    simp only[bQ,aY,aZ,jN,e0,q1,eC,a2,hq3,aE,aQ,aI,aM,dA,eU,cZ,eO,gG,Nat.reduceLeDiff,Nat.reduceLT,Nat.reduceSub,VX,Nat.reduceEqDiff,Nat.reduceAdd]
    exact bG (d:=6) fJ (aJ (v:=VB false) rfl)
   |
    true =>
    have q1:=q9 rfl
    have e9:=r9 rfl
    simp only[bQ,aY,aZ,jN,e0,q1,eC,a2,hq3,e9,aE,aQ,aI,aM,dA,eU,cZ,eO,gG,Nat.reduceLeDiff,Nat.reduceLT,Nat.reduceSub,VX,Nat.reduceEqDiff,Nat.reduceAdd]
    exact bG (d:=6) fJ (aJ (v:=VB false) rfl)
  ·rw[Db hm] at eC
   have a1:=Y6 d t
   have a3:=Yd d t
   have a2:=YL d t
   have eD:=nL d (by omega)
   have eF:=nL t (by omega)
   cases hk:gC d with
   |
    false =>
    rw[hk] at eD
    have Ur:mE neg d (some t)=none:=if_pos (.inl hk)
    rw[Ur]
    cases neg with
    |
     false =>
     have q1:=q0 rfl
     have Ps:=r0 rfl
     subst Ps
     simp only[bQ,aY,aZ,jN,e0,q1,eC,eD,a1,a2,Int.reduceLT,aE,aQ,aI,aM,dA,eU,cZ,eO,gG,Nat.reduceLeDiff,Nat.reduceLT,Nat.reduceSub,VX,Nat.reduceEqDiff,Nat.reduceAdd]
     exact bG (d:=6) fJ (aJ (v:=VB false) rfl)
    |
     true =>
     have q1:=q9 rfl
     have e9:=r9 rfl
     simp only[bQ,aY,aZ,jN,e0,q1,eC,eD,a1,a2,Int.reduceLT,e9,aE,aQ,aI,aM,dA,eU,cZ,eO,gG,Nat.reduceLeDiff,Nat.reduceLT,Nat.reduceSub,VX,Nat.reduceEqDiff,Nat.reduceAdd]
     exact bG (d:=6) fJ (aJ (v:=VB false) rfl)
   |
    true =>
    rw[hk] at eD
    have hbt:=vY hk
    have eN:=qF d (iM.1 hk).1 (by omega)
    by_cases hz:neg=true∧bM d=0
    ·have Ur:mE neg d (some t)=none:=if_pos (.inr hz)
     rw[Ur]
     obtain⟨rfl,FQ⟩:=hz
     have q1:=q9 rfl
     have e9:=r9 rfl
     have EI:(((aC 1000000000 (bM d)).length:Nat):Int)=0:=BY.2 FQ
     simp only[bQ,aY,aZ,jN,e0,q1,eC,eD,a1,a2,eN,e9,cI,EI,Int.reduceLT,aE,aQ,aI,aM,dA,eU,cZ,eO,gG,Nat.reduceLeDiff,Nat.reduceLT,Nat.reduceSub,VX,Nat.reduceEqDiff,Nat.reduceAdd]
     exact bG (d:=6) fJ (aJ (v:=VB false) rfl)
    ·have Ci:neg=true→¬(((aC 1000000000 (bM d)).length:Nat):Int)=0:=fun h h0=>hz ⟨h,BY.1 h0⟩
     have Ur:mE neg d (some t)=if gC t=true∧1<bM t∧Nat.gcd (bM d) (bM t)=1 then some (mkRat (jD neg (bM d)) (bM t)) else none:=if_neg (by rw[hk];rintro(h | h);exact absurd h (by decide);exact hz h)
     rw[Ur]
     clear Ur
     cases ht:gC t with
     |
      false =>
      rw[ht] at eF
      rw[if_neg (fun h=>absurd h.1 (by decide))]
      cases neg with
      |
       false =>
       have q1:=q0 rfl
       have Ps:=r0 rfl
       subst Ps
       simp only[bQ,aY,aZ,jN,e0,q1,eC,eD,eF,a1,a2,a3,eN,Int.reduceLT,Int.reduceEq,aE,aQ,aI,aM,dA,eU,cZ,eO,gG,Nat.reduceLeDiff,Nat.reduceLT,Nat.reduceSub,VX,Nat.reduceEqDiff,Nat.reduceAdd]
       exact bG (d:=6) fJ (aJ (v:=VB false) rfl)
      |
       true =>
       have q1:=q9 rfl
       have e9:=r9 rfl
       have EI:=Ci rfl
       simp only[bQ,aY,aZ,jN,e0,q1,eC,eD,eF,a1,a2,a3,eN,Int.reduceLT,Int.reduceEq,e9,cI,EI,aE,aQ,aI,aM,dA,eU,cZ,eO,gG,Nat.reduceLeDiff,Nat.reduceLT,Nat.reduceSub,VX,Nat.reduceEqDiff,Nat.reduceAdd]
       exact bG (d:=6) fJ (aJ (v:=VB false) rfl)
     |
      true =>
      rw[ht] at eF
      have Jk:=vY ht
      have eM:=qF t (iM.1 ht).1 (by omega)
      have c2:∀lo H K,_:=fun lo H K=>Hr (n:=bM t) (lo:=lo) (H:=H) (K:=K) (Nat.le_of_lt (mG (by omega)))
      have c3:=CQ (bM d) (bM t) (mG (by omega)) (mG (by omega))
      by_cases h1:dX (bM t) 1≤0
      ·have hle:¬1<bM t:=fun h=>by unfold dX at h1;rw[if_neg (by omega),if_neg (by omega)] at h1;exact absurd h1 (by decide)
       rw[if_neg (fun h=>hle h.2.1)]
       cases neg with
       |
        false =>
        have q1:=q0 rfl
        have Ps:=r0 rfl
        subst Ps
        simp only[bQ,aY,aZ,jN,e0,q1,eC,eD,eF,a1,a2,a3,eN,eM,c2,h1,Int.reduceLT,Int.reduceEq,aE,aQ,aI,aM,dA,eU,cZ,eO,gG,Nat.reduceLeDiff,Nat.reduceLT,Nat.reduceSub,VX,Nat.reduceEqDiff,Nat.reduceAdd]
        exact bG (d:=6) fJ (aJ (v:=VB false) rfl)
       |
        true =>
        have q1:=q9 rfl
        have e9:=r9 rfl
        have EI:=Ci rfl
        simp only[bQ,aY,aZ,jN,e0,q1,eC,eD,eF,a1,a2,a3,eN,eM,c2,h1,Int.reduceLT,Int.reduceEq,e9,cI,EI,aE,aQ,aI,aM,dA,eU,cZ,eO,gG,Nat.reduceLeDiff,Nat.reduceLT,Nat.reduceSub,VX,Nat.reduceEqDiff,Nat.reduceAdd]
        exact bG (d:=6) fJ (aJ (v:=VB false) rfl)
      ·have aX:1<bM t:=by
        rcases Nat.lt_or_ge 1 (bM t) with h | h
        ·exact h
        ·exfalso
         apply h1
         unfold dX
         split<;>(try split)<;>first | decide | omega
       have Xg:bl (Nat.gcd (bM d) (bM t))≤665:=Nat.le_trans (jL (Nat.le_of_dvd (by omega) (Nat.gcd_dvd_right _ _))) Jk
       have c4:∀lo H K,_:=fun lo H K=>Hr (n:=Nat.gcd (bM d) (bM t)) (lo:=lo) (H:=H) (K:=K) (Nat.le_of_lt (mG (by omega)))
       by_cases hg:Nat.gcd (bM d) (bM t)=1
       ·have h4:dX (Nat.gcd (bM d) (bM t)) 1=0:=by rw[hg];rfl
        rw[if_pos ⟨rfl,aX,hg⟩]
        simp only[]
        rw[Ir (by omega) hg hz]
        cases neg with
        |
         false =>
         have q1:=q0 rfl
         have Ps:=r0 rfl
         subst Ps
         simp only[bQ,aY,aZ,jN,e0,q1,eC,eD,eF,a1,a2,a3,eN,eM,c2,c3,c4,h1,h4,Int.reduceLT,Int.reduceEq,aE,aQ,aI,aM,dA,eU,cZ,eO,gG,Nat.reduceLeDiff,Nat.reduceLT,Nat.reduceSub,VX,Nat.reduceEqDiff,Nat.reduceAdd]
         exact bG (d:=6) (oJ (aJ (v:=VB false) rfl) (aJ (bU _)) (aJ (bU _))) (aJ (v:=VB true) rfl)
        |
         true =>
         have q1:=q9 rfl
         have e9:=r9 rfl
         have EI:=Ci rfl
         simp only[bQ,aY,aZ,jN,e0,q1,eC,eD,eF,a1,a2,a3,eN,eM,c2,c3,c4,h1,h4,Int.reduceLT,Int.reduceEq,e9,cI,EI,aE,aQ,aI,aM,dA,eU,cZ,eO,gG,Nat.reduceLeDiff,Nat.reduceLT,Nat.reduceSub,VX,Nat.reduceEqDiff,Nat.reduceAdd]
         exact bG (d:=6) (oJ (aJ (v:=VB true) rfl) (aJ (bU _)) (aJ (bU _))) (aJ (v:=VB true) rfl)
       ·have h4:¬dX (Nat.gcd (bM d) (bM t)) 1=0:=by
         unfold dX
         split<;>(try split)<;>first | decide | omega
        rw[if_neg (fun h=>hg h.2.2)]
        cases neg with
        |
         false =>
         have q1:=q0 rfl
         have Ps:=r0 rfl
         subst Ps
         simp only[bQ,aY,aZ,jN,e0,q1,eC,eD,eF,a1,a2,a3,eN,eM,c2,c3,c4,h1,h4,Int.reduceLT,Int.reduceEq,aE,aQ,aI,aM,dA,eU,cZ,eO,gG,Nat.reduceLeDiff,Nat.reduceLT,Nat.reduceSub,VX,Nat.reduceEqDiff,Nat.reduceAdd]
         exact bG (d:=6) fJ (aJ (v:=VB false) rfl)
        |
         true =>
         have q1:=q9 rfl
         have e9:=r9 rfl
         have EI:=Ci rfl
         simp only[bQ,aY,aZ,jN,e0,q1,eC,eD,eF,a1,a2,a3,eN,eM,c2,c3,c4,h1,h4,Int.reduceLT,Int.reduceEq,e9,cI,EI,aE,aQ,aI,aM,dA,eU,cZ,eO,gG,Nat.reduceLeDiff,Nat.reduceLT,Nat.reduceSub,VX,Nat.reduceEqDiff,Nat.reduceAdd]
         exact bG (d:=6) fJ (aJ (v:=VB false) rfl)
end Go.PM
namespace Go.PM
open Go.Lib
end Go.PM
namespace Go.PM
open Go.Lib
theorem Nq {l:List UInt8} {q:Rat} (h:uF l=some q):AL l = .eK [cN q,VB true]:=by unfold AL;rw[h]
theorem OW {l:List UInt8} (h:uF l=none):AL l = .eK [Hz,VB false]:=by unfold AL;rw[h]
end Go.PM
namespace Go.PM
open Go.Lib
def NM (o:Option (List Rat)):VV:=match o with
 | some qs => .eK [bT cN qs,VB true]
 | none => .eK [bT cN [],VB false]
theorem QJ:NM none = .eK [bT cN [],VB false]:=rfl
theorem Qp (qs:List Rat):NM (some qs) = .eK [bT cN qs,VB true]:=rfl
theorem KJ (q:Rat):(aA (cN q)).length=3:=rfl
theorem zV (qs:List Rat):aW (bT cN qs)=true:=jC KJ mP
theorem SG (q:Rat):xK (cN q)=true:=by simp[xK,cN,bP,gA]
theorem KP (qs:List Rat):gH (bT cN qs)=true:=Bx KJ yD SG
theorem S9 (o:Option (List Rat)):gH (NM o)=true:=by
 unfold NM
 split
 ·exact DD (KP _) rfl
 ·exact DD (KP []) rfl
set_option maxHeartbeats 1000000 in
theorem HW (xs:List ByteArray) (hn:xs.length≤1000000000) (hs:∀s∈xs,s.size≤1000000000):TC 115 [fQ xs] (NM (Af xs)):=by
 refine TC.walk ⟨true,false⟩ HM rfl (Nat.le_of_ble_eq_true rfl) (by simp[aK,dQ]) (S9 _) ?_
 unfold Af
 by_cases Q4:(300:Int)<(xs.length:Int)
 ·rw[if_neg (by omega)]
  simp only[zY,vB,Q4,VX,Nat.reduceEqDiff,Nat.reduceAdd]
  exact Dj
 rw[if_pos (by omega)]
 have e0:=fun H=>nS (H:=H) (lr:=false) (z:=[.bool false,.slice none 0 0,.slice none 0 0]) rfl
 simp only[zY,vB,Q4,e0,VX,Nat.reduceEqDiff,Nat.reduceAdd]
 refine Ep (fun(s:Nat×List Rat) ρ H=>s.1≤xs.length∧(xs.take s.1).mapM pQ=some s.2∧H=[.row s.1 (s.2.map cN) 3 true]∧ρ 4 = .ref 0 s.1 0 s.1 s.1∧ρ 0=fQ xs∧ρ 13=VI xs.length∧ρ 14=VI s.1) (fun s=>xs.length-s.1) (0,[]) ⟨Nat.zero_le _,rfl,rfl,rfl,rfl,rfl,rfl⟩ ?_
 rintro⟨i,out⟩ ρ H ⟨hi,Jl,rfl,g4,g13,g14,g15⟩
 simp only at hi Jl g4 g15
 have iC:out.length=i:=by rw[uW Jl,List.length_take];omega
 by_cases cX:(i:Int)<(xs.length:Int)
 ·obtain⟨x,hx⟩:∃x,xs[i]? = some x:=⟨_,List.getElem?_eq_getElem (by omega)⟩
  have hxm:=List.mem_of_getElem? hx
  have e1:=fun H=>aP (f:=sV) (t := .op) (H:=H) (size:=1) (k := .i64) hx rfl
  have wi:IntKind.i64.wrap ((i:Int)+1)=((i+1:Nat):Int):=wrapN (i+1) (by omega) (by omega)
  have e2:=GY x.data.toList (by have:=hs x hxm;rw[Array.length_toList];show x.size≤_;omega)
  rw[←WG] at e2
  cases hp:pQ x with
  |
   none =>
   rw[OW hp] at e2
   rw[mapM_none hp hxm]
   simp only[oI,g4,g13,g14,g15,cX,e1,e2,Gj,Iz,Nh,aO,aN,aG,gG,Nat.reduceLeDiff,Nat.reduceLT,Nat.reduceSub,jE,bN,bX,dY,iI,kS,bne_iff_ne,ne_eq,not_false_eq_true,not_true_eq_false,VX,Nat.reduceEqDiff,Nat.reduceAdd]
   exact Dj
  |
   some q =>
   rw[Nq hp] at e2
   have eL:∀H,qY false [.bool false,.slice none 0 0,.slice none 0 0] 1 [(0,cN q)] H=some (.tree [cN q] (.cl 3),H):=fun H=>sE rfl rfl rfl
   have eS:∀H,eY 3 (.tree [cN q] (.cl 3)) H=some [cN q]:=fun H=>pC rfl rfl
   have eP:gF 0 3 56 (.ref 0 i 0 i i) [cN q] [.row i (out.map cN) 3 true,.row 0 [cN q] 3 true]=some (.ref 0 (i+1) 0 (i+1) (i+1),[.row (i+1) ((out++[q]).map cN) 3 true,.row 0 [cN q] 3 true]):=by
    rw[oW (f:=cN) (xs:=out) (by rw[cE]) iC.symm (Nat.le_refl _) (by decide) (by decide) (by omega),List.set_cons_zero]
   simp only[oI,g4,g13,g14,g15,cX,e1,e2,eL,eS,eP,wi,bE,cM,gR,aI,aQ,aM,gG,Nat.reduceLeDiff,Nat.reduceLT,Nat.reduceSub,jE,bN,bX,dY,iI,kS,bne_iff_ne,ne_eq,not_false_eq_true,not_true_eq_false,VX,Nat.reduceEqDiff,Nat.reduceAdd]
   refine⟨(i+1,out++[q]),by simp only;omega,?_,by simp only;omega,by simp only[EY hx];exact KA Jl hp,rfl,?_⟩
   ·rw[tS (kM _ (dW mP)),BV]
   ·simp only[dR,g13,g14,pN (dQ _),xY (Nat.lt_succ_self 0),VX,Nat.reduceEqDiff,Nat.reduceAdd,List.take_zero,fL,List.all_nil,List.length_nil,dR,DB,pN]
 ·have qX:i=xs.length:=by omega
  subst qX
  rw[List.take_length] at Jl
  rw[Jl]
  simp only[oI,g4,g13,g14,g15,cX,VX,Nat.reduceEqDiff,Nat.reduceAdd]
  refine bG (d:=6) ?_ (aJ (v:=VB true) rfl)
  have:=Om (d:=5) (w:=true) (f:=cN) (e:=3) (b:=0) (g:=xs.length) (c:=xs.length) (xs:=out) (H:=[.row xs.length (out.map cN) 3 true]) mP (by rw[cE]) (by omega)
  rw[iC] at this
  exact this
set_option maxHeartbeats 1000000 in
theorem GX (qs:List Rat) {B:Nat} (hb:∀q∈qs,cC q≤B) (hk:qs.length*(B+1)+1≤1099511627776) (hB:B≤1099511627776) (hn:qs.length≤1000000000):TC 142 [bT cN qs] (cN (C2 qs)):=by
 refine TC.walk ⟨true,false⟩ G7 rfl (Nat.le_of_ble_eq_true rfl) (by simp[aK,zV]) (yD _) ?_
 have e1:=A6
 simp only[CS,Aw,e1,bE,cM,gR,aI,aQ,aM,gG,Nat.reduceLeDiff,Nat.reduceLT,Nat.reduceSub,jE,bN,bX,dY,iI,kS,bne_iff_ne,ne_eq,not_false_eq_true,not_true_eq_false,VX,Nat.reduceEqDiff,Nat.reduceAdd]
 refine bB (fun(i:Nat) ρ H=>i≤qs.length∧H=[cell0,.row 0 [cN (C2 (qs.take i))] 3 true]∧ρ 2 = .ptr 0 0 0 0∧ρ 3 = .ptr 1 0 0 0∧ρ 0=bT cN qs∧ρ 7=VI qs.length∧ρ 8=VI i) (fun i=>qs.length-i) 0 ⟨Nat.zero_le _,rfl,rfl,rfl,rfl,rfl,rfl⟩ ?_
 rintro i ρ H ⟨hi,rfl,g2,g3,g0,g7,g8⟩
 by_cases cX:(i:Int)<(qs.length:Int)
 ·obtain⟨q,hq⟩:∃q,qs[i]? = some q:=⟨_,List.getElem?_eq_getElem (by omega)⟩
  have e2:=fun H=>aP (f:=cN) (t := .op) (H:=H) (size:=3) (k := .i64) hq rfl
  have wi:IntKind.i64.wrap ((i:Int)+1)=((i+1:Nat):Int):=wrapN (i+1) (by omega) (by omega)
  have h1:=zJ hb i
  have h2:=hb q (List.mem_of_getElem? hq)
  have e3:=Cw (C2 (qs.take i)) q (by omega) (by omega)
  rw[←K6 hq] at e3
  simp only[rO,g2,g3,g0,g7,g8,cX,e2,e3,wi,bE,cM,gR,aI,aQ,aM,gG,Nat.reduceLeDiff,Nat.reduceLT,Nat.reduceSub,jE,bN,bX,dY,iI,kS,bne_iff_ne,ne_eq,not_false_eq_true,not_true_eq_false,VX,Nat.reduceEqDiff,Nat.reduceAdd]
  exact⟨i+1,by omega,by omega,rfl,rfl⟩
 ·have qX:i=qs.length:=by omega
  subst qX
  simp only[rO,g2,g3,g0,g7,g8,cX,List.take_length,bE,cM,gR,aI,aQ,aM,gG,Nat.reduceLeDiff,Nat.reduceLT,Nat.reduceSub,jE,bN,bX,dY,iI,kS,bne_iff_ne,ne_eq,not_false_eq_true,not_true_eq_false,VX,Nat.reduceEqDiff,Nat.reduceAdd]
  exact aH (mP _)
theorem RS {q:Rat}:q.num<0↔q<0:=by rw[←Int.not_le,Rat.num_nonneg];constructor<;>intro h<;>grind
theorem Da (qs:List Rat) (hn:qs.length≤1000000000):TC 140 [bT cN qs] (VB (!(qs.any fun q=>decide (q<0)))):=by
 refine TC.walk ⟨true,false⟩ C9 rfl (Nat.le_of_ble_eq_true rfl) (by simp[aK,zV]) rfl ?_
 simp only[yJ,uZ,VX,Nat.reduceEqDiff,Nat.reduceAdd]
 refine bB (fun(i:Nat) ρ H=>i≤qs.length∧H=[]∧(∀j x,j<i→qs[j]? = some x→¬x<0)∧ρ 0=bT cN qs∧ρ 5=VI qs.length∧ρ 6=VI i) (fun i=>qs.length-i) 0 ⟨Nat.zero_le _,rfl,fun j x h=>by omega,rfl,rfl,rfl⟩ ?_
 rintro i ρ H ⟨hi,rfl,jX,g0,g5,g6⟩
 by_cases cX:(i:Int)<(qs.length:Int)
 ·obtain⟨q,hq⟩:∃q,qs[i]? = some q:=⟨_,List.getElem?_eq_getElem (by omega)⟩
  have e2:=fun H=>aP (f:=cN) (t := .op) (H:=H) (size:=3) (k := .i64) hq rfl
  have wi:IntKind.i64.wrap ((i:Int)+1)=((i+1:Nat):Int):=wrapN (i+1) (by omega) (by omega)
  by_cases lL:q.num<0
  ·have Hc:qs.any (fun q=>decide (q<0))=true:=List.any_eq_true.2 ⟨q,List.mem_of_getElem? hq,decide_eq_true (RS.1 lL)⟩
   rw[Hc]
   simp only[jU,g0,g5,g6,cX,e2,lL,jW,bE,cM,gR,aI,aQ,aM,gG,Nat.reduceLeDiff,Nat.reduceLT,Nat.reduceSub,jE,bN,bX,dY,iI,kS,bne_iff_ne,ne_eq,not_false_eq_true,not_true_eq_false,VX,Nat.reduceEqDiff,Nat.reduceAdd]
   exact aH rfl
  ·simp only[jU,g0,g5,g6,cX,e2,lL,wi,jW,bE,cM,gR,aI,aQ,aM,gG,Nat.reduceLeDiff,Nat.reduceLT,Nat.reduceSub,jE,bN,bX,dY,iI,kS,bne_iff_ne,ne_eq,not_false_eq_true,not_true_eq_false,VX,Nat.reduceEqDiff,Nat.reduceAdd]
   refine⟨i+1,by omega,by omega,fun j y hj hy => ?_,rfl⟩
   rcases Nat.lt_or_ge j i with J2 | J2
   ·exact jX j y J2 hy
   ·have:j=i:=by omega
    subst this
    rw[hq] at hy
    cases hy
    exact mt RS.2 lL
 ·have qX:i=qs.length:=by omega
  subst qX
  have Hc:qs.any (fun q=>decide (q<0))=false:=by
   rw[List.any_eq_false]
   intro x hx
   obtain⟨j,hj⟩:=List.getElem?_of_mem hx
   simpa using jX j x (List.getElem?_eq_some_iff.1 hj).1 hj
  rw[Hc]
  simp only[jU,g0,g5,g6,cX,VX,Nat.reduceEqDiff,Nat.reduceAdd]
  exact aH rfl
theorem QU {a b:Rat}:a=b↔(decide (a.num<0)=decide (b.num<0)∧a.num.natAbs*b.den=b.num.natAbs*a.den):=by
 constructor
 ·rintro rfl
  exact⟨rfl,rfl⟩
 ·rintro⟨h1,h2⟩
  have h3:a.num<0↔b.num<0:=by simpa using h1
  have ha:=a.den_nz
  have hb:=b.den_nz
  have key:a.num*b.den=b.num*a.den→a=b:=fun h=>by
   have:=(Rat.mkRat_eq_iff (n₁:=a.num) (n₂:=b.num) ha hb).2 h
   rwa [Rat.mkRat_self,Rat.mkRat_self] at this
  refine key ?_
  have e1:(a.num.natAbs:Int)*b.den=b.num.natAbs*a.den:=by exact_mod_cast h2
  by_cases hn:a.num<0
  ·have Yg:=h3.1 hn
   have q1:a.num = -(a.num.natAbs:Int):=by omega
   have q2:b.num = -(b.num.natAbs:Int):=by omega
   rw[q1,q2,Int.neg_mul,Int.neg_mul,e1]
  ·have Yg:=mt h3.2 hn
   have q1:a.num=(a.num.natAbs:Int):=by omega
   have q2:b.num=(b.num.natAbs:Int):=by omega
   rw[q1,q2,e1]
set_option maxHeartbeats 1000000 in
theorem G0 (a b:Rat) (OD:cC a≤1099511627776) (JK:cC b≤1099511627776):TC 197 [cN a,cN b] (VB (decide (a=b))):=by
 refine TC.walk ⟨true,false⟩ He rfl (Nat.le_of_ble_eq_true rfl) (by simp only[aK,mP];rfl) rfl ?_
 have b1 := @rI a
 have b2 := @rI b
 have b3 := @pB a
 have b4 := @pB b
 have b5:=lK a.num.natAbs b.den
 have b6:=lK b.num.natAbs a.den
 have c1:=fV a.num.natAbs b.den (Nat.le_of_lt (mG (by omega))) (Nat.le_of_lt (mG (by omega)))
 have c2:=fV b.num.natAbs a.den (Nat.le_of_lt (mG (by omega))) (Nat.le_of_lt (mG (by omega)))
 have c3:=rX (a.num.natAbs*b.den) (b.num.natAbs*a.den) (Nat.le_of_lt (mG (by omega))) (Nat.le_of_lt (mG (by omega)))
 by_cases q1:decide (a.num<0)=decide (b.num<0)
 ·have q2:(decide (a.num<0) == decide (b.num<0))=true:=by simpa using q1
  have hz := @tX (a.num.natAbs*b.den) (b.num.natAbs*a.den)
  by_cases q3:dX (a.num.natAbs*b.den) (b.num.natAbs*a.den)=0
  ·rw[decide_eq_true (QU.2 ⟨q1,hz.1 q3⟩)]
   simp only[rZ,nZ,c1,c2,c3,q2,q3,rC,bE,jW,mR,mJ,aI,gG,Nat.reduceLeDiff,Nat.reduceLT,Nat.reduceSub,jE,bN,bX,dY,iI,kS,bne_iff_ne,ne_eq,not_false_eq_true,not_true_eq_false,VX,Nat.reduceEqDiff,Nat.reduceAdd]
   exact aH rfl
  ·rw[decide_eq_false (fun h=>q3 (hz.2 (QU.1 h).2))]
   simp only[rZ,nZ,c1,c2,c3,q2,q3,rC,bE,jW,mR,mJ,aI,gG,Nat.reduceLeDiff,Nat.reduceLT,Nat.reduceSub,jE,bN,bX,dY,iI,kS,bne_iff_ne,ne_eq,not_false_eq_true,not_true_eq_false,VX,Nat.reduceEqDiff,Nat.reduceAdd]
   exact aH rfl
 ·have q2:(decide (a.num<0) == decide (b.num<0))=false:=by simpa using q1
  rw[decide_eq_false (fun h=>q1 (QU.1 h).1)]
  simp only[rZ,nZ,q2,rC,bE,jW,mR,mJ,aI,gG,Nat.reduceLeDiff,Nat.reduceLT,Nat.reduceSub,jE,bN,bX,dY,iI,kS,bne_iff_ne,ne_eq,not_false_eq_true,not_true_eq_false,VX,Nat.reduceEqDiff,Nat.reduceAdd]
  exact aH rfl
theorem Et (qs:List Rat) (hb:∀q∈qs,cC q≤665) (hl:qs.length≤300):TC 116 [bT cN qs] (VB (jA qs)):=by
 refine TC.walk ⟨true,false⟩ Es rfl (Nat.le_of_ble_eq_true rfl) (by simp[aK,zV]) rfl ?_
 have e1:=Da qs (by omega)
 have e2:=GX qs hb (H7 hl) (by omega) (by omega)
 have Ul:=zJ hb qs.length
 rw[List.take_length] at Ul
 have e3:=CC
 have hsr:=H7 hl
 have e4:=G0 (C2 qs) 1 (by omega) (by rw[EO];omega)
 unfold jA
 cases Hc:qs.any (fun q=>decide (q<0)) with
 |
  true =>
  rw[Hc] at e1
  simp only[Bool.not_true,Bool.false_and] at e1 ⊢
  simp only[sX,qO,e1,VX,Nat.reduceEqDiff,Nat.reduceAdd]
  exact aH rfl
 |
  false =>
  rw[Hc] at e1
  simp only[Bool.not_false,Bool.true_and] at e1 ⊢
  simp only[sX,qO,e1,e2,e3,e4,VX,Nat.reduceEqDiff,Nat.reduceAdd]
  exact aH rfl
set_option maxHeartbeats 1000000 in
theorem Hi (q:Rat) (n:Nat) (hn:n≤1000) (hq:cC q≤100000):TC 198 [cN q,VI n] (cN (q^n)):=by
 refine TC.walk ⟨true,false⟩ Hh rfl (Nat.le_of_ble_eq_true rfl) (by simp only[aK,mP];rfl) (yD _) ?_
 have e1:=CC
 simp only[Cr,Au,e1,bE,cM,gR,aI,aQ,aM,gG,Nat.reduceLeDiff,Nat.reduceLT,Nat.reduceSub,jE,bN,bX,dY,iI,kS,bne_iff_ne,ne_eq,not_false_eq_true,not_true_eq_false,VX,Nat.reduceEqDiff,Nat.reduceAdd]
 refine bB (fun(i:Nat) ρ H=>i≤n∧H=[cell0,.row 0 [cN (q^i)] 3 true]∧ρ 1=VI ((n-i:Nat):Int)∧ρ 2=(cN q).cO 0∧ρ 4 = .ptr 0 0 0 0∧ρ 5 = .ptr 1 0 0 0) (fun i=>n-i) 0 ⟨Nat.zero_le _,?_,rfl,rfl,rfl,rfl⟩ ?_
 ·rw[Rat.pow_zero]
 rintro i ρ H ⟨hi,rfl,g1,g2,g4,g5⟩
 by_cases cX:(0:Int)<((n-i:Nat):Int)
 ·have wi:IntKind.i64.wrap (((n-i:Nat):Int)-1)=((n-(i+1):Nat):Int):=by rw[wrap64 (by omega) (by omega)];omega
  have hb:=B9 q i
  have Ys:i*cC q≤1000*100000:=Nat.mul_le_mul (by omega) hq
  have e2:=Ah (q^i) q (by omega) (by omega)
  rw[←Rat.pow_succ] at e2
  simp only[rL,g1,g2,g4,g5,cX,e2,wi,bE,cM,gR,aI,aQ,aM,gG,Nat.reduceLeDiff,Nat.reduceLT,Nat.reduceSub,jE,bN,bX,dY,iI,kS,bne_iff_ne,ne_eq,not_false_eq_true,not_true_eq_false,VX,Nat.reduceEqDiff,Nat.reduceAdd]
  exact⟨i+1,by omega,by omega,rfl,rfl⟩
 ·have qX:i=n:=by omega
  subst qX
  simp only[rL,g1,g2,g4,g5,cX,bE,cM,gR,aI,aQ,aM,gG,Nat.reduceLeDiff,Nat.reduceLT,Nat.reduceSub,jE,bN,bX,dY,iI,kS,bne_iff_ne,ne_eq,not_false_eq_true,not_true_eq_false,VX,Nat.reduceEqDiff,Nat.reduceAdd]
  exact aH (mP _)
set_option maxHeartbeats 1000000 in
theorem FF (qs:List Rat) (n:Nat) (hb:∀q∈qs,cC q≤665) (hl:qs.length≤300) (hn:n≤10):TC 117 [bT cN qs,VI n] (cN (mQ qs n qs.length)):=by
 refine TC.walk ⟨true,false⟩ FD rfl (Nat.le_of_ble_eq_true rfl) (by simp only[aK,zV];rfl) (yD _) ?_
 have e1:=A6
 simp only[AM,yM,e1,bE,cM,gR,aI,aQ,aM,gG,Nat.reduceLeDiff,Nat.reduceLT,Nat.reduceSub,jE,bN,bX,dY,iI,kS,bne_iff_ne,ne_eq,not_false_eq_true,not_true_eq_false,VX,Nat.reduceEqDiff,Nat.reduceAdd]
 refine bB (fun(i:Nat) ρ H=>i≤qs.length∧H=[cell0,.row 0 [cN (mQ qs n i)] 3 true]∧ρ 0=bT cN qs∧ρ 1=VI n∧ρ 4 = .ptr 0 0 0 0∧ρ 5 = .ptr 1 0 0 0∧ρ 9=VI qs.length∧ρ 10=VI i) (fun i=>qs.length-i) 0 ⟨Nat.zero_le _,rfl,rfl,rfl,rfl,rfl,rfl,rfl⟩ ?_
 rintro i ρ H ⟨hi,rfl,g0,g1,g4,g5,g9,g10⟩
 by_cases cX:(i:Int)<(qs.length:Int)
 ·obtain⟨q,hq⟩:∃q,qs[i]? = some q:=⟨_,List.getElem?_eq_getElem (by omega)⟩
  have e2:=fun H=>aP (f:=cN) (t := .op) (H:=H) (size:=3) (k := .i64) hq rfl
  have wi:IntKind.i64.wrap ((i:Int)+1)=((i+1:Nat):Int):=wrapN (i+1) (by omega) (by omega)
  have h1:=AS hb hl hn i hi
  have h2:=hb q (List.mem_of_getElem? hq)
  obtain⟨h3,h4⟩:=A4 (i:=i) (by omega) n hn
  have h5:=BP q (((i:Int):Rat)^n)
  have e3:=xD (i:Int) (by omega) (by omega)
  have e4:=Hi ((i:Int):Rat) n (by omega) (by omega)
  have e5:=Ah q (((i:Int):Rat)^n) (by omega) (by omega)
  have e6:=Cw (mQ qs n i) (q*((i:Int):Rat)^n) (by omega) (by omega)
  have e7:mQ qs n i+q*((i:Int):Rat)^n=mQ qs n (i+1):=by
   rw[mQ,List.getD_eq_getElem?_getD,hq,Option.getD_some]
   rfl
  rw[e7] at e6
  simp only[qK,g0,g1,g4,g5,g9,g10,cX,e2,e3,e4,e5,e6,wi,bE,cM,gR,aI,aQ,aM,gG,Nat.reduceLeDiff,Nat.reduceLT,Nat.reduceSub,jE,bN,bX,dY,iI,kS,bne_iff_ne,ne_eq,not_false_eq_true,not_true_eq_false,VX,Nat.reduceEqDiff,Nat.reduceAdd]
  exact⟨i+1,by omega,by omega,rfl,rfl⟩
 ·have qX:i=qs.length:=by omega
  subst qX
  simp only[qK,g0,g1,g4,g5,g9,g10,cX,bE,cM,gR,aI,aQ,aM,gG,Nat.reduceLeDiff,Nat.reduceLT,Nat.reduceSub,jE,bN,bX,dY,iI,kS,bne_iff_ne,ne_eq,not_false_eq_true,not_true_eq_false,VX,Nat.reduceEqDiff,Nat.reduceAdd]
  exact aH (mP _)
theorem JY (xs:List ByteArray) (hn:xs.length≤1000000000) (hs:∀s∈xs,s.size≤1000000000):TC 42 [fQ xs] (JV xs 1):=by
 refine TC.walk ⟨true,false⟩ JF rfl (Nat.le_of_ble_eq_true rfl) (by simp only[aK,dQ];rfl) (H8 _ _) ?_
 have e1:=HW xs hn hs
 unfold JV
 cases h:Af xs with
 |
  none =>
  rw[h,QJ] at e1
  rw[Gr h]
  simp only[]
  simp only[wT,rS,e1,VX,Nat.reduceEqDiff,Nat.reduceAdd]
  exact aH rfl
 |
  some qs =>
  rw[h] at e1
  obtain⟨hb,hl,_⟩:=Dn h
  have e3:=Et qs hb hl
  rw[Qp] at e1
  rw[Ga h]
  cases hw:jA qs with
  |
   false =>
   rw[hw] at e3
   rw[if_neg (by simp)]
   simp only[]
   simp only[wT,rS,e1,e3,VX,Nat.reduceEqDiff,Nat.reduceAdd]
   exact aH rfl
  |
   true =>
   rw[hw] at e3
   rw[if_pos rfl]
   simp only[]
   rw[if_pos (by decide),show (1:Int).toNat=1 from rfl]
   have e4:=FF qs 1 hb hl (by omega)
   have h3:=AS (n:=1) hb hl (by omega) qs.length (Nat.le_refl _)
   have e5:=Ii (mQ qs 1 qs.length) (by omega)
   obtain⟨s,k,hsk⟩:=FJ (mQ qs 1 qs.length)
   rw[hsk] at e5 ⊢
   have e4':TC 117 [bT cN qs,VI 1] (cN (mQ qs 1 qs.length)):=e4
   simp only[wT,rS,e1,e3,e4',e5,VX,Nat.reduceEqDiff,Nat.reduceAdd]
   exact aH rfl
end Go.PM
namespace Go.PM
def mM:aF:=(LS [LO 2 (.mv LF)] (LS [LO 3 (.mv (LI 1000000))] (LS [LM 11 0,LM 12 3,LO 13 (.call 41 [(LT 11),(LT 12)]),LM 3 13] (.seq (LS [LM 14 3,LO 15 (.bin .lss (LT 14) (LI 0))] (.cond (LT 15) (LS [LO 2 (.mv LG)] .ret) .skip)) (LS [LM 17 0,LO 18 (.call 43 [(LT 17),LF]),LO 19 (.call 42 [(LT 18)]),LM 16 19,LO 20 (LX 16 0),LO 21 (LX 16 1),LM 4 20,LM 5 21] (LS [LM 22 0,LO 23 (.call 43 [(LT 22),LF]),LM 6 23] (LS [LM 25 6,LO 26 (.call 44 [(LT 25)]),LM 24 26,LO 27 (LX 24 0),LO 28 (LX 24 1),LM 7 27,LM 8 28] (.seq (LS [LM 29 7,LM 30 4,LO 31 (.bin .neq (LT 29) (LT 30)),LM 32 31,LZ 32 33 (.mv (LT 8)),LZ 32 34 (.mv (LT 5)),LZ 32 35 (.eqb true (LT 33) (LT 34)),LO 36 (.pick (LT 32) LG (LT 35))] (.cond (LT 36) (LS [LO 2 (.mv LF)] .ret) .skip)) (.seq (LS [LM 37 6,LM 38 0,LO 39 (.call 43 [(LT 38),LF]),LO 40 (.call 45 [(LT 37),(LT 39)]),LO 41 (.un .not (LT 40))] (.cond (LT 41) (LS [LO 2 (.mv LF)] .ret) .skip)) (LS [LM 43 0,LO 44 (.call 43 [(LT 43),LG]),LO 45 (.call 44 [(LT 44)]),LM 42 45,LO 46 (LX 42 0),LO 47 (LX 42 1),LM 9 46,LM 10 47] (.seq (LS [LM 48 9,LM 49 4,LO 50 (.bin .neq (LT 48) (LT 49)),LM 51 50,LZ 51 52 (.mv (LT 10)),LZ 51 53 (.mv (LT 5)),LZ 51 54 (.eqb true (LT 52) (LT 53)),LO 55 (.pick (LT 51) LG (LT 54))] (.cond (LT 55) (LS [LO 2 (.mv LF)] .ret) .skip)) (LS [LO 2 (.mv LG)] .ret))))))))))))
def oV:aT:=⟨56,[(.tmp 2)],mM⟩
theorem Bf:gZ 7=some oV:=by kernel_rfl
end Go.PM
namespace Go.PM
end Go.PM