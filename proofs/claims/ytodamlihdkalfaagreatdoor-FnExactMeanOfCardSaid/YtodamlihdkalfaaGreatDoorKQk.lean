/- Texts of a claim, in one: part 11. -/
import Derived.KernelRfl
import Derived.Test.YtodamlihdkalfaaGreatDoorKQj
set_option linter.unusedSimpArgs false
set_option linter.unusedVariables false
namespace Go.PM
theorem uO {n:Nat}:(0:Int)<((aC 1000000000 n).length:Int)↔n≠0:=by
 constructor
 ·intro h h0
  subst h0
  rw[bR] at h
  simp at h
 ·intro h
  have:=(kE (b:=1000000000) (by decide) (n:=n))
  have h2:aC 1000000000 n≠[]:=fun hx=>h (this.1 hx)
  have:=List.length_pos_iff.2 h2
  omega
theorem mJ {n:Nat} (h:bl n≤4398046511104):(aC 1000000000 n).length<17592186044416:=by
 have:=Zb n
 omega
theorem Cy (a b:Nat) (ha:(aC 1000000000 a).length<17592186044416) (hb:(aC 1000000000 b).length<17592186044416):TC 213 [bO a,bO b] (bO (Nat.gcd a b)):=by
 refine TC.walk ⟨true,false⟩ Jv rfl (Nat.le_of_ble_eq_true rfl) (by simp[aK,bU]) (lE _) ?_
 simp only[Ge,CT,VX,Nat.reduceEqDiff,Nat.reduceAdd]
 refine bB (fun(t:Nat×Nat) ρ H=>H=[]∧Nat.gcd t.1 t.2=Nat.gcd a b∧(aC 1000000000 t.1).length<17592186044416∧(aC 1000000000 t.2).length<17592186044416∧ρ 0=bO t.1∧ρ 1=bO t.2) (fun t=>t.2) (a,b) ⟨rfl,rfl,ha,hb,rfl,rfl⟩ ?_
 rintro⟨x,y⟩ ρ H ⟨rfl,hg,hx,hy,g0,g1⟩
 simp only at hg hx hy g0 g1
 by_cases XW:y=0
 ·subst XW
  have hl:¬(0:Int)<((aC 1000000000 0).length:Int):=by rw[uO];omega
  rw[Nat.gcd_zero_right] at hg
  simp only[vW,g0,g1,cI,hl,VX,Nat.reduceEqDiff,Nat.reduceAdd]
  rw[hg]
  exact aI (bU _)
 ·have hl:(0:Int)<((aC 1000000000 y).length:Int):=uO.2 XW
  have c3:=rH x y XW hx hy
  have hm:=Nat.mod_lt x (show 0<y by omega)
  simp only[vW,g0,g1,cI,hl,c3,VX,Nat.reduceEqDiff,Nat.reduceAdd]
  refine⟨(y,x % y),hm,?_,hy,?_,rfl,rfl⟩
  ·simp only
   rw[←hg,Nat.gcd_comm x y,Nat.gcd_rec y x,Nat.gcd_comm]
  ·simp only
   have:=dD (b:=1000000000) (by decide) (Nat.le_of_lt hm)
   omega
def cL (q:Rat):VV := .agg [VB (decide (q.num<0)),bO q.num.natAbs,bO q.den]
theorem tY (q:Rat):aW (cL q)=true:=by simp[cL,aW,aK,bU,lL]
theorem yN (q:Rat):gH (cL q)=true:=by simp[cL,gH,pF,lE,lL]
theorem L4 {q:Rat} {neg:Bool} {t b:Nat} (h0:q.num<0↔neg=true) (h1:q.num.natAbs=t) (h2:q.den=b):cL q = .agg [VB neg,bO t,bO b]:=by
 subst h1 h2
 unfold cL
 congr 4
 cases neg<;>simp_all
theorem aH (n:Nat):cJ (bO n)=true:=rfl
theorem aQ (n:Nat):isAny (bO n)=false:=rfl
theorem aM (n:Nat):aA (bO n)=[bO n]:=rfl
theorem cN (q:Rat):isAny (cL q)=false:=rfl
theorem bF (q:Rat):aA (cL q)=[VB (decide (q.num<0)),bO q.num.natAbs,bO q.den]:=rfl
theorem gT (q:Rat):eX true 3 (cL q) 0=some (cL q):=rfl
theorem kD (q:Rat):eX false 1 (cL q) 0=some (VB (decide (q.num<0))):=rfl
theorem mM (q:Rat):eX false 1 (cL q) 1=some (bO q.num.natAbs):=rfl
theorem mV (q:Rat):eX false 1 (cL q) 2=some (bO q.den):=rfl
theorem tR {H:aB} {neg:Bool} {t b:Nat}:fz depth H (.agg [VB neg,bO t,bO b])=some (.agg [VB neg,bO t,bO b]):=aI (by simp[aW,aK,bU,lL])
theorem BZ {H:aB} (q:Rat):fz depth H (cL q)=some (cL q):=aI (tY q)
theorem Xk (n:Int):cL (n:Rat) = .agg [VB (decide (n<0)),bO n.natAbs,bO 1]:=L4 (by simp) (by simp) (by simp)
theorem Hp {n lo:Nat} {H:aB} {K:VV→aB→Prop} (h:(aC 1000000000 n).length≤17592186044416):dJ 178 [bO n,.tree [VI 1] (.cl 1)] lo H K=K (VI (dX n 1)) H:=by
 have c:=rY n 1 h (by rw[BD (by decide) (by decide) (by decide)];simp)
 have e:bO 1 = .tree [VI 1] .op:=by rw[bO,BD (by decide) (by decide) (by decide)];rfl
 rw[e] at c
 exact TC.args c rfl (by simp only[aK,bU];rfl) (fz2 (aI (bU n)) (Zu rfl)) (by simp only[List.flatMap_cons,List.flatMap_nil,Dp (bU n),WV (es:=[VI 1]) rfl,List.append_nil]) lo K
theorem dA {d:Int} {H:aB}:qV false [.int .i64 0] 1 [(0,VI d)] H=some (.tree [VI d] (.cl 1),H):=qO
theorem eU {e:Nat} {es:List VV}:cJ (.tree es (.cl e))=true:=rfl
theorem cZ {k:TK} {es:List VV}:aA (.tree es k)=[.tree es k]:=rfl
theorem eO {k:TK} {es:List VV}:isAny (.tree es k)=false:=rfl
theorem L3 {d:Nat} {H:aB}:fz (d+2) H (.tree [VI 1] (.cl 1))=some (bO 1):=by
 rw[Wr]
 unfold fz
 have:aW (.tree [VI 1] (.cl 1))=false:=by simp[aW]
 simp only[this,Bool.false_eq_true,if_false]
 rfl
theorem pW (neg:Bool) (t b:Nat) (hb:b≠0) (ht:bl t≤4398046511104) (sO:bl b≤4398046511104):TC 164 [VB neg,bO t,bO b] (cL (mkRat (iY neg t) b)):=by
 refine TC.walk ⟨true,false⟩ H6 rfl (Nat.le_of_ble_eq_true rfl) (by simp[aK,bU,aW,lL]) (yN _) ?_
 have hg0:Nat.gcd t b≠0:=Nat.gcd_ne_zero_right hb
 have WT:bl (Nat.gcd t b)≤4398046511104:=Nat.le_trans (jM (Nat.gcd_le_right t (by omega))) sO
 have c1:=Cy t b (mJ ht) (mJ sO)
 have c2:=rH t _ hg0 (mJ ht) (mJ WT)
 have c3:=rH b _ hg0 (mJ sO) (mJ WT)
 have c4:∀lo H K,_:=fun lo H K=>Hp (n:=Nat.gcd t b) (lo:=lo) (H:=H) (K:=K) (Nat.le_of_lt (mJ WT))
 have Qi:cL (mkRat (iY neg t) b) = .agg [VB (neg&&decide (t / Nat.gcd t b≠0)),bO (t / Nat.gcd t b),bO (b / Nat.gcd t b)]:=by
  refine L4 ?_ (by rw[C1 hb,lT]) (Mt hb)
  rw[C1 hb,Mr,Bool.and_eq_true,decide_eq_true_eq]
 rw[Qi]
 by_cases h1:dX (Nat.gcd t b) 1=0
 ·have Za:=uA.1 h1
  have e1:t / Nat.gcd t b=t:=by rw[Za,Nat.div_one]
  have e2:b / Nat.gcd t b=b:=by rw[Za,Nat.div_one]
  rw[e1,e2]
  cases neg with
  |
   false =>
   simp only[kX,iQ,c1,c4,h1,dA,aH,aQ,aM,gG,Nat.reduceLeDiff,Nat.reduceLT,Nat.reduceSub,VX,Nat.reduceEqDiff,Nat.reduceAdd]
   exact tR
  |
   true =>
   by_cases h0:t=0
   ·have hl:¬(0:Int)<((aC 1000000000 t).length:Int):=by rw[uO];omega
    simp only[kX,iQ,c1,c4,h1,hl,cI,dA,aH,aQ,aM,gG,Nat.reduceLeDiff,Nat.reduceLT,Nat.reduceSub,VX,Nat.reduceEqDiff,Nat.reduceAdd]
    rw[h0]
    exact tR
   ·have hl:(0:Int)<((aC 1000000000 t).length:Int):=uO.2 h0
    simp only[kX,iQ,c1,c4,h1,hl,cI,dA,aH,aQ,aM,gG,Nat.reduceLeDiff,Nat.reduceLT,Nat.reduceSub,VX,Nat.reduceEqDiff,Nat.reduceAdd]
    rw[decide_eq_true h0]
    exact tR
 ·cases neg with
  |
   false =>
   simp only[kX,iQ,c1,c2,c3,c4,h1,dA,aH,aQ,aM,gG,Nat.reduceLeDiff,Nat.reduceLT,Nat.reduceSub,VX,Nat.reduceEqDiff,Nat.reduceAdd]
   exact tR
  |
   true =>
   generalize t / Nat.gcd t b=t' at *
   by_cases h0:t'=0
   ·have hl:¬(0:Int)<((aC 1000000000 t').length:Int):=by rw[uO];omega
    simp only[kX,iQ,c1,c2,c3,c4,h1,hl,cI,dA,aH,aQ,aM,gG,Nat.reduceLeDiff,Nat.reduceLT,Nat.reduceSub,VX,Nat.reduceEqDiff,Nat.reduceAdd]
    rw[h0]
    exact tR
   ·have hl:(0:Int)<((aC 1000000000 t').length:Int):=uO.2 h0
    simp only[kX,iQ,c1,c2,c3,c4,h1,hl,cI,dA,aH,aQ,aM,gG,Nat.reduceLeDiff,Nat.reduceLT,Nat.reduceSub,VX,Nat.reduceEqDiff,Nat.reduceAdd]
    rw[decide_eq_true h0]
    exact tR
theorem xD (n:Int) (h0 : -9223372036854775808<n) (h1:n≤9223372036854775807):TC 166 [VI n] (cL (n:Rat)):=by
 refine TC.walk ⟨true,false⟩ Jr rfl (Nat.le_of_ble_eq_true rfl) rfl (yN _) ?_
 rw[Xk]
 by_cases h:n<0
 ·have w:IntKind.i64.wrap (0-n)=(n.natAbs:Int):=wrapN _ (by omega) (by omega)
  have c1:TC 161 [VI (n.natAbs:Int)] (bO n.natAbs):=nW (n.natAbs:Int) (by omega)
  rw[decide_eq_true h]
  simp only[A6,xE,h,w,c1,dA,aH,aQ,aM,eU,cZ,eO,gG,Nat.reduceLeDiff,Nat.reduceLT,Nat.reduceSub,VX,Nat.reduceEqDiff,Nat.reduceAdd]
  exact oF (d:=6) (WR rfl) (aJ (bU _)) (L3 (d:=5))
 ·have c1:TC 161 [VI n] (bO n.natAbs):=by
   have:=nW n h1
   rwa [show n.toNat=n.natAbs by omega] at this
  rw[decide_eq_false h]
  simp only[A6,xE,h,c1,dA,aH,aQ,aM,eU,cZ,eO,gG,Nat.reduceLeDiff,Nat.reduceLT,Nat.reduceSub,VX,Nat.reduceEqDiff,Nat.reduceAdd]
  exact oF (d:=6) (WR rfl) (aJ (bU _)) (L3 (d:=5))
theorem CM:TC 124 [] (cL 1):=by
 refine TC.walk ⟨true,false⟩ Jx rfl (Nat.le_of_ble_eq_true rfl) rfl (yN _) ?_
 have c1:TC 166 [VI 1] (cL 1):=xD 1 (by decide) (by decide)
 simp only[GI,CS,c1,bF,gT,cN,aH,gG,Nat.reduceLeDiff,Nat.reduceLT,Nat.reduceSub,VX,Nat.reduceEqDiff,Nat.reduceAdd]
 exact BZ _
theorem BC:TC 136 [] (cL 0):=by
 refine TC.walk ⟨true,false⟩ IF rfl (Nat.le_of_ble_eq_true rfl) rfl (yN _) ?_
 have c1:TC 166 [VI 0] (cL 0):=xD 0 (by decide) (by decide)
 simp only[EC,Bx,c1,bF,gT,cN,aH,gG,Nat.reduceLeDiff,Nat.reduceLT,Nat.reduceSub,VX,Nat.reduceEqDiff,Nat.reduceAdd]
 exact BZ _
theorem CP (a b:Rat) (Oz:cC a≤1099511627776) (Jy:cC b≤1099511627776):TC 94 [cL a,cL b] (cL (a+b)):=by
 refine TC.walk ⟨true,false⟩ J2 rfl (Nat.le_of_ble_eq_true rfl) (by simp[aK,tY]) (yN _) ?_
 have la:=rQ Oz
 have lb:=rQ Jy
 have lda:=rO Oz
 have ldb:=rO Jy
 have XG:=Nat.mul_ne_zero a.den_nz b.den_nz
 have m1:=fU a.num.natAbs b.den (Nat.le_of_lt (mJ (by omega))) (Nat.le_of_lt (mJ (by omega)))
 have m2:=fU b.num.natAbs a.den (Nat.le_of_lt (mJ (by omega))) (Nat.le_of_lt (mJ (by omega)))
 have m3:=fU a.den b.den (Nat.le_of_lt (mJ (by omega))) (Nat.le_of_lt (mJ (by omega)))
 have ea:mkRat (iY (decide (a.num<0)) (a.num.natAbs*b.den)) (a.den*b.den)=a:=B4 a b.den_nz
 have eb:mkRat (iY (decide (b.num<0)) (b.num.natAbs*a.den)) (a.den*b.den)=b:=by rw[Nat.mul_comm a.den];exact B4 b a.den_nz
 have k1:=lP a.num.natAbs b.den
 have k2:=lP b.num.natAbs a.den
 have k3:=lP a.den b.den
 obtain⟨p1,p2,p3⟩:=EG XG ea eb
 have hX:bl (a.num.natAbs*b.den)≤2199023255552:=by omega
 have hY:bl (b.num.natAbs*a.den)≤2199023255552:=by omega
 have hB:bl (a.den*b.den)≤4398046511104:=by omega
 generalize a.num.natAbs*b.den=X at *
 generalize b.num.natAbs*a.den=Y at *
 generalize a.den*b.den=B at *
 have f1:=E8 X Y (mJ (by omega)) (mJ (by omega))
 have f2:=rY X Y (Nat.le_of_lt (mJ (by omega))) (Nat.le_of_lt (mJ (by omega)))
 have hS:bl (X+Y)≤4398046511104:=Nat.le_trans (PK hX hY) (by decide)
 have hD1:bl (X-Y)≤4398046511104:=Nat.le_trans (jM (Nat.sub_le _ _)) (by omega)
 have hD2:bl (Y-X)≤4398046511104:=Nat.le_trans (jM (Nat.sub_le _ _)) (by omega)
 have f5:=fun neg=>pW neg (X+Y) B XG hS hB
 have f6:=fun neg=>pW neg (X-Y) B XG hD1 hB
 have f7:=fun neg=>pW neg (Y-X) B XG hD2 hB
 by_cases hn:decide (a.num<0)=decide (b.num<0)
 ·have Ps:(decide (a.num<0) == decide (b.num<0))=true:=by simpa using hn
  rw[←p1 hn]
  simp only[wH,sA,m1,m2,m3,f1,f5,qT,vU,Ps,bF,gT,kD,mM,mV,cN,aH,aQ,aM,gG,Nat.reduceLeDiff,Nat.reduceLT,Nat.reduceSub,VX,Nat.reduceEqDiff,Nat.reduceAdd]
  exact BZ _
 ·have Ps:(decide (a.num<0) == decide (b.num<0))=false:=by simpa using hn
  by_cases hx:(0:Int)≤dX X Y
  ·have hle:Y≤X:=by have := @tO X Y;omega
   have c3:=wU X Y hle (Nat.le_of_lt (mJ (by omega)))
   rw[←p2 hn hle]
   simp only[wH,sA,m1,m2,m3,f2,c3,f6,hx,qT,vU,Ps,bF,gT,kD,mM,mV,cN,aH,aQ,aM,gG,Nat.reduceLeDiff,Nat.reduceLT,Nat.reduceSub,VX,Nat.reduceEqDiff,Nat.reduceAdd]
   exact BZ _
  ·have hle:X≤Y:=by have := @tO X Y;omega
   have c3:=wU Y X hle (Nat.le_of_lt (mJ (by omega)))
   rw[←p3 hn hle]
   simp only[wH,sA,m1,m2,m3,f2,c3,f7,hx,qT,vU,Ps,bF,gT,kD,mM,mV,cN,aH,aQ,aM,gG,Nat.reduceLeDiff,Nat.reduceLT,Nat.reduceSub,VX,Nat.reduceEqDiff,Nat.reduceAdd]
   exact BZ _
theorem Yi (a b:Int):iY (decide (a<0) != decide (b<0)) (a.natAbs*b.natAbs)=a*b:=by
 rcases Int.lt_trichotomy a 0 with h1 | h1 | h1<;>rcases Int.lt_trichotomy b 0 with h2 | h2 | h2
 ·rw[decide_eq_true h1,decide_eq_true h2]
  simp only[iY,bne_self_eq_false,Bool.false_eq_true,if_false,Int.natCast_mul]
  rw[show (a.natAbs:Int) = -a by omega,show (b.natAbs:Int) = -b by omega,Int.neg_mul_neg]
 ·subst h2;simp[vM]
 ·rw[decide_eq_true h1,decide_eq_false (show ¬b<0 by omega)]
  simp only[iY,Bool.true_bne,Bool.not_false,if_true,Int.natCast_mul]
  rw[show (a.natAbs:Int) = -a by omega,show (b.natAbs:Int)=b by omega,Int.neg_mul,Int.neg_neg]
 ·subst h1;simp[vM]
 ·subst h1;simp[vM]
 ·subst h1;simp[vM]
 ·rw[decide_eq_false (show ¬a<0 by omega),decide_eq_true h2]
  simp only[iY,Bool.false_bne,if_true,Int.natCast_mul]
  rw[show (a.natAbs:Int)=a by omega,show (b.natAbs:Int) = -b by omega,Int.mul_neg,Int.neg_neg]
 ·subst h2;simp[vM]
 ·rw[decide_eq_false (show ¬a<0 by omega),decide_eq_false (show ¬b<0 by omega)]
  simp only[iY,bne_self_eq_false,Bool.false_eq_true,if_false,Int.natCast_mul]
  rw[show (a.natAbs:Int)=a by omega,show (b.natAbs:Int)=b by omega]
theorem Ah (a b:Rat) (Oz:cC a≤1099511627776) (Jy:cC b≤1099511627776):TC 137 [cL a,cL b] (cL (a*b)):=by
 refine TC.walk ⟨true,false⟩ G5 rfl (Nat.le_of_ble_eq_true rfl) (by simp[aK,tY]) (yN _) ?_
 have la:=rQ Oz
 have lb:=rQ Jy
 have lda:=rO Oz
 have ldb:=rO Jy
 have k1:=lP a.num.natAbs b.num.natAbs
 have k3:=lP a.den b.den
 have m1:=fU a.num.natAbs b.num.natAbs (Nat.le_of_lt (mJ (by omega))) (Nat.le_of_lt (mJ (by omega)))
 have m3:=fU a.den b.den (Nat.le_of_lt (mJ (by omega))) (Nat.le_of_lt (mJ (by omega)))
 have c1:=pW (decide (a.num<0) != decide (b.num<0)) (a.num.natAbs*b.num.natAbs) (a.den*b.den) (Nat.mul_ne_zero a.den_nz b.den_nz) (by omega) (by omega)
 rw[Yi,←Rat.mul_def'] at c1
 simp only[Cz,Aj,m1,m3,c1,vU,bF,gT,kD,mM,mV,cN,aH,aQ,aM,gG,Nat.reduceLeDiff,Nat.reduceLT,Nat.reduceSub,VX,Nat.reduceEqDiff,Nat.reduceAdd]
 exact BZ _
end Go.PM
namespace Go.PM
open Go.Lib
abbrev bV (b:UInt8):VV := .sc (.int .u8 (b.toNat:Int))
theorem IW:∀bs:List UInt8,EH (bs.map bV)=some bs
 | []=>rfl
 |
  b::bs=>by
  rw[List.map_cons]
  show (EH (bs.map bV)).map (UInt8.ofNat ((b.toNat:Int)).toNat :: ·)=_
  rw[IW bs]
  simp
structure D2 (v:VV) (H:aB) (bs:List UInt8):Prop where
 len:pE v H=some (VI bs.length)
 src:eY 1 v H=some (bs.map bV)
 nsc:∀x,v ≠ .sc x
theorem D2.str {v:VV} {H:aB} {bs:List UInt8} (h:D2 v H bs) {fl:Fl} {lo:Nat} {x:Operand} {ρ:cP} (hx:dL ρ x=v):ZM fl lo (.b2s x) ρ H=some (aR bs,H):=by
 have h1:=h.nsc
 have h2:=h.src
 unfold ZM
 dsimp only
 rw[hx]
 cases v with
 | sc x=>exact absurd rfl (h1 x)
 | _=>simp only[h2,IW,Option.map_some]
theorem TW {bs:List UInt8} {k:TK} {H:aB}:eY 1 (.tree (bs.map bV) k) H=some (bs.map bV):=by
 have:((bs.map bV).all fun x=>(aA x).length == 1&&(aA x).all cJ)=true:=by
  rw[List.all_eq_true]
  intro x hx
  obtain⟨d,_,rfl⟩:=List.mem_map.1 hx
  rfl
 simp only[eY,this,if_true]
theorem D2.tree {bs:List UInt8} {k:TK} {H:aB}:D2 (.tree (bs.map bV) k) H bs:=⟨dZ,TW,fun x=>by simp⟩
theorem D2.row {bs:List UInt8} {H:aB} {b g:Nat} {w:Bool} (h:aV H b g=some (bs.map bV,1,w)):D2 (.ref b g 0 bs.length bs.length) H bs:=by
 refine⟨iS h,?_,fun x=>by simp⟩
 have kG:(((bs.map bV).drop 0).take bs.length).all (fun x=>(aA x).all cJ)=true:=by
  rw[List.all_eq_true]
  intro x hx
  obtain⟨d,_,rfl⟩:=List.mem_map.1 (List.mem_of_mem_drop (List.mem_of_mem_take hx))
  rfl
 simp only[eY,h]
 rw[if_pos ⟨trivial,by simp,kG⟩,List.drop_zero,List.take_of_length_le (by simp)]
theorem D2.cons {v:VV} {H:aB} {bs:List UInt8} (h:D2 v H bs) (x:UInt8) (hl:bs.length≤1000000) (lo:Nat):∃v' H',gF lo 1 1 (.tree [bV x] (.cl 1)) (bs.map bV) H=some (v',H')∧D2 v' H' (x::bs):=by
 by_cases hb:bs=[]
 ·subst hb
  exact⟨_,_,rfl,D2.tree (bs:=[x])⟩
 ·have eW:bs.length≠0:=fun h=>hb (List.length_eq_zero_iff.1 h)
  refine⟨.ref H.length 0 0 (x::bs).length (x::bs).length,H++[.row 0 ((x::bs).map bV) 1 true],?_,D2.row (O0 rfl)⟩
  simp only[gF,List.length_map]
  rw[if_pos ⟨by decide,by decide⟩,if_pos trivial,if_neg eW,if_pos (by simp;omega)]
  simp[Nat.add_comm]
theorem R3 (r:Int):cU .rem (.int .i64 r) (.int .i64 10)=some (.int .i64 (r.tmod 10)):=rfl
theorem afV (r:Int) (h0 : -9223372036854775808≤r) (h1:r≤9223372036854775807):cU .quo (.int .i64 r) (.int .i64 10)=some (.int .i64 (r.tdiv 10)):=by
 show some (Value.int .i64 (IntKind.i64.wrap (r.tdiv 10)))=_
 have h2:(r.tdiv 10).natAbs=r.natAbs / 10:=by rw[Int.natAbs_tdiv];rfl
 rw[wrap64 (by omega) (by omega)]
theorem TT {d:Nat} (h:d<10):(d10 d).toNat=48+d:=by
 unfold d10
 simp
 omega
theorem K2 {n r:Nat} {bs:List UInt8} (h:decDigits n=decDigits r++bs):decDigits n=oM (r / 10)++d10 (r % 10)::bs:=by
 rw[h]
 by_cases hr:r<10
 ·rw[gN hr,oM,if_pos (by omega),Nat.mod_eq_of_lt hr];rfl
 ·rw[wS hr,oM,if_neg (by omega),List.append_assoc];rfl
theorem JI (n:Int) (h0 : -9223372036854775808≤n) (h1:n≤9223372036854775807):TC 235 [VI n] (aR ((if n<0 then [45] else [])++decDigits n.natAbs)):=by
 refine TC.walk ⟨true,false⟩ JS rfl (Nat.le_of_ble_eq_true rfl) rfl rfl ?_
 have e0:∀lr,qV lr [.int .u8 0] 0 [] []=some (.ref 0 0 0 0 0,[.row 0 (([]:List UInt8).map bV) 1 true]):=fun lr=>nR (H:=[]) rfl
 have e1:∀(x:UInt8) (H:aB),qV false [.int .u8 0] 1 [(0,bV x)] H=some (.tree [bV x] (.cl 1),H):=fun x H=>sL rfl rfl rfl
 have hdl:=zM n.natAbs 19 (by omega)
 simp only[Gh,CI,e0,VX,Nat.reduceEqDiff,Nat.reduceAdd]
 refine bB (fun(s:Int×List UInt8) ρ H => -9223372036854775808≤s.1∧s.1≤9223372036854775807∧(s.2=[]→s.1=n)∧(s.2≠[]→decDigits n.natAbs=oM s.1.natAbs++s.2)∧D2 (ρ 3) H s.2∧ρ 0=VI n∧ρ 4=VI s.1) (fun s=>s.1.natAbs+(if s.2=[] then 1 else 0)) (n,[]) ⟨h0,h1,fun _=>rfl,fun h=>absurd rfl h,by simp only[VX,Nat.reduceEqDiff,Nat.reduceAdd];exact D2.row (bs:=[]) cE,rfl,rfl⟩ ?_
 rintro⟨r,bs⟩ ρ H ⟨Xz,hr1,hn,hd,ho,g0,g4⟩
 simp only at Xz hr1 hn hd ho g4
 generalize Y5:ρ 3=v3 at ho
 have hlen:=ho.len
 have yP:=ho.src
 by_cases Ja:bs≠[]∧r=0
 ·obtain⟨hb,hr⟩:=Ja
  subst hr
  have hl:¬(bs.length:Int)=0:=by have:=List.length_pos_iff.2 hb;omega
  have Vg:=hd hb
  simp only[oM,Int.natAbs_zero,if_true,List.nil_append] at Vg
  by_cases lO:n<0
  ·obtain⟨v',H',ap,Vd⟩:=ho.cons 45 (by rw[←Vg];omega) 0
   have Q9:qV false [.int .u8 0] 1 [(0,.sc (.int .u8 45))] H=some (.tree [bV 45] (.cl 1),H):=e1 45 H
   have bs2:=fun aU (h:dL aU (.tmp 34)=v')=>Vd.str (fl:=⟨true,false⟩) (lo:=0) h
   simp only[iT,g0,g4,Y5,hlen,hl,VX,Nat.reduceEqDiff,Nat.reduceAdd]
   simp only[g0,lO,Y5,Q9,yP,ap,Se,VX,Nat.reduceEqDiff,Nat.reduceAdd]
   rw[bs2 _ (by rfl)]
   simp only[VX,Nat.reduceEqDiff,Nat.reduceAdd]
   rw[Vg]
   exact aI rfl
  ·have bs2:=fun aU (h:dL aU (.tmp 34)=v3)=>ho.str (fl:=⟨true,false⟩) (lo:=0) h
   simp only[iT,g0,g4,Y5,hlen,hl,VX,Nat.reduceEqDiff,Nat.reduceAdd]
   simp only[g0,lO,Y5,Se,VX,Nat.reduceEqDiff,Nat.reduceAdd]
   rw[bs2 _ (by simp only[VX,Nat.reduceEqDiff,Nat.reduceAdd];try exact Y5)]
   simp only[VX,Nat.reduceEqDiff,Nat.reduceAdd]
   rw[Vg]
   exact aI rfl
 ·have hm:r.tmod 10=if r<0 then -((r.natAbs % 10:Nat):Int) else ((r.natAbs % 10:Nat):Int):=by
   have:=Int.tmod_eq_emod_of_nonneg (a:=r) (b:=10)
   by_cases h:r<0
   ·rw[if_pos h]
    have h2:=Int.neg_tmod (-r) 10
    rw[Int.neg_neg] at h2
    rw[h2,Int.tmod_eq_emod_of_nonneg (by omega)]
    omega
   ·rw[if_neg h,this (by omega)]
    omega
  have hq:(r.tdiv 10).natAbs=r.natAbs / 10:=by rw[Int.natAbs_tdiv];rfl
  have hmd:=Nat.mod_lt r.natAbs (show 0<10 by decide)
  have q1:=afV r Xz hr1
  have sO:bs.length≤19:=by
   by_cases hb:bs=[]
   ·subst hb;simp
   ·have h2:=hd hb
    have h3:=congrArg List.length h2
    rw[List.length_append] at h3
    have h4:r≠0:=fun h=>Ja ⟨hb,h⟩
    have h5:=List.length_pos_iff.2 (Mf r.natAbs)
    rw[oM,if_neg (by omega)] at h3
    omega
  obtain⟨v',H',ap,Vd⟩:=ho.cons (d10 (r.natAbs % 10)) (by omega) 0
  have w2:IntKind.i64.wrap (48+((r.natAbs % 10:Nat):Int))=((48+r.natAbs % 10:Nat):Int):=wrapN _ (by omega) (by omega)
  have w3:IntKind.u8.wrap ((48+r.natAbs % 10:Nat):Int)=((48+r.natAbs % 10:Nat):Int):=by
   simp[IntKind.wrap,IntKind.bits,IntKind.signed]
   omega
  have hx:VV.sc (.int .u8 ((48+r.natAbs % 10:Nat):Int))=bV (d10 (r.natAbs % 10)):=by rw[bV,TT hmd]
  have Q9:=e1 (d10 (r.natAbs % 10)) H
  rw[←hx] at Q9 ap
  have next:∃s':Int×List UInt8,s'.1.natAbs+(if s'.2=[] then 1 else 0)<r.natAbs+(if bs=[] then 1 else 0) ∧ -9223372036854775808≤s'.1∧s'.1≤9223372036854775807∧(s'.2=[]→s'.1=n)∧(s'.2≠[]→decDigits n.natAbs=oM s'.1.natAbs++s'.2)∧D2 v' H' s'.2∧r.tdiv 10=s'.1:=by
   refine⟨(r.tdiv 10,d10 (r.natAbs % 10)::bs),?_,by simp only;omega,by simp only;omega,fun h=>(by simp at h),fun _ => ?_,Vd,rfl⟩
   ·simp only[hq,List.cons_ne_nil,if_false]
    by_cases hb:bs=[]
    ·rw[if_pos hb];omega
    ·have h4:r≠0:=fun h=>Ja ⟨hb,h⟩
     rw[if_neg hb];omega
   ·simp only[hq]
    by_cases hb:bs=[]
    ·subst hb
     refine K2 ?_
     rw[hn rfl,List.append_nil]
    ·have h4:r≠0:=fun h=>Ja ⟨hb,h⟩
     have h2:=hd hb
     rw[oM,if_neg (by omega)] at h2
     exact K2 h2
  by_cases hrn:r.tmod 10<0
  ·have w1:IntKind.i64.wrap (0-r.tmod 10)=((r.natAbs % 10:Nat):Int):=by
    have:r.tmod 10 = -((r.natAbs % 10:Nat):Int):=by
     by_cases h:r<0
     ·rw[if_pos h] at hm;exact hm
     ·rw[if_neg h] at hm;omega
    rw[this]
    exact wrapN _ (by omega) (by omega)
   by_cases hb:bs=[]
   ·have hl:(bs.length:Int)=0:=by rw[hb];rfl
    simp only[iT,g0,g4,Y5,hlen,hl,R3,q1,hrn,w1,w2,w3,Q9,yP,ap,VX,Nat.reduceEqDiff,Nat.reduceAdd]
    obtain⟨s',n1,n2,n3,n4,n5,n6,n7⟩:=next
    exact⟨s',n1,n2,n3,n4,n5,n6,by rw[n7]⟩
   ·have hl:¬(bs.length:Int)=0:=by have:=List.length_pos_iff.2 hb;omega
    have hr:¬r=0:=fun h=>Ja ⟨hb,h⟩
    simp only[iT,g0,g4,Y5,hlen,hl,hr,R3,q1,hrn,w1,w2,w3,Q9,yP,ap,VX,Nat.reduceEqDiff,Nat.reduceAdd]
    obtain⟨s',n1,n2,n3,n4,n5,n6,n7⟩:=next
    exact⟨s',n1,n2,n3,n4,n5,n6,by rw[n7]⟩
  ·have hmm:r.tmod 10=((r.natAbs % 10:Nat):Int):=by
    rw[hm] at hrn ⊢
    split
    ·rename_i h;rw[if_pos h] at hrn;omega
    ·rfl
   have ahA:¬((r.natAbs % 10:Nat):Int)<0:=by omega
   by_cases hb:bs=[]
   ·have hl:(bs.length:Int)=0:=by rw[hb];rfl
    simp only[iT,g0,g4,Y5,hlen,hl,R3,hmm,q1,ahA,w2,w3,Q9,yP,ap,VX,Nat.reduceEqDiff,Nat.reduceAdd]
    obtain⟨s',n1,n2,n3,n4,n5,n6,n7⟩:=next
    exact⟨s',n1,n2,n3,n4,n5,n6,by rw[n7]⟩
   ·have hl:¬(bs.length:Int)=0:=by have:=List.length_pos_iff.2 hb;omega
    have hr:¬r=0:=fun h=>Ja ⟨hb,h⟩
    simp only[iT,g0,g4,Y5,hlen,hl,hr,R3,hmm,q1,ahA,w2,w3,Q9,yP,ap,VX,Nat.reduceEqDiff,Nat.reduceAdd]
    obtain⟨s',n1,n2,n3,n4,n5,n6,n7⟩:=next
    exact⟨s',n1,n2,n3,n4,n5,n6,by rw[n7]⟩
end Go.PM
namespace Go.PM
open Go.Lib
theorem UT (d:Nat) (h:d≤9223372036854775807):TC 235 [VI (d:Int)] (aR (decDigits d)):=by
 have:=JI (d:Int) (by omega) (by omega)
 rw[if_neg (by omega),List.nil_append,Int.natAbs_natCast] at this
 exact this
theorem Xh {n i:Nat} (hi:i+1=(aC 1000000000 n).length):n / 1000000000^i=n / 1000000000^i % 1000000000:=by
 have h1:=SL (b:=1000000000) (by decide) n (i+1)
 rw[List.drop_of_length_le (by omega)] at h1
 have h2:=(kE (b:=1000000000) (by decide)).1 h1.symm
 rw[pT] at h2
 rcases Nat.div_eq_zero_iff.1 h2 with h | h
 ·exact absurd h (by decide)
 ·exact(Nat.mod_eq_of_lt h).symm
theorem Gv (l:List UInt8) (a b:Nat):(⟨l.toArray⟩:ByteArray).extract a b=⟨((l.drop a).take (b-a)).toArray⟩:=by
 rw[ByteArray.ext_iff,ByteArray.data_extract]
 simp[List.extract_toArray,List.extract_eq_take_drop]
theorem Xv (l:List UInt8) {a b:Nat} (h:a≤b) (hb:b≤l.length):sD (aR l) (some (VI (a:Int))) (some (VI (b:Int)))=some (aR ((l.drop a).take (b-a))):=by
 have hs:(⟨l.toArray⟩:ByteArray).size=l.length:=by simp[ByteArray.size]
 have e1:(0:Int)≤b∧(b:Int)≤(l.length:Int):=by omega
 have e2:(0:Int)≤a∧(a:Int)≤(b:Int):=by omega
 simp only[sD,Eh,wV,hs,dR,e1,e2,and_self,if_true,Int.toNat_natCast,Gv]
theorem Kg (l:List UInt8) {a:Nat} (h:a≤l.length):sD (aR l) (some (VI (a:Int))) none=some (aR (l.drop a)):=by
 have hs:(⟨l.toArray⟩:ByteArray).size=l.length:=by simp[ByteArray.size]
 have e2:(0:Int)≤a∧(a:Int)≤(l.length:Int):=by omega
 simp only[sD,Eh,wV,hs,dR,e2,and_self,if_true,Int.toNat_natCast,Gv]
 rw[List.take_of_length_le (by simp)]
theorem agU (l:List UInt8) (h:1≤l.length):sD (aR l) (some (VI 1)) none=some (aR (l.drop 1)):=Kg l h
theorem Td {a:Nat} (h:a<1000000000):IntKind.i64.wrap ((a:Int)+1000000000)=((a+1000000000:Nat):Int):=wrapN _ (by omega) (by omega)
theorem mB (n:Nat) (hn:bl n≤2199023255552):TC 212 [bO n] (aR (decDigits n)):=by
 refine TC.walk ⟨true,false⟩ D7 rfl (Nat.le_of_ble_eq_true rfl) (by simp[aK,bU]) rfl ?_
 by_cases h0:n=0
 ·subst h0
  have hl:(((aC 1000000000 0).length:Nat):Int)=0:=by rw[bR];rfl
  simp only[sR,pV,cI,hl,VX,Nat.reduceEqDiff,Nat.reduceAdd]
  rw[gN (by decide)]
  exact aI rfl
 have hl:¬(((aC 1000000000 n).length:Nat):Int)=0:=by have:=(uO (n:=n)).2 h0;omega
 obtain⟨L,hL⟩:∃L,(aC 1000000000 n).length=L+1:=⟨(aC 1000000000 n).length-1,by omega⟩
 have A2:=mJ (n:=n) (by omega)
 have hlT:=Zb n
 have hdl:=yB n
 have w1:IntKind.i64.wrap (((L+1:Nat):Int)-1)=(L:Int):=wrapN _ (by omega) (by omega)
 have w2:IntKind.i64.wrap (((L+1:Nat):Int)-2)=(L:Int)-1:=by rw[wrap64 (by omega) (by omega)];omega
 have at':∀i,i≤L→bE 1 (bO n) (VI (i:Int)) []=some (.cO (tV (n / 1000000000^i % 1000000000)) 0):=fun i hi=>aP (f:=tV) (t := .op) (H:=[]) (size:=1) (k := .i64) (IN (b:=1000000000) (by decide) (n:=n) (i:=i) (by omega)) rfl
 have eL:=at' L (Nat.le_refl _)
 have U7:=Xh (n:=n) (i:=L) (by omega)
 rw[←U7] at eL
 have JU:n / 1000000000^L≠0:=(BN (b:=1000000000) (by decide)).1 (by omega)
 have hqT:n / 1000000000^L<1000000000:=by rw[U7];exact Nat.mod_lt _ (by decide)
 have c1:=UT (n / 1000000000^L) (by omega)
 rw[hL] at hl
 simp only[sR,pV,cI,hL,hl,w1,w2,eL,c1,VX,Nat.reduceEqDiff,Nat.reduceAdd]
 refine bB (fun(j:Nat) ρ H=>j≤L∧H=[]∧ρ 0=bO n∧ρ 3=aR (decDigits (n / 1000000000^j))∧ρ 4=VI ((j:Int)-1)) (fun j=>j) L ⟨Nat.le_refl _,rfl,rfl,rfl,rfl⟩ ?_
 rintro j ρ H ⟨hj,rfl,g0,g3,g4⟩
 by_cases hz:(0:Int)≤(j:Int)-1
 ·obtain⟨i,rfl⟩:∃i,j=i+1:=⟨j-1,by omega⟩
  have JD:((i+1:Nat):Int)-1=(i:Int):=by omega
  rw[JD] at g4 hz
  have e1:=at' i (by omega)
  have hm:=Nat.mod_lt (n / 1000000000^i) (show 0<1000000000 by decide)
  have hq1:n / 1000000000^(i+1)≠0:=(BN (b:=1000000000) (by decide)).1 (by omega)
  have ZX:=Nat.mod_add_div (n / 1000000000^i) 1000000000
  rw[←pT] at ZX
  have Zq:=Fx (Nat.pos_of_ne_zero hq1) hm
  have hle:n / 1000000000^i≤n:=Nat.div_le_self _ _
  have Ww:=yB (n / 1000000000^i)
  have hbi:=jM hle
  rw[show n / 1000000000^(i+1)*1000000000+n / 1000000000^i % 1000000000=n / 1000000000^i by omega] at Zq
  generalize hAA:n / 1000000000^i=A at *
  generalize n / 1000000000^(i+1)=B at *
  have w4:IntKind.i64.wrap ((i:Int)-1)=(i:Int)-1:=wrap64 (by omega) (by omega)
  have c2:=UT (A % 1000000000+1000000000) (by omega)
  rw[Y3 hm] at c2
  have e2:=agU (d10 1::AH 9 (A % 1000000000)) (by simp)
  rw[List.drop_succ_cons,List.drop_zero] at e2
  have hlen:=congrArg List.length Zq
  rw[List.length_append] at hlen
  have a1:=rZ (decDigits B) (AH 9 (A % 1000000000)) (by omega)
  rw[←Zq] at a1
  have alC:i≤L:=by omega
  have hmu:i<i+1:=by omega
  have w3:=Td hm
  simp only[oR,g0,g3,g4,hz,e1,w3,w4,c2,e2,a1,VX,Nat.reduceEqDiff,Nat.reduceAdd]
  refine⟨i,hmu,alC,?_⟩
  rw[hAA]
  exact⟨rfl,rfl⟩
 ·have PT:j=0:=by omega
  subst PT
  rw[Nat.pow_zero,Nat.div_one] at g3
  simp only[oR,g0,g3,g4,hz,VX,Nat.reduceEqDiff,Nat.reduceAdd]
  exact aI rfl
theorem HI (q:Rat) (hk:cC q≤1099511627776):TC 176 [cL q] (VB (BK q)):=by
 refine TC.walk ⟨true,false⟩ IQ rfl (Nat.le_of_ble_eq_true rfl) (by simp[aK,tY]) rfl ?_
 have la:=rQ hk
 have lb:=rO hk
 have t1:=mB q.num.natAbs (by omega)
 have t2:=mB q.den (by omega)
 have hf:BK q=(decide (((decDigits q.num.natAbs).length:Int)≤200)&&decide (((decDigits q.den).length:Int)≤200)):=by
  unfold BK
  congr 1<;>exact decide_eq_decide.2 (by omega)
 rw[hf]
 by_cases hl:((decDigits q.num.natAbs).length:Int)≤200
 ·simp only[zY,vJ,t1,t2,hl,aZ,bF,kD,mM,mV,aH,gG,Nat.reduceLeDiff,Nat.reduceLT,Nat.reduceSub,VX,Nat.reduceEqDiff,Nat.reduceAdd]
  exact aI rfl
 ·simp only[zY,vJ,t1,t2,hl,aZ,bF,kD,mM,mV,aH,gG,Nat.reduceLeDiff,Nat.reduceLT,Nat.reduceSub,VX,Nat.reduceEqDiff,Nat.reduceAdd]
  exact aI rfl
theorem IM (q:Rat) (hk:cC q≤1099511627776):TC 163 [cL q] (aR (IB q)):=by
 refine TC.walk ⟨true,false⟩ Ij rfl (Nat.le_of_ble_eq_true rfl) (by simp[aK,tY]) rfl ?_
 have la:=rQ hk
 have lb:=rO hk
 have t1:=mB q.num.natAbs (by omega)
 have t2:=mB q.den (by omega)
 have d1:=yB q.num.natAbs
 have d2:=yB q.den
 have c1:∀lo H K,_:=fun lo H K=>Hp (n:=q.den) (lo:=lo) (H:=H) (K:=K) (Nat.le_of_lt (mJ (by omega)))
 have a1:cU .add (.string ⟨#[45]⟩) (.string ⟨(decDigits q.num.natAbs).toArray⟩)=some (.string ⟨(45::decDigits q.num.natAbs).toArray⟩):=rZ [45] _ (by simp only[List.length_cons,List.length_nil];omega)
 have a2:cU .add (.string ⟨#[47]⟩) (.string ⟨(decDigits q.den).toArray⟩)=some (.string ⟨(47::decDigits q.den).toArray⟩):=rZ [47] (decDigits q.den) (by simp only[List.length_cons,List.length_nil];omega)
 have a3:=rZ (45::decDigits q.num.natAbs) (47::decDigits q.den) (by simp only[List.length_cons];omega)
 have a4:=rZ (decDigits q.num.natAbs) (47::decDigits q.den) (by simp only[List.length_cons];omega)
 have hs:IB q=(if q.num<0 then (45::decDigits q.num.natAbs) else decDigits q.num.natAbs)++(if q.den=1 then [] else 47::decDigits q.den):=by
  unfold IB
  by_cases hn:q.num<0
  ·rw[if_pos hn,if_pos hn];rfl
  ·rw[if_neg hn,if_neg hn];rfl
 rw[hs]
 by_cases hd:dX q.den 1=0
 ·rw[if_pos (uA.1 hd),List.append_nil]
  by_cases hn:q.num<0
  all_goals
   simp only[zR,uZ,t1,t2,a1,a2,a3,a4,c1,hd,hn,dA,bF,kD,mM,mV,aH,gG,Nat.reduceLeDiff,Nat.reduceLT,Nat.reduceSub,VX,Nat.reduceEqDiff,Nat.reduceAdd]
   exact aI rfl
 ·rw[if_neg (mt uA.2 hd)]
  by_cases hn:q.num<0
  all_goals
   simp only[zR,uZ,t1,t2,a1,a2,a3,a4,c1,hd,hn,dA,bF,kD,mM,mV,aH,gG,Nat.reduceLeDiff,Nat.reduceLT,Nat.reduceSub,VX,Nat.reduceEqDiff,Nat.reduceAdd]
   exact aI rfl
theorem Iw (q:Rat) (hk:cC q≤1099511627776):TC 93 [cL q] (Ew q):=by
 refine TC.walk ⟨true,false⟩ Hz rfl (Nat.le_of_ble_eq_true rfl) (by simp[aK,tY]) (Ft q) ?_
 have t1:=HI q hk
 have t2:=IM q hk
 unfold Ew
 by_cases h:BK q=true
 ·rw[h] at t1
  rw[if_pos h]
  simp only[zL,uN,t1,t2,bF,gT,cN,aH,gG,Nat.reduceLeDiff,Nat.reduceLT,Nat.reduceSub,VX,Nat.reduceEqDiff,Nat.reduceAdd]
  exact aI rfl
 ·have h':BK q=false:=by simpa using h
  rw[h'] at t1
  rw[if_neg h]
  simp only[zL,uN,t1,bF,gT,cN,aH,gG,Nat.reduceLeDiff,Nat.reduceLT,Nat.reduceSub,VX,Nat.reduceEqDiff,Nat.reduceAdd]
  exact aI rfl
end Go.PM
namespace Go.PM
open Go.Lib
def fY (c:UInt8):List UInt8→List (List UInt8)
 | []=>[[]]
 |
  x::r=>if x=c then []::fY c r else match fY c r with
  | []=>[[x]]
  | a::t=>(x::a)::t
theorem HQ {c:UInt8} {r:List UInt8}:∀ {a:List UInt8},c∉a→fY c (a++c::r)=a::fY c r:=by
 intro a
 induction a with
 | nil=>intro _;rw[List.nil_append,fY,if_pos rfl]
 |
  cons x a ih =>
  intro h
  rw[List.mem_cons,not_or] at h
  rw[List.cons_append,fY,if_neg (fun he=>h.1 he.symm),ih h.2]
theorem C3 {c:UInt8}:∀ {a:List UInt8},c∉a→fY c a=[a]:=by
 intro a
 induction a with
 | nil=>intro _;rfl
 |
  cons x a ih =>
  intro h
  rw[List.mem_cons,not_or] at h
  rw[fY,if_neg (fun he=>h.1 he.symm),ih h.2]
theorem QE {c:UInt8} (l:List UInt8):fY c l≠[]:=by
 cases l with
 | nil=>simp[fY]
 |
  cons x r =>
  rw[fY]
  split
  ·simp
  ·split<;>simp
theorem Nt {c:UInt8} {l:List UInt8} (h:(kH c l).2=none):fY c l=[l]:=C3 (yR h).2.2
theorem F0 {c:UInt8} {l r:List UInt8} (h:(kH c l).2=some r):fY c l=(kH c l).1::fY c r:=by
 obtain⟨_,h2,h3⟩:=EO h
 have:=HQ (r:=r) h3
 rw[←h2] at this
 exact this
theorem OA {c:UInt8} {l:List UInt8} (h:c∈l):2≤(fY c l).length:=by
 cases hc:(kH c l).2 with
 | none=>exact absurd h (yR hc).2.2
 |
  some r =>
  rw[F0 hc,List.length_cons]
  have:=List.length_pos_iff.2 (QE (c:=c) r)
  omega
theorem TV {l:List UInt8} {i:Nat} (h:i<l.length):(l.take (i+1)).all gK=((l.take i).all gK&&gK (l.getD i 0)):=by
 rw[List.take_add_one,List.all_append]
 have:l[i]? = some (l.getD i 0):=by rw[List.getElem?_eq_getElem h,List.getD_eq_getElem?_getD,List.getElem?_eq_getElem h];rfl
 rw[this]
 simp
set_option maxHeartbeats 1000000 in
theorem nC (l:List UInt8) (hl:l.length≤1000000000000):TC 223 [aR l] (VB (gC l)):=by
 refine TC.walk ⟨true,false⟩ FR rfl (Nat.le_of_ble_eq_true rfl) rfl rfl ?_
 simp only[AQ,xW,VX,Nat.reduceEqDiff,Nat.reduceAdd]
 refine bB (fun(i:Nat) ρ H=>i≤l.length∧H=[]∧(l.take i).all gK=true∧ρ 0=aR l∧ρ 3=VI i) (fun i=>l.length-i) 0 ⟨Nat.zero_le _,rfl,rfl,rfl,rfl⟩ ?_
 rintro i ρ H ⟨hi,rfl,hd,g0,g3⟩
 by_cases cX:(i:Int)<(l.length:Int)
 ·have QJ:i<l.length:=by omega
  have e1:=Bn l QJ
  have wi:IntKind.i64.wrap ((i:Int)+1)=((i+1:Nat):Int):=wrapN (i+1) (by omega) (by omega)
  have ht:=TV QJ
  rw[hd,Bool.true_and] at ht
  have Qm:gK (l.getD i 0)=(decide (48≤(l.getD i 0).toNat)&&decide ((l.getD i 0).toNat≤57)):=rfl
  have kG:gK (l.getD i 0)=false→gC l=false:=by
   intro h
   rw[h] at ht
   have:l.all gK=false:=by rw[←List.take_append_drop (i+1) l,List.all_append,ht,Bool.false_and]
   unfold gC
   rw[this]
   rfl
  generalize (l.getD i 0).toNat=c at *
  by_cases q1:(c:Int)<48
  ·rw[kG (by rw[Qm,decide_eq_false (by omega)];rfl)]
   simp only[cW,g0,g3,aZ,cX,e1,q1,VX,Nat.reduceEqDiff,Nat.reduceAdd]
   exact aI rfl
  ·by_cases q2:(57:Int)<(c:Int)
   ·rw[kG (by rw[Qm,decide_eq_false (show ¬c≤57 by omega),Bool.and_false])]
    simp only[cW,g0,g3,aZ,cX,e1,q1,q2,VX,Nat.reduceEqDiff,Nat.reduceAdd]
    exact aI rfl
   ·rw[Qm,decide_eq_true (by omega),decide_eq_true (by omega),Bool.and_self] at ht
    simp only[cW,g0,g3,aZ,cX,e1,q1,q2,wi,VX,Nat.reduceEqDiff,Nat.reduceAdd]
    exact⟨i+1,by omega,by omega,ht,rfl⟩
 ·have qW:i=l.length:=by omega
  subst qW
  rw[List.take_length] at hd
  by_cases h1:(1:Int)≤(l.length:Int)
  ·by_cases h2:(l.length:Int)≤200
   ·by_cases h3:(l.length:Int)=1
    ·rw[iL.2 ⟨hd,by omega,by omega,.inl (by omega)⟩]
     simp only[cW,g0,g3,aZ,cX,ge_iff_le,h1,h2,h3,Int.reduceLE,Int.reduceLT,VX,Nat.reduceEqDiff,Nat.reduceAdd]
     exact aI rfl
    ·have e1:=E5 l (by omega)
     by_cases h4:(((l.getD 0 0).toNat:Int)=48)
     ·have hk:gC l=false:=by
       cases h:gC l with
       | false=>rfl
       |
        true =>
        rcases(iL.1 h).2.2.2 with h5 | h5
        ·omega
        ·exact absurd (UInt8.toNat_inj.1 (by rw[show (48:UInt8).toNat=48 from rfl];omega)) h5
      rw[hk]
      simp only[cW,g0,g3,aZ,cX,ge_iff_le,h1,h2,h3,h4,e1,VX,Nat.reduceEqDiff,Nat.reduceAdd]
      exact aI rfl
     ·have h5:l.getD 0 0≠48:=fun h=>h4 (by rw[h];rfl)
      rw[iL.2 ⟨hd,by omega,by omega,.inr h5⟩]
      simp only[cW,g0,g3,aZ,cX,ge_iff_le,h1,h2,h3,h4,e1,VX,Nat.reduceEqDiff,Nat.reduceAdd]
      exact aI rfl
   ·have hk:gC l=false:=by
     cases h:gC l with
     | false=>rfl
     | true=>have:=(iL.1 h).2.2.1;omega
    rw[hk]
    simp only[cW,g0,g3,aZ,cX,ge_iff_le,h1,h2,VX,Nat.reduceEqDiff,Nat.reduceAdd]
    exact aI rfl
  ·have hk:gC l=false:=by
    cases h:gC l with
    | false=>rfl
    | true=>have:=(iL.1 h).2.1;omega
   rw[hk]
   simp only[cW,g0,g3,aZ,cX,ge_iff_le,h1,VX,Nat.reduceEqDiff,Nat.reduceAdd]
   exact aI rfl
set_option maxHeartbeats 1000000 in
theorem CJ (l:List UInt8) (c:UInt8) (hl:l.length≤1000000000000):TC 222 [aR l,.sc (.int .u8 (c.toNat:Int))] (bT aR (fY c l)):=by
 refine TC.walk ⟨true,false⟩ JR rfl (Nat.le_of_ble_eq_true rfl) rfl (Bt (size:=1) (fun _=>rfl) (fun _=>rfl) fun _=>rfl) ?_
 have e3:∀lr,qV lr [.string ⟨#[]⟩] 0 [] []=some (.ref 0 0 0 0 0,[.row 0 (([]:List (List UInt8)).map aR) 1 true]):=fun lr=>nR (H:=[]) (lr:=lr) (z:=[.string ⟨#[]⟩]) rfl
 have e4:∀(x:List UInt8) (H:aB),qV false [.string ⟨#[]⟩] 1 [(0,aR x)] H=some (.tree [aR x] (.cl 1),H):=fun x H=>sL (z:=[.string ⟨#[]⟩]) rfl rfl rfl
 have e5:∀(x:List UInt8) (H:aB),eY 1 (.tree [aR x] (.cl 1)) H=some [aR x]:=fun x H=>pB rfl rfl
 simp only[Gy,Cs,e3,VX,Nat.reduceEqDiff,Nat.reduceAdd]
 refine bB (fun(s:List (List UInt8)×Nat×Nat) ρ H=>H=[.row s.1.length (s.1.map aR) 1 true]∧s.2.1≤s.2.2∧s.2.2≤l.length+1∧s.1.length≤s.2.1 ∧
  ((s.2.2≤l.length∧fY c l=s.1++fY c (l.drop s.2.1)∧c∉(l.drop s.2.1).take (s.2.2-s.2.1))∨(s.2.2=l.length+1∧fY c l=s.1)) ∧
  ρ 0=aR l∧ρ 1 = .sc (.int .u8 (c.toNat:Int))∧ρ 5 = .ref 0 s.1.length 0 s.1.length s.1.length∧ρ 6=VI s.2.1∧ρ 7=VI s.2.2) (fun s=>l.length+1-s.2.2) ([],0,0) ⟨rfl,Nat.zero_le _,Nat.zero_le _,Nat.zero_le _,.inl ⟨Nat.zero_le _,rfl,by simp⟩,rfl,rfl,rfl,rfl,rfl⟩ ?_
 rintro⟨out,fr,i⟩ ρ H ⟨rfl,hfi,hi,iC,EZ,g0,g1,g5,g6,g7⟩
 simp only at hfi hi iC EZ g5 g6 g7
 by_cases cX:(i:Int)≤(l.length:Int)
 ·have QJ:i≤l.length:=by omega
  obtain⟨hp,hc⟩:fY c l=out++fY c (l.drop fr)∧c∉(l.drop fr).take (i-fr):=by
   rcases EZ with⟨_,h1,h2⟩ | ⟨h,_⟩
   ·exact⟨h1,h2⟩
   ·omega
  have wi:IntKind.i64.wrap ((i:Int)+1)=((i+1:Nat):Int):=wrapN (i+1) (by omega) (by omega)
  have e2:=Xv l hfi QJ
  have eP:=oX (f:=aR) (xs:=out) (x:=(l.drop fr).take (i-fr)) (lo:=0) (b:=0) (g:=out.length) (n:=out.length) (e:=1) (bytes:=16) (H:=[.row out.length (out.map aR) 1 true]) cE rfl (Nat.zero_le _) (by decide) (by decide) (by omega)
  have FQ:([.row out.length (out.map aR) 1 true]:aB).set 0 (.row (out.length+1) ((out++[(l.drop fr).take (i-fr)]).map aR) 1 true)=[.row (out.length+1) ((out++[(l.drop fr).take (i-fr)]).map aR) 1 true]:=rfl
  rw[FQ] at eP
  by_cases q1:i=l.length
  ·subst q1
   have WY:fY c l=out++[(l.drop fr).take (l.length-fr)]:=by
    rw[hp]
    have:(l.drop fr).take (l.length-fr)=l.drop fr:=List.take_of_length_le (by rw[List.length_drop];omega)
    rw[this] at hc ⊢
    rw[C3 hc]
   simp only[mO,g0,g1,g5,g6,g7,aZ,cX,eq_self,e2,e4,e5,eP,wi,VX,Nat.reduceEqDiff,Nat.reduceAdd]
   refine⟨(out++[(l.drop fr).take (l.length-fr)],l.length+1,l.length+1),by simp only;omega,?_,by simp only;omega,by simp only;omega,?_,.inr ⟨rfl,WY⟩,?_⟩
   ·simp
   ·simp only[List.length_append,List.length_cons,List.length_nil];omega
   ·simp
  ·have XX:i<l.length:=by omega
   have q1':¬(i:Int)=(l.length:Int):=by omega
   have e1:=Bn l XX
   have Zz:l.drop i=l.getD i 0::l.drop (i+1):=by rw[List.drop_eq_getElem_cons XX,List.getD_eq_getElem?_getD,List.getElem?_eq_getElem XX];rfl
   by_cases q2:l.getD i 0=c
   ·have q2':((l.getD i 0).toNat:Int)=(c.toNat:Int):=by rw[q2]
    have WY:fY c l=(out++[(l.drop fr).take (i-fr)])++fY c (l.drop (i+1)):=by
     have Ns:l.drop fr=(l.drop fr).take (i-fr)++c::l.drop (i+1):=by
      have h1:(l.drop fr).drop (i-fr)=l.drop i:=by rw[List.drop_drop];congr 1;omega
      conv=>lhs;rw[←List.take_append_drop (i-fr) (l.drop fr),h1,Zz,q2]
     rw[hp]
     conv=>lhs;rw[Ns]
     rw[HQ hc,List.append_assoc]
     rfl
    simp only[mO,g0,g1,g5,g6,g7,aZ,cX,q1',e1,q2',eq_self,e2,e4,e5,eP,wi,VX,Nat.reduceEqDiff,Nat.reduceAdd]
    refine⟨(out++[(l.drop fr).take (i-fr)],i+1,i+1),by simp only;omega,?_,by simp only;omega,by simp only;omega,?_,.inl ⟨by simp only;omega,WY,by simp⟩,?_⟩
    ·simp
    ·simp only[List.length_append,List.length_cons,List.length_nil];omega
    ·simp
   ·have q2':¬((l.getD i 0).toNat:Int)=(c.toNat:Int):=fun h=>q2 (UInt8.toNat_inj.1 (by omega))
    simp only[mO,g0,g1,g5,g6,g7,aZ,cX,q1',e1,q2',wi,VX,Nat.reduceEqDiff,Nat.reduceAdd]
    refine⟨(out,fr,i+1),by simp only;omega,rfl,by simp only;omega,by simp only;omega,iC,.inl ⟨by simp only;omega,hp,?_⟩,rfl,rfl,rfl⟩
    simp only
    rw[show i+1-fr=(i-fr)+1 by omega,List.take_add_one,List.mem_append,not_or]
    refine⟨hc,?_⟩
    have:(l.drop fr)[i-fr]? = some (l.getD i 0):=by
     rw[List.getElem?_drop,show fr+(i-fr)=i by omega,List.getD_eq_getElem?_getD,List.getElem?_eq_getElem XX]
     rfl
    rw[this]
    simp
    exact fun h=>q2 h.symm
 ·have WY:fY c l=out:=by
   rcases EZ with⟨h,_⟩ | ⟨_,h⟩
   ·omega
   ·exact h
  rw[WY]
  simp only[mO,g0,g5,g7,aZ,cX,VX,Nat.reduceEqDiff,Nat.reduceAdd]
  exact CZ (es:=out.map aR) cE (by simp) (Nat.le_refl _) (dY fun _=>rfl)
theorem W5 {l:List UInt8} (h:l.all gK=true) {i:Nat} (hi:i<l.length):48≤(l.getD i 0).toNat∧(l.getD i 0).toNat≤57:=by
 have:=List.all_eq_true.1 h (l.getD i 0) (by rw[List.getD_eq_getElem?_getD,List.getElem?_eq_getElem hi];exact List.getElem_mem hi)
 simpa[gK] using this
theorem I5 {l:List UInt8} (hd:l.all gK=true) (hl:l.length≤1000000000000) {fr tq:Nat} (hft:fr≤tq) (h9:tq-fr≤9) (htl:tq≤l.length) {H:aB} {lo:Nat} {ρ:cP} {Q:VQ} (h0:ρ 0=aR l) (h4:ρ 4=VI tq) (h6:ρ 6=VI 0) (h7:ρ 7=VI fr)
  (hQ:∀aU,(∀t,t<6→aU t=ρ t)→aU 6=VI (bM ((l.drop fr).take (tq-fr)))→Q .normal aU H):VW ⟨true,false⟩ lo (.loop kS) (xC 2 Q) ρ H:=by
 refine bB (fun(i:Nat) aU H'=>fr≤i∧i≤tq∧H'=H∧(∀t,t<6→aU t=ρ t)∧aU 6=VI (bM ((l.drop fr).take (i-fr)))∧aU 7=VI i) (fun i=>tq-i) fr ⟨Nat.le_refl _,hft,rfl,fun _ _=>rfl,by rw[h6,Nat.sub_self];rfl,h7⟩ ?_
 rintro i aU H' ⟨hfi,hi,rfl,hk,g6,g7⟩
 have g0:=(hk 0 (by decide)).trans h0
 have g4:=(hk 4 (by decide)).trans h4
 by_cases cX:(i:Int)<(tq:Int)
 ·have QJ:i<l.length:=by omega
  have e1:=Bn l QJ
  obtain⟨c1,c2⟩:=W5 hd QJ
  have wi:IntKind.i64.wrap ((i:Int)+1)=((i+1:Nat):Int):=wrapN (i+1) (by omega) (by omega)
  have hcd:((l.drop fr).take (i-fr)).all gK=true:=by
   rw[List.all_eq_true] at hd ⊢
   exact fun x hx=>hd x (List.mem_of_mem_drop (List.mem_of_mem_take hx))
  have aX:=Eo hcd
  rw[List.length_take,List.length_drop,Nat.min_eq_left (by omega)] at aX
  have hp9:10^(i-fr)≤10^8:=Nat.pow_le_pow_right (by decide) (by omega)
  have e8:(10:Nat)^8=100000000:=by decide
  have rG:bM ((l.drop fr).take (i+1-fr))=bM ((l.drop fr).take (i-fr))*10+dv (l.getD i 0):=by
   have:(l.drop fr)[i-fr]? = some (l.getD i 0):=by
    rw[List.getElem?_drop,show fr+(i-fr)=i by omega,List.getD_eq_getElem?_getD,List.getElem?_eq_getElem QJ]
    rfl
   rw[show i+1-fr=(i-fr)+1 by omega,List.take_add_one,this]
   exact TO _ _
  have hdv:dv (l.getD i 0)=(l.getD i 0).toNat-48:=rfl
  rw[hdv] at rG
  generalize (l.getD i 0).toNat=c at *
  generalize bM ((l.drop fr).take (i-fr))=D at *
  have w1:IntKind.i64.wrap (10*(D:Int))=((10*D:Nat):Int):=wrapN _ (by omega) (by omega)
  have w2:IntKind.u8.wrap ((c:Int)-48)=((c-48:Nat):Int):=by
   simp[IntKind.wrap,IntKind.bits,IntKind.signed]
   omega
  have w3:IntKind.i64.wrap ((c-48:Nat):Int)=((c-48:Nat):Int):=wrapN _ rfl (by omega)
  have w4:IntKind.i64.wrap (((10*D:Nat):Int)+((c-48:Nat):Int))=((D*10+(c-48):Nat):Int):=wrapN _ (by omega) (by omega)
  simp only[kS,g0,g4,g6,g7,cX,e1,w1,w2,w3,w4,wi,VX,Nat.reduceEqDiff,Nat.reduceAdd]
  refine⟨i+1,by omega,by omega,by omega,fun t ht => ?_,by rw[rG],rfl⟩
  try simp only[sG]
  repeat rw[if_neg (by omega)]
  exact hk t ht
 ·have qW:i=tq:=by omega
  subst qW
  simp only[kS,g4,g7,cX,VX,Nat.reduceEqDiff,Nat.reduceAdd]
  refine hQ _ (fun t ht => ?_) ?_
  ·try simp only[sG]
   repeat rw[if_neg (by omega)]
   exact hk t ht
  ·simp only[g6,VX,Nat.reduceEqDiff,Nat.reduceAdd]
set_option maxHeartbeats 1000000 in
theorem pZ (l:List UInt8) (hd:l.all gK=true) (hl:l.length≤1000000000):TC 224 [aR l] (bO (bM l)):=by
 refine TC.walk ⟨true,false⟩ Eu rfl (Nat.le_of_ble_eq_true rfl) rfl (lE _) ?_
 have e3:∀lr,qV lr [.int .i64 0] 0 [] []=some (.ref 0 0 0 0 0,[.row 0 (([]:List Nat).map tV) 1 true]):=fun lr=>nR (H:=[]) (lr:=lr) (z:=[.int .i64 0]) rfl
 have e4:∀(x:Nat) (H:aB),qV false [.int .i64 0] 1 [(0,tV x)] H=some (.tree [tV x] (.cl 1),H):=fun x H=>sL (z:=[.int .i64 0]) rfl rfl rfl
 have e5:∀(x:Nat) (H:aB),eY 1 (.tree [tV x] (.cl 1)) H=some [tV x]:=fun x H=>pB rfl rfl
 simp only[Ae,wW,e3,aZ,VX,Nat.reduceEqDiff,Nat.reduceAdd]
 refine bB (fun(s:List Nat×Int) ρ H=>H=[.row s.1.length (s.1.map tV) 1 true]∧s.2≤l.length ∧ -9≤s.2∧s.1.length+s.2.toNat≤l.length∧(∀d∈s.1,d<1000000000)∧bM l=val 1000000000 s.1+1000000000^s.1.length*bM (l.take s.2.toNat) ∧
  ρ 0=aR l∧ρ 3 = .ref 0 s.1.length 0 s.1.length s.1.length∧ρ 4=VI s.2) (fun s=>s.2.toNat) ([],(l.length:Int)) ⟨rfl,Int.le_refl _,by simp only;omega,by simp,by simp,?_,rfl,rfl,rfl⟩ ?_
 ·simp only[Int.toNat_natCast,List.take_length,List.length_nil,Nat.pow_zero,Nat.one_mul,val,Nat.zero_add]
 rintro⟨out,z⟩ ρ H ⟨rfl,hz,hz9,iC,hds,hv,g0,g3,g4⟩
 simp only at hz hz9 iC hds hv g3 g4
 by_cases jO:0<z
 ·obtain⟨tq,rfl⟩:∃tq:Nat,z=tq:=⟨z.toNat,by omega⟩
  rw[Int.toNat_natCast] at iC hv
  have hto:0<tq:=by omega
  have key:∀fr:Nat,fr≤tq→tq-fr≤9→bM (l.take tq)=bM (l.take fr)*10^(tq-fr)+bM ((l.drop fr).take (tq-fr))∧bM ((l.drop fr).take (tq-fr))<1000000000:=by
   intro fr h1 h2
   have hcd:((l.drop fr).take (tq-fr)).all gK=true:=by
    rw[List.all_eq_true] at hd ⊢
    exact fun x hx=>hd x (List.mem_of_mem_drop (List.mem_of_mem_take hx))
   have hlen:((l.drop fr).take (tq-fr)).length=tq-fr:=by rw[List.length_take,List.length_drop];omega
   constructor
   ·have:=List.take_add (l:=l) (i:=fr) (j:=tq-fr)
    rw[show fr+(tq-fr)=tq by omega] at this
    rw[this,HK,hlen]
   ·have:=Eo hcd
    rw[hlen] at this
    exact Nat.lt_of_lt_of_le this (Nat.le_trans (Nat.pow_le_pow_right (by decide) h2) (by decide))
  have eP:=fun X=>oX (f:=tV) (xs:=out) (x:=X) (lo:=0) (b:=0) (g:=out.length) (n:=out.length) (e:=1) (bytes:=8) (H:=[.row out.length (out.map tV) 1 true]) cE rfl (Nat.zero_le _) (by decide) (by decide) (by omega)
  have FQ:∀X,([.row out.length (out.map tV) 1 true]:aB).set 0 (.row (out.length+1) ((out++[X]).map tV) 1 true)=[.row (out.length+1) ((out++[X]).map tV) 1 true]:=fun _=>rfl
  simp only[FQ] at eP
  by_cases h9:(9:Int)<(tq:Int)
  ·obtain⟨k1,k2⟩:=key (tq-9) (by omega) (by omega)
   have wz:IntKind.i64.wrap ((tq:Int)-9)=((tq-9:Nat):Int):=wrapN _ (by omega) (by omega)
   rw[show tq-(tq-9)=9 by omega] at k1 k2
   rw[show (10:Nat)^9=1000000000 by decide] at k1
   simp only[lA,g0,g3,g4,jO,h9,wz,VX,Nat.reduceEqDiff,Nat.reduceAdd]
   refine I5 (l:=l) hd (by omega) (fr:=tq-9) (tq:=tq) (by omega) (by omega) (by omega) ?_ ?_ ?_ ?_ fun tW q q6 => ?_
   all_goals first | (simp only[g0,g4,VX,Nat.reduceEqDiff,Nat.reduceAdd];done) | skip
   rw[show tq-(tq-9)=9 by omega] at q6
   have u3:tW 3 = .ref 0 out.length 0 out.length out.length:=by rw[q 3 (by decide)];simp only[g3,VX,Nat.reduceEqDiff,Nat.reduceAdd]
   have u0:tW 0=aR l:=by rw[q 0 (by decide)];simp only[g0,VX,Nat.reduceEqDiff,Nat.reduceAdd]
   have u4:tW 4=VI tq:=by rw[q 4 (by decide)];simp only[g4,VX,Nat.reduceEqDiff,Nat.reduceAdd]
   generalize bM ((l.drop (tq-9)).take 9)=X at *
   have e4:=e4 X
   have e5:=e5 X
   have eP:=eP X
   simp only[u0,u3,u4,q6,e4,e5,eP,wz,VX,Nat.reduceEqDiff,Nat.reduceAdd]
   refine⟨(out++[X],((tq-9:Nat):Int)),by simp only;omega,?_,by simp only;omega,by simp only;omega,?_,?_,?_,?_⟩
   ·simp
   ·simp only[List.length_append,List.length_cons,List.length_nil];omega
   ·intro d ZX
    rcases List.mem_append.1 ZX with h | h
    ·exact hds d h
    ·rw[List.mem_singleton] at h;omega
   ·simp only[Int.toNat_natCast]
    rw[hv,k1,pY,List.length_append,List.length_singleton,Nat.pow_succ]
    grind
   ·simp
  ·obtain⟨k1,k2⟩:=key 0 (by omega) (by omega)
   rw[List.take_zero,It,Nat.zero_mul,Nat.zero_add,Nat.sub_zero] at k1
   rw[Nat.sub_zero] at k2
   have wz:IntKind.i64.wrap ((tq:Int)-9)=(tq:Int)-9:=wrap64 (by omega) (by omega)
   simp only[lA,g0,g3,g4,jO,h9,VX,Nat.reduceEqDiff,Nat.reduceAdd]
   refine I5 (l:=l) hd (by omega) (fr:=0) (tq:=tq) (by omega) (by omega) (by omega) ?_ ?_ ?_ ?_ fun tW q q6 => ?_
   all_goals first | (simp only[g0,g4,VX,Nat.reduceEqDiff,Nat.reduceAdd];done) | (simp only[VX,Nat.reduceEqDiff,Nat.reduceAdd];rfl) | skip
   rw[Nat.sub_zero] at q6
   have u3:tW 3 = .ref 0 out.length 0 out.length out.length:=by rw[q 3 (by decide)];simp only[g3,VX,Nat.reduceEqDiff,Nat.reduceAdd]
   have u0:tW 0=aR l:=by rw[q 0 (by decide)];simp only[g0,VX,Nat.reduceEqDiff,Nat.reduceAdd]
   have u4:tW 4=VI tq:=by rw[q 4 (by decide)];simp only[g4,VX,Nat.reduceEqDiff,Nat.reduceAdd]
   generalize bM ((l.drop 0).take tq)=X at *
   have e4:=e4 X
   have e5:=e5 X
   have eP:=eP X
   simp only[u0,u3,u4,q6,e4,e5,eP,wz,VX,Nat.reduceEqDiff,Nat.reduceAdd]
   refine⟨(out++[X],(tq:Int)-9),by simp only;omega,?_,by simp only;omega,by simp only;omega,?_,?_,?_,?_⟩
   ·simp
   ·simp only[List.length_append,List.length_cons,List.length_nil];omega
   ·intro d ZX
    rcases List.mem_append.1 ZX with h | h
    ·exact hds d h
    ·rw[List.mem_singleton] at h;omega
   ·simp only
    rw[show ((tq:Int)-9).toNat=0 by omega,List.take_zero,It,Nat.mul_zero,Nat.add_zero,hv,k1,pY]
   ·simp
 ·have h0:z.toNat=0:=by omega
  rw[h0,List.take_zero,It,Nat.mul_zero,Nat.add_zero] at hv
  rw[hv]
  have ct:=TC.X4 (f:=tV) (xs:=out) (size:=1) (e:=1) (w:=true) (H:=[.row out.length (out.map tV) 1 true]) (b:=0) (gn:=out.length) (n:=out.length) (c:=out.length) (pI out hds (by show out.length≤70368744177664;omega)) cE rfl (Nat.le_refl _) Da (fun _=>rfl) rfl rfl
  simp only[lA,g0,g3,g4,jO,ct,VX,Nat.reduceEqDiff,Nat.reduceAdd]
  exact aI (bU _)
end Go.PM
namespace Go.PM
open Go.Lib
def AM (l:List UInt8):VV:=match uE l with
 | some q => .eK [cL q,VB true]
 | none => .eK [Jc,VB false]
theorem mF (q:Rat):aW (cL q)=true:=by simp[cL,aW,aK,bU,lL]
theorem yT (q:Rat):gH (cL q)=true:=by simp[cL,gH,pF,lE,lL]
theorem PN (l:List UInt8):gH (AM l)=true:=by
 unfold AM
 split<;>simp[gH,pF,yT,Nb,lL]
theorem Jk {neg:Bool} {t b:Nat} (hb:b≠0) (hg:Nat.gcd t b=1) (hn:¬(neg=true∧t=0)):cL (mkRat (iY neg t) b) = .agg [VB neg,bO t,bO b]:=by
 obtain⟨e1,e2⟩:=Gz (neg:=neg) hb hg
 refine L4 ?_ (by rw[e1,lT]) e2
 rw[e1]
 cases neg with
 | false=>unfold iY;simp
 |
  true =>
  have:t≠0:=fun h=>hn ⟨rfl,h⟩
  unfold iY
  simp
  omega
theorem BS {n:Nat}:(((aC 1000000000 n).length:Nat):Int)=0↔n=0:=by
 rw[←kE (b:=1000000000) (n:=n) (by decide),←List.length_eq_zero_iff]
 omega
theorem NT {neg:Bool} {d t:List UInt8} (h:(47:UInt8)∈t):mE neg d (some t)=none:=by
 have ht:gC t=false:=by
  cases hk:gC t with
  | false=>rfl
  | true=>exact absurd h (WI (iL.1 hk).1)
 unfold mE
 split
 ·rfl
 ·simp only
  rw[if_neg (fun h=>by rw[ht] at h;exact absurd h.1 (by decide))]
theorem at_one (x:List UInt8) (H:aB):bE 1 (bT aR [x]) (VI 0) H=some (.cO (aR x) 0):=aP (f:=aR) (t := .op) (H:=H) (size:=1) (k := .i64) (xs:=[x]) (i:=0) rfl rfl
theorem YH (x y:List UInt8) (H:aB):bE 1 (bT aR [x,y]) (VI 0) H=some (.cO (aR x) 0):=aP (f:=aR) (t := .op) (H:=H) (size:=1) (k := .i64) (xs:=[x,y]) (i:=0) rfl rfl
theorem YY (x y:List UInt8) (H:aB):bE 1 (bT aR [x,y]) (VI 1) H=some (.cO (aR y) 0):=aP (f:=aR) (t := .op) (H:=H) (size:=1) (k := .i64) (xs:=[x,y]) (i:=1) rfl rfl
theorem RB (x:List UInt8) (H:aB):pE (bT aR [x]) H=some (VI 1):=dZ (f:=aR) (xs:=[x])
theorem Yz (x y:List UInt8) (H:aB):pE (bT aR [x,y]) H=some (VI 2):=dZ (f:=aR) (xs:=[x,y])
set_option maxRecDepth 100000 in
set_option maxHeartbeats 4000000 in
theorem Ha (l:List UInt8) (hl:l.length≤1000000000):TC 175 [aR l] (AM l):=by
 refine TC.walk ⟨true,false⟩ G1 rfl (Nat.le_of_ble_eq_true rfl) rfl (PN l) ?_
 by_cases xM:l=[]
 ·subst xM
  have eC:TC 222 [.sc (.string ⟨#[]⟩),.sc (.int .u8 47)] (bT aR [[]]):=CJ [] 47 (by simp)
  have eD:TC 223 [.sc (.string ⟨#[]⟩)] (VB false):=nC [] (by simp)
  have e1:yC (.string ⟨#[]⟩)=some (.int .i64 0):=rfl
  have a1:=at_one []
  have a2:=RB []
  simp only[bQ,aY,e1,eC,eD,a1,a2,Int.reduceLT,Int.reduceLE,aE,gG,Nat.reduceLeDiff,Nat.reduceLT,Nat.reduceSub,VX,Nat.reduceEqDiff,Nat.reduceAdd]
  exact bH (d:=6) fJ (aJ (v:=VB false) rfl)
 have hp:0<l.length:=List.length_pos_iff.2 xM
 have jO:(0:Int)<(l.length:Int):=by omega
 have e0:=E5 l hp
 unfold AM
 unfold uE
 have lO:isNeg l=decide (((l.getD 0 0).toNat:Int)=45):=by
  unfold isNeg
  rw[decide_eq_true (show 1≤l.length from hp),Bool.true_and]
  refine decide_eq_decide.2 ⟨fun h=>by rw[h];rfl,fun h=>UInt8.toNat_inj.1 (by rw[show (45:UInt8).toNat=45 from rfl];omega)⟩
 have Pw:(if isNeg l=true then l.drop 1 else l).length≤l.length:=by split<;>simp
 have q0:isNeg l=false→¬((l.getD 0 0).toNat:Int)=45:=fun h=>by rw[lO] at h;exact of_decide_eq_false h
 have q9:isNeg l=true→((l.getD 0 0).toNat:Int)=45:=fun h=>by rw[lO] at h;exact of_decide_eq_true h
 have r0:isNeg l=false→(if isNeg l=true then l.drop 1 else l)=l:=fun h=>by rw[h];rfl
 have r9:isNeg l=true→sD (aR l) (some (VI 1)) none=some (aR (if isNeg l=true then l.drop 1 else l)):=fun h=>by rw[h];exact Kg l (a:=1) hp
 generalize (if isNeg l=true then l.drop 1 else l)=r at *
 generalize isNeg l=neg at *
 clear lO
 have eC:TC 222 [aR r,.sc (.int .u8 47)] (bT aR (fY 47 r)):=CJ r 47 (by omega)
 obtain⟨l1,l2⟩:=O9 (c:=47) (l:=r)
 cases hs:(kH 47 r).2 with
 |
  none =>
  have hd:=(yR hs).2.1
  rw[Nt hs] at eC
  rw[hd]
  have a1:=at_one r
  have a2:=RB r
  have eD:=nC r (by omega)
  cases hk:gC r with
  |
   false =>
   rw[hk] at eD
   have Uv:mE neg r none=none:=if_pos (.inl hk)
   rw[Uv]
   cases neg with
   |
    false =>
    have q1:=q0 rfl
    have Pw:=r0 rfl
    subst Pw
    simp only[bQ,aY,aZ,jO,e0,q1,eC,eD,a1,a2,Int.reduceLT,aE,aQ,aH,aM,dA,eU,cZ,eO,gG,Nat.reduceLeDiff,Nat.reduceLT,Nat.reduceSub,VX,Nat.reduceEqDiff,Nat.reduceAdd]
    exact bH (d:=6) fJ (aJ (v:=VB false) rfl)
   |
    true =>
    have q1:=q9 rfl
    have e9:=r9 rfl
    simp only[bQ,aY,aZ,jO,e0,q1,eC,eD,a1,a2,Int.reduceLT,e9,aE,aQ,aH,aM,dA,eU,cZ,eO,gG,Nat.reduceLeDiff,Nat.reduceLT,Nat.reduceSub,VX,Nat.reduceEqDiff,Nat.reduceAdd]
    exact bH (d:=6) fJ (aJ (v:=VB false) rfl)
  |
   true =>
   rw[hk] at eD
   have hbt:=uD hk
   have eN:=pZ r (iL.1 hk).1 (by omega)
   by_cases hz:neg=true∧bM r=0
   ·have Uv:mE neg r none=none:=if_pos (.inr hz)
    rw[Uv]
    obtain⟨rfl,FK⟩:=hz
    have q1:=q9 rfl
    have e9:=r9 rfl
    have Fw:(((aC 1000000000 (bM r)).length:Nat):Int)=0:=BS.2 FK
    simp only[bQ,aY,aZ,jO,e0,q1,eC,eD,a1,a2,eN,e9,cI,Fw,Int.reduceLT,aE,aQ,aH,aM,dA,eU,cZ,eO,gG,Nat.reduceLeDiff,Nat.reduceLT,Nat.reduceSub,VX,Nat.reduceEqDiff,Nat.reduceAdd]
    exact bH (d:=6) fJ (aJ (v:=VB false) rfl)
   ·have Cl:neg=true→¬(((aC 1000000000 (bM r)).length:Nat):Int)=0:=fun h h0=>hz ⟨h,BS.1 h0⟩
    have Uv:mE neg r none=some (mkRat (iY neg (bM r)) 1):=if_neg (by rw[hk];rintro(h | h);exact absurd h (by decide);exact hz h)
    rw[Uv]
    simp only[]
    rw[Jk (by decide) (Nat.gcd_one_right _) hz]
    cases neg with
    |
     false =>
     have q1:=q0 rfl
     have Pw:=r0 rfl
     subst Pw
     simp only[bQ,aY,aZ,jO,e0,q1,eC,eD,a1,a2,eN,Int.reduceLT,Int.reduceEq,aE,aQ,aH,aM,dA,eU,cZ,eO,gG,Nat.reduceLeDiff,Nat.reduceLT,Nat.reduceSub,VX,Nat.reduceEqDiff,Nat.reduceAdd]
     exact bH (d:=6) (oF (aJ (v:=VB false) rfl) (aJ (bU _)) L3) (aJ (v:=VB true) rfl)
    |
     true =>
     have q1:=q9 rfl
     have e9:=r9 rfl
     have Fw:=Cl rfl
     simp only[bQ,aY,aZ,jO,e0,q1,eC,eD,a1,a2,eN,Int.reduceLT,Int.reduceEq,e9,cI,Fw,aE,aQ,aH,aM,dA,eU,cZ,eO,gG,Nat.reduceLeDiff,Nat.reduceLT,Nat.reduceSub,VX,Nat.reduceEqDiff,Nat.reduceAdd]
     exact bH (d:=6) (oF (aJ (v:=VB true) rfl) (aJ (bU _)) L3) (aJ (v:=VB true) rfl)
 |
  some t =>
  have ltt:=l2 t hs
  rw[F0 hs] at eC
  generalize (kH 47 r).1=d at *
  by_cases hm:(47:UInt8)∈t
  ·rw[NT hm]
   have hP:=OA hm
   generalize hPP:fY 47 t=P at *
   have a2:∀H,pE (bT aR (d::P)) H=some (VI ((d::P).length:Int)):=fun H=>dZ (f:=aR) (xs:=d::P)
   have hq3:(2:Int)<((d::P).length:Int):=by rw[List.length_cons];omega
   generalize hQQ:d::P=PP at *
   clear hQQ hPP hP
   cases neg with
   |
    false =>
    have q1:=q0 rfl
    have Pw:=r0 rfl
    subst Pw
    simp only[bQ,aY,aZ,jO,e0,q1,eC,a2,hq3,aE,aQ,aH,aM,dA,eU,cZ,eO,gG,Nat.reduceLeDiff,Nat.reduceLT,Nat.reduceSub,VX,Nat.reduceEqDiff,Nat.reduceAdd]
    exact bH (d:=6) fJ (aJ (v:=VB false) rfl)
   |
    true =>
    have q1:=q9 rfl
    have e9:=r9 rfl
    simp only[bQ,aY,aZ,jO,e0,q1,eC,a2,hq3,e9,aE,aQ,aH,aM,dA,eU,cZ,eO,gG,Nat.reduceLeDiff,Nat.reduceLT,Nat.reduceSub,VX,Nat.reduceEqDiff,Nat.reduceAdd]
    exact bH (d:=6) fJ (aJ (v:=VB false) rfl)
  ·rw[C3 hm] at eC
   have a1:=YH d t
   have a3:=YY d t
   have a2:=Yz d t
   have eD:=nC d (by omega)
   have eF:=nC t (by omega)
   cases hk:gC d with
   |
    false =>
    rw[hk] at eD
    have Uv:mE neg d (some t)=none:=if_pos (.inl hk)
    rw[Uv]
    cases neg with
    |
     false =>
     have q1:=q0 rfl
     have Pw:=r0 rfl
     subst Pw
     simp only[bQ,aY,aZ,jO,e0,q1,eC,eD,a1,a2,Int.reduceLT,aE,aQ,aH,aM,dA,eU,cZ,eO,gG,Nat.reduceLeDiff,Nat.reduceLT,Nat.reduceSub,VX,Nat.reduceEqDiff,Nat.reduceAdd]
     exact bH (d:=6) fJ (aJ (v:=VB false) rfl)
    |
     true =>
     have q1:=q9 rfl
     have e9:=r9 rfl
     simp only[bQ,aY,aZ,jO,e0,q1,eC,eD,a1,a2,Int.reduceLT,e9,aE,aQ,aH,aM,dA,eU,cZ,eO,gG,Nat.reduceLeDiff,Nat.reduceLT,Nat.reduceSub,VX,Nat.reduceEqDiff,Nat.reduceAdd]
     exact bH (d:=6) fJ (aJ (v:=VB false) rfl)
   |
    true =>
    rw[hk] at eD
    have hbt:=uD hk
    have eN:=pZ d (iL.1 hk).1 (by omega)
    by_cases hz:neg=true∧bM d=0
    ·have Uv:mE neg d (some t)=none:=if_pos (.inr hz)
     rw[Uv]
     obtain⟨rfl,FK⟩:=hz
     have q1:=q9 rfl
     have e9:=r9 rfl
     have Fw:(((aC 1000000000 (bM d)).length:Nat):Int)=0:=BS.2 FK
     simp only[bQ,aY,aZ,jO,e0,q1,eC,eD,a1,a2,eN,e9,cI,Fw,Int.reduceLT,aE,aQ,aH,aM,dA,eU,cZ,eO,gG,Nat.reduceLeDiff,Nat.reduceLT,Nat.reduceSub,VX,Nat.reduceEqDiff,Nat.reduceAdd]
     exact bH (d:=6) fJ (aJ (v:=VB false) rfl)
    ·have Cl:neg=true→¬(((aC 1000000000 (bM d)).length:Nat):Int)=0:=fun h h0=>hz ⟨h,BS.1 h0⟩
     have Uv:mE neg d (some t)=if gC t=true∧1<bM t∧Nat.gcd (bM d) (bM t)=1 then some (mkRat (iY neg (bM d)) (bM t)) else none:=if_neg (by rw[hk];rintro(h | h);exact absurd h (by decide);exact hz h)
     rw[Uv]
     clear Uv
     cases ht:gC t with
     |
      false =>
      rw[ht] at eF
      rw[if_neg (fun h=>absurd h.1 (by decide))]
      cases neg with
      |
       false =>
       have q1:=q0 rfl
       have Pw:=r0 rfl
       subst Pw
       simp only[bQ,aY,aZ,jO,e0,q1,eC,eD,eF,a1,a2,a3,eN,Int.reduceLT,Int.reduceEq,aE,aQ,aH,aM,dA,eU,cZ,eO,gG,Nat.reduceLeDiff,Nat.reduceLT,Nat.reduceSub,VX,Nat.reduceEqDiff,Nat.reduceAdd]
       exact bH (d:=6) fJ (aJ (v:=VB false) rfl)
      |
       true =>
       have q1:=q9 rfl
       have e9:=r9 rfl
       have Fw:=Cl rfl
       simp only[bQ,aY,aZ,jO,e0,q1,eC,eD,eF,a1,a2,a3,eN,Int.reduceLT,Int.reduceEq,e9,cI,Fw,aE,aQ,aH,aM,dA,eU,cZ,eO,gG,Nat.reduceLeDiff,Nat.reduceLT,Nat.reduceSub,VX,Nat.reduceEqDiff,Nat.reduceAdd]
       exact bH (d:=6) fJ (aJ (v:=VB false) rfl)
     |
      true =>
      rw[ht] at eF
      have Ii:=uD ht
      have eM:=pZ t (iL.1 ht).1 (by omega)
      have c2:∀lo H K,_:=fun lo H K=>Hp (n:=bM t) (lo:=lo) (H:=H) (K:=K) (Nat.le_of_lt (mJ (by omega)))
      have c3:=Cy (bM d) (bM t) (mJ (by omega)) (mJ (by omega))
      by_cases h1:dX (bM t) 1≤0
      ·have hle:¬1<bM t:=fun h=>by unfold dX at h1;rw[if_neg (by omega),if_neg (by omega)] at h1;exact absurd h1 (by decide)
       rw[if_neg (fun h=>hle h.2.1)]
       cases neg with
       |
        false =>
        have q1:=q0 rfl
        have Pw:=r0 rfl
        subst Pw
        simp only[bQ,aY,aZ,jO,e0,q1,eC,eD,eF,a1,a2,a3,eN,eM,c2,h1,Int.reduceLT,Int.reduceEq,aE,aQ,aH,aM,dA,eU,cZ,eO,gG,Nat.reduceLeDiff,Nat.reduceLT,Nat.reduceSub,VX,Nat.reduceEqDiff,Nat.reduceAdd]
        exact bH (d:=6) fJ (aJ (v:=VB false) rfl)
       |
        true =>
        have q1:=q9 rfl
        have e9:=r9 rfl
        have Fw:=Cl rfl
        simp only[bQ,aY,aZ,jO,e0,q1,eC,eD,eF,a1,a2,a3,eN,eM,c2,h1,Int.reduceLT,Int.reduceEq,e9,cI,Fw,aE,aQ,aH,aM,dA,eU,cZ,eO,gG,Nat.reduceLeDiff,Nat.reduceLT,Nat.reduceSub,VX,Nat.reduceEqDiff,Nat.reduceAdd]
        exact bH (d:=6) fJ (aJ (v:=VB false) rfl)
      ·have aX:1<bM t:=by
        rcases Nat.lt_or_ge 1 (bM t) with h | h
        ·exact h
        ·exfalso
         apply h1
         unfold dX
         split<;>(try split)<;>first | decide | omega
       have WT:bl (Nat.gcd (bM d) (bM t))≤665:=Nat.le_trans (jM (Nat.le_of_dvd (by omega) (Nat.gcd_dvd_right _ _))) Ii
       have c4:∀lo H K,_:=fun lo H K=>Hp (n:=Nat.gcd (bM d) (bM t)) (lo:=lo) (H:=H) (K:=K) (Nat.le_of_lt (mJ (by omega)))
       by_cases hg:Nat.gcd (bM d) (bM t)=1
       ·have h4:dX (Nat.gcd (bM d) (bM t)) 1=0:=by rw[hg];rfl
        rw[if_pos ⟨rfl,aX,hg⟩]
        simp only[]
        rw[Jk (by omega) hg hz]
        cases neg with
        |
         false =>
         have q1:=q0 rfl
         have Pw:=r0 rfl
         subst Pw
         simp only[bQ,aY,aZ,jO,e0,q1,eC,eD,eF,a1,a2,a3,eN,eM,c2,c3,c4,h1,h4,Int.reduceLT,Int.reduceEq,aE,aQ,aH,aM,dA,eU,cZ,eO,gG,Nat.reduceLeDiff,Nat.reduceLT,Nat.reduceSub,VX,Nat.reduceEqDiff,Nat.reduceAdd]
         exact bH (d:=6) (oF (aJ (v:=VB false) rfl) (aJ (bU _)) (aJ (bU _))) (aJ (v:=VB true) rfl)
        |
         true =>
         have q1:=q9 rfl
         have e9:=r9 rfl
         have Fw:=Cl rfl
         simp only[bQ,aY,aZ,jO,e0,q1,eC,eD,eF,a1,a2,a3,eN,eM,c2,c3,c4,h1,h4,Int.reduceLT,Int.reduceEq,e9,cI,Fw,aE,aQ,aH,aM,dA,eU,cZ,eO,gG,Nat.reduceLeDiff,Nat.reduceLT,Nat.reduceSub,VX,Nat.reduceEqDiff,Nat.reduceAdd]
         exact bH (d:=6) (oF (aJ (v:=VB true) rfl) (aJ (bU _)) (aJ (bU _))) (aJ (v:=VB true) rfl)
       ·have h4:¬dX (Nat.gcd (bM d) (bM t)) 1=0:=by
         unfold dX
         split<;>(try split)<;>first | decide | omega
        rw[if_neg (fun h=>hg h.2.2)]
        cases neg with
        |
         false =>
         have q1:=q0 rfl
         have Pw:=r0 rfl
         subst Pw
         simp only[bQ,aY,aZ,jO,e0,q1,eC,eD,eF,a1,a2,a3,eN,eM,c2,c3,c4,h1,h4,Int.reduceLT,Int.reduceEq,aE,aQ,aH,aM,dA,eU,cZ,eO,gG,Nat.reduceLeDiff,Nat.reduceLT,Nat.reduceSub,VX,Nat.reduceEqDiff,Nat.reduceAdd]
         exact bH (d:=6) fJ (aJ (v:=VB false) rfl)
        |
         true =>
         have q1:=q9 rfl
         have e9:=r9 rfl
         have Fw:=Cl rfl
         simp only[bQ,aY,aZ,jO,e0,q1,eC,eD,eF,a1,a2,a3,eN,eM,c2,c3,c4,h1,h4,Int.reduceLT,Int.reduceEq,e9,cI,Fw,aE,aQ,aH,aM,dA,eU,cZ,eO,gG,Nat.reduceLeDiff,Nat.reduceLT,Nat.reduceSub,VX,Nat.reduceEqDiff,Nat.reduceAdd]
         exact bH (d:=6) fJ (aJ (v:=VB false) rfl)
end Go.PM
namespace Go.PM
open Go.Lib
end Go.PM
namespace Go.PM
open Go.Lib
theorem MZ {l:List UInt8} {q:Rat} (h:uE l=some q):AM l = .eK [cL q,VB true]:=by unfold AM;rw[h]
theorem Ni {l:List UInt8} (h:uE l=none):AM l = .eK [Jc,VB false]:=by unfold AM;rw[h]
end Go.PM
namespace Go.PM
open Go.Lib
def Nr (o:Option (List Rat)):VV:=match o with
 | some qs => .eK [bT cL qs,VB true]
 | none => .eK [bT cL [],VB false]
theorem Q2:Nr none = .eK [bT cL [],VB false]:=rfl
theorem P3 (qs:List Rat):Nr (some qs) = .eK [bT cL qs,VB true]:=rfl
theorem J7 (q:Rat):(aA (cL q)).length=3:=rfl
theorem zE (qs:List Rat):aW (bT cL qs)=true:=jA J7 mF
theorem Tz (q:Rat):xG (cL q)=true:=by simp[xG,cL,bO,gB]
theorem Ku (qs:List Rat):gH (bT cL qs)=true:=Bt J7 yT Tz
theorem SQ (o:Option (List Rat)):gH (Nr o)=true:=by
 unfold Nr
 split
 ·exact DB (Ku _) rfl
 ·exact DB (Ku []) rfl
set_option maxHeartbeats 1000000 in
theorem Is (xs:List ByteArray) (hn:xs.length≤1000000000) (hs:∀s∈xs,s.size≤1000000000):TC 115 [fT xs] (Nr (Aq xs)):=by
 refine TC.walk ⟨true,false⟩ Jm rfl (Nat.le_of_ble_eq_true rfl) (by simp[aK,dQ]) (SQ _) ?_
 unfold Aq
 by_cases QZ:(300:Int)<(xs.length:Int)
 ·rw[if_neg (by omega)]
  simp only[Ac,vG,QZ,VX,Nat.reduceEqDiff,Nat.reduceAdd]
  exact Dt
 rw[if_pos (by omega)]
 have e0:=fun H=>nR (H:=H) (lr:=false) (z:=[.bool false,.slice none 0 0,.slice none 0 0]) rfl
 simp only[Ac,vG,QZ,e0,VX,Nat.reduceEqDiff,Nat.reduceAdd]
 refine EB (fun(s:Nat×List Rat) ρ H=>s.1≤xs.length∧(xs.take s.1).mapM pQ=some s.2∧H=[.row s.1 (s.2.map cL) 3 true]∧ρ 4 = .ref 0 s.1 0 s.1 s.1∧ρ 0=fT xs∧ρ 13=VI xs.length∧ρ 14=VI s.1) (fun s=>xs.length-s.1) (0,[]) ⟨Nat.zero_le _,rfl,rfl,rfl,rfl,rfl,rfl⟩ ?_
 rintro⟨i,out⟩ ρ H ⟨hi,ID,rfl,g4,g13,g14,g15⟩
 simp only at hi ID g4 g15
 have iC:out.length=i:=by rw[uI ID,List.length_take];omega
 by_cases cX:(i:Int)<(xs.length:Int)
 ·obtain⟨x,hx⟩:∃x,xs[i]? = some x:=⟨_,List.getElem?_eq_getElem (by omega)⟩
  have hxm:=List.mem_of_getElem? hx
  have e1:=fun H=>aP (f:=sV) (t := .op) (H:=H) (size:=1) (k := .i64) hx rfl
  have wi:IntKind.i64.wrap ((i:Int)+1)=((i+1:Nat):Int):=wrapN (i+1) (by omega) (by omega)
  have e2:=Ha x.data.toList (by have:=hs x hxm;rw[Array.length_toList];show x.size≤_;omega)
  rw[←VD] at e2
  cases hp:pQ x with
  |
   none =>
   rw[Ni hp] at e2
   rw[mapM_none hp hxm]
   simp only[oJ,g4,g13,g14,g15,cX,e1,e2,F7,I6,Np,aO,aN,aG,gG,Nat.reduceLeDiff,Nat.reduceLT,Nat.reduceSub,jE,bN,bX,dW,iJ,kP,bne_iff_ne,ne_eq,not_false_eq_true,not_true_eq_false,VX,Nat.reduceEqDiff,Nat.reduceAdd]
   exact Dt
  |
   some q =>
   rw[MZ hp] at e2
   have eL:∀H,qV false [.bool false,.slice none 0 0,.slice none 0 0] 1 [(0,cL q)] H=some (.tree [cL q] (.cl 3),H):=fun H=>sL rfl rfl rfl
   have eS:∀H,eY 3 (.tree [cL q] (.cl 3)) H=some [cL q]:=fun H=>pB rfl rfl
   have eP:gF 0 3 56 (.ref 0 i 0 i i) [cL q] [.row i (out.map cL) 3 true,.row 0 [cL q] 3 true]=some (.ref 0 (i+1) 0 (i+1) (i+1),[.row (i+1) ((out++[q]).map cL) 3 true,.row 0 [cL q] 3 true]):=by
    rw[oX (f:=cL) (xs:=out) (by rw[cE]) iC.symm (Nat.le_refl _) (by decide) (by decide) (by omega),List.set_cons_zero]
   simp only[oJ,g4,g13,g14,g15,cX,e1,e2,eL,eS,eP,wi,bF,cN,gT,aH,aQ,aM,gG,Nat.reduceLeDiff,Nat.reduceLT,Nat.reduceSub,jE,bN,bX,dW,iJ,kP,bne_iff_ne,ne_eq,not_false_eq_true,not_true_eq_false,VX,Nat.reduceEqDiff,Nat.reduceAdd]
   refine⟨(i+1,out++[q]),by simp only;omega,?_,by simp only;omega,by simp only[E1 hx];exact Kn ID hp,rfl,?_⟩
   ·rw[tX (kO _ (dY mF)),Ca]
   ·simp only[dP,g13,g14,pL (dQ _),yX (Nat.lt_succ_self 0),VX,Nat.reduceEqDiff,Nat.reduceAdd,List.take_zero,fL,List.all_nil,List.length_nil,dP,Ec,pL]
 ·have qW:i=xs.length:=by omega
  subst qW
  rw[List.take_length] at ID
  rw[ID]
  simp only[oJ,g4,g13,g14,g15,cX,VX,Nat.reduceEqDiff,Nat.reduceAdd]
  refine bH (d:=6) ?_ (aJ (v:=VB true) rfl)
  have:=Ol (d:=5) (w:=true) (f:=cL) (e:=3) (b:=0) (g:=xs.length) (c:=xs.length) (xs:=out) (H:=[.row xs.length (out.map cL) 3 true]) mF (by rw[cE]) (by omega)
  rw[iC] at this
  exact this
set_option maxHeartbeats 1000000 in
theorem Hc (qs:List Rat) {B:Nat} (hb:∀q∈qs,cC q≤B) (hk:qs.length*(B+1)+1≤1099511627776) (hB:B≤1099511627776) (hn:qs.length≤1000000000):TC 142 [bT cL qs] (cL (Dd qs)):=by
 refine TC.walk ⟨true,false⟩ GY rfl (Nat.le_of_ble_eq_true rfl) (by simp[aK,zE]) (yT _) ?_
 have e1:=BC
 simp only[Ct,Ay,e1,bF,cN,gT,aH,aQ,aM,gG,Nat.reduceLeDiff,Nat.reduceLT,Nat.reduceSub,jE,bN,bX,dW,iJ,kP,bne_iff_ne,ne_eq,not_false_eq_true,not_true_eq_false,VX,Nat.reduceEqDiff,Nat.reduceAdd]
 refine bB (fun(i:Nat) ρ H=>i≤qs.length∧H=[cell0,.row 0 [cL (Dd (qs.take i))] 3 true]∧ρ 2 = .ptr 0 0 0 0∧ρ 3 = .ptr 1 0 0 0∧ρ 0=bT cL qs∧ρ 7=VI qs.length∧ρ 8=VI i) (fun i=>qs.length-i) 0 ⟨Nat.zero_le _,rfl,rfl,rfl,rfl,rfl,rfl⟩ ?_
 rintro i ρ H ⟨hi,rfl,g2,g3,g0,g7,g8⟩
 by_cases cX:(i:Int)<(qs.length:Int)
 ·obtain⟨q,hq⟩:∃q,qs[i]? = some q:=⟨_,List.getElem?_eq_getElem (by omega)⟩
  have e2:=fun H=>aP (f:=cL) (t := .op) (H:=H) (size:=3) (k := .i64) hq rfl
  have wi:IntKind.i64.wrap ((i:Int)+1)=((i+1:Nat):Int):=wrapN (i+1) (by omega) (by omega)
  have h1:=zG hb i
  have h2:=hb q (List.mem_of_getElem? hq)
  have e3:=CP (Dd (qs.take i)) q (by omega) (by omega)
  rw[←Kx hq] at e3
  simp only[rA,g2,g3,g0,g7,g8,cX,e2,e3,wi,bF,cN,gT,aH,aQ,aM,gG,Nat.reduceLeDiff,Nat.reduceLT,Nat.reduceSub,jE,bN,bX,dW,iJ,kP,bne_iff_ne,ne_eq,not_false_eq_true,not_true_eq_false,VX,Nat.reduceEqDiff,Nat.reduceAdd]
  exact⟨i+1,by omega,by omega,rfl,rfl⟩
 ·have qW:i=qs.length:=by omega
  subst qW
  simp only[rA,g2,g3,g0,g7,g8,cX,List.take_length,bF,cN,gT,aH,aQ,aM,gG,Nat.reduceLeDiff,Nat.reduceLT,Nat.reduceSub,jE,bN,bX,dW,iJ,kP,bne_iff_ne,ne_eq,not_false_eq_true,not_true_eq_false,VX,Nat.reduceEqDiff,Nat.reduceAdd]
  exact aI (mF _)
theorem RP {q:Rat}:q.num<0↔q<0:=by rw[←Int.not_le,Rat.num_nonneg];constructor<;>intro h<;>grind
theorem C6 (qs:List Rat) (hn:qs.length≤1000000000):TC 140 [bT cL qs] (VB (!(qs.any fun q=>decide (q<0)))):=by
 refine TC.walk ⟨true,false⟩ Di rfl (Nat.le_of_ble_eq_true rfl) (by simp[aK,zE]) rfl ?_
 simp only[xS,vA,VX,Nat.reduceEqDiff,Nat.reduceAdd]
 refine bB (fun(i:Nat) ρ H=>i≤qs.length∧H=[]∧(∀j x,j<i→qs[j]? = some x→¬x<0)∧ρ 0=bT cL qs∧ρ 5=VI qs.length∧ρ 6=VI i) (fun i=>qs.length-i) 0 ⟨Nat.zero_le _,rfl,fun j x h=>by omega,rfl,rfl,rfl⟩ ?_
 rintro i ρ H ⟨hi,rfl,kG,g0,g5,g6⟩
 by_cases cX:(i:Int)<(qs.length:Int)
 ·obtain⟨q,hq⟩:∃q,qs[i]? = some q:=⟨_,List.getElem?_eq_getElem (by omega)⟩
  have e2:=fun H=>aP (f:=cL) (t := .op) (H:=H) (size:=3) (k := .i64) hq rfl
  have wi:IntKind.i64.wrap ((i:Int)+1)=((i+1:Nat):Int):=wrapN (i+1) (by omega) (by omega)
  by_cases lO:q.num<0
  ·have Hg:qs.any (fun q=>decide (q<0))=true:=List.any_eq_true.2 ⟨q,List.mem_of_getElem? hq,decide_eq_true (RP.1 lO)⟩
   rw[Hg]
   simp only[jT,g0,g5,g6,cX,e2,lO,kD,bF,cN,gT,aH,aQ,aM,gG,Nat.reduceLeDiff,Nat.reduceLT,Nat.reduceSub,jE,bN,bX,dW,iJ,kP,bne_iff_ne,ne_eq,not_false_eq_true,not_true_eq_false,VX,Nat.reduceEqDiff,Nat.reduceAdd]
   exact aI rfl
  ·simp only[jT,g0,g5,g6,cX,e2,lO,wi,kD,bF,cN,gT,aH,aQ,aM,gG,Nat.reduceLeDiff,Nat.reduceLT,Nat.reduceSub,jE,bN,bX,dW,iJ,kP,bne_iff_ne,ne_eq,not_false_eq_true,not_true_eq_false,VX,Nat.reduceEqDiff,Nat.reduceAdd]
   refine⟨i+1,by omega,by omega,fun j y hj hy => ?_,rfl⟩
   rcases Nat.lt_or_ge j i with JD | JD
   ·exact kG j y JD hy
   ·have:j=i:=by omega
    subst this
    rw[hq] at hy
    cases hy
    exact mt RP.2 lO
 ·have qW:i=qs.length:=by omega
  subst qW
  have Hg:qs.any (fun q=>decide (q<0))=false:=by
   rw[List.any_eq_false]
   intro x hx
   obtain⟨j,hj⟩:=List.getElem?_of_mem hx
   simpa using kG j x (List.getElem?_eq_some_iff.1 hj).1 hj
  rw[Hg]
  simp only[jT,g0,g5,g6,cX,VX,Nat.reduceEqDiff,Nat.reduceAdd]
  exact aI rfl
theorem QV {a b:Rat}:a=b↔(decide (a.num<0)=decide (b.num<0)∧a.num.natAbs*b.den=b.num.natAbs*a.den):=by
 constructor
 ·rintro rfl
  exact⟨rfl,rfl⟩
 ·rintro⟨h1,h2⟩
  have h3:a.num<0↔b.num<0:=by simpa using h1
  have ha:=a.den_nz
  have hb:=b.den_nz
  have key:a.num*b.den=b.num*a.den→a=b:=fun h=>by
   have:=(Rat.mkRat_eq_iff (n₁:=a.num) (n₂:=b.num) ha hb).2 h
   rwa [Rat.mkRat_self,Rat.mkRat_self] at this
  refine key ?_
  have e1:(a.num.natAbs:Int)*b.den=b.num.natAbs*a.den:=by exact_mod_cast h2
  by_cases hn:a.num<0
  ·have X2:=h3.1 hn
   have q1:a.num = -(a.num.natAbs:Int):=by omega
   have q2:b.num = -(b.num.natAbs:Int):=by omega
   rw[q1,q2,Int.neg_mul,Int.neg_mul,e1]
  ·have X2:=mt h3.2 hn
   have q1:a.num=(a.num.natAbs:Int):=by omega
   have q2:b.num=(b.num.natAbs:Int):=by omega
   rw[q1,q2,e1]
set_option maxHeartbeats 1000000 in
theorem GZ (a b:Rat) (Oz:cC a≤1099511627776) (Jy:cC b≤1099511627776):TC 197 [cL a,cL b] (VB (decide (a=b))):=by
 refine TC.walk ⟨true,false⟩ G6 rfl (Nat.le_of_ble_eq_true rfl) (by simp only[aK,mF];rfl) rfl ?_
 have b1 := @rE a
 have b2 := @rE b
 have b3 := @oY a
 have b4 := @oY b
 have b5:=lP a.num.natAbs b.den
 have b6:=lP b.num.natAbs a.den
 have c1:=fU a.num.natAbs b.den (Nat.le_of_lt (mJ (by omega))) (Nat.le_of_lt (mJ (by omega)))
 have c2:=fU b.num.natAbs a.den (Nat.le_of_lt (mJ (by omega))) (Nat.le_of_lt (mJ (by omega)))
 have c3:=rY (a.num.natAbs*b.den) (b.num.natAbs*a.den) (Nat.le_of_lt (mJ (by omega))) (Nat.le_of_lt (mJ (by omega)))
 by_cases q1:decide (a.num<0)=decide (b.num<0)
 ·have q2:(decide (a.num<0) == decide (b.num<0))=true:=by simpa using q1
  have hz := @uA (a.num.natAbs*b.den) (b.num.natAbs*a.den)
  by_cases q3:dX (a.num.natAbs*b.den) (b.num.natAbs*a.den)=0
  ·rw[decide_eq_true (QV.2 ⟨q1,hz.1 q3⟩)]
   simp only[rU,oC,c1,c2,c3,q2,q3,qT,bF,kD,mM,mV,aH,gG,Nat.reduceLeDiff,Nat.reduceLT,Nat.reduceSub,jE,bN,bX,dW,iJ,kP,bne_iff_ne,ne_eq,not_false_eq_true,not_true_eq_false,VX,Nat.reduceEqDiff,Nat.reduceAdd]
   exact aI rfl
  ·rw[decide_eq_false (fun h=>q3 (hz.2 (QV.1 h).2))]
   simp only[rU,oC,c1,c2,c3,q2,q3,qT,bF,kD,mM,mV,aH,gG,Nat.reduceLeDiff,Nat.reduceLT,Nat.reduceSub,jE,bN,bX,dW,iJ,kP,bne_iff_ne,ne_eq,not_false_eq_true,not_true_eq_false,VX,Nat.reduceEqDiff,Nat.reduceAdd]
   exact aI rfl
 ·have q2:(decide (a.num<0) == decide (b.num<0))=false:=by simpa using q1
  rw[decide_eq_false (fun h=>q1 (QV.1 h).1)]
  simp only[rU,oC,q2,qT,bF,kD,mM,mV,aH,gG,Nat.reduceLeDiff,Nat.reduceLT,Nat.reduceSub,jE,bN,bX,dW,iJ,kP,bne_iff_ne,ne_eq,not_false_eq_true,not_true_eq_false,VX,Nat.reduceEqDiff,Nat.reduceAdd]
  exact aI rfl
theorem DF (qs:List Rat) (hb:∀q∈qs,cC q≤665) (hl:qs.length≤300):TC 116 [bT cL qs] (VB (jB qs)):=by
 refine TC.walk ⟨true,false⟩ Ek rfl (Nat.le_of_ble_eq_true rfl) (by simp[aK,zE]) rfl ?_
 have e1:=C6 qs (by omega)
 have e2:=Hc qs hb (Jh hl) (by omega) (by omega)
 have Ut:=zG hb qs.length
 rw[List.take_length] at Ut
 have e3:=CM
 have hsr:=Jh hl
 have e4:=GZ (Dd qs) 1 (by omega) (by rw[EN];omega)
 unfold jB
 cases Hg:qs.any (fun q=>decide (q<0)) with
 |
  true =>
  rw[Hg] at e1
  simp only[Bool.not_true,Bool.false_and] at e1 ⊢
  simp only[sP,pX,e1,VX,Nat.reduceEqDiff,Nat.reduceAdd]
  exact aI rfl
 |
  false =>
  rw[Hg] at e1
  simp only[Bool.not_false,Bool.true_and] at e1 ⊢
  simp only[sP,pX,e1,e2,e3,e4,VX,Nat.reduceEqDiff,Nat.reduceAdd]
  exact aI rfl
set_option maxHeartbeats 1000000 in
theorem Hk (q:Rat) (n:Nat) (hn:n≤1000) (hq:cC q≤100000):TC 198 [cL q,VI n] (cL (q^n)):=by
 refine TC.walk ⟨true,false⟩ G0 rfl (Nat.le_of_ble_eq_true rfl) (by simp only[aK,mF];rfl) (yT _) ?_
 have e1:=CM
 simp only[Cr,Am,e1,bF,cN,gT,aH,aQ,aM,gG,Nat.reduceLeDiff,Nat.reduceLT,Nat.reduceSub,jE,bN,bX,dW,iJ,kP,bne_iff_ne,ne_eq,not_false_eq_true,not_true_eq_false,VX,Nat.reduceEqDiff,Nat.reduceAdd]
 refine bB (fun(i:Nat) ρ H=>i≤n∧H=[cell0,.row 0 [cL (q^i)] 3 true]∧ρ 1=VI ((n-i:Nat):Int)∧ρ 2=(cL q).cO 0∧ρ 4 = .ptr 0 0 0 0∧ρ 5 = .ptr 1 0 0 0) (fun i=>n-i) 0 ⟨Nat.zero_le _,?_,rfl,rfl,rfl,rfl⟩ ?_
 ·rw[Rat.pow_zero]
 rintro i ρ H ⟨hi,rfl,g1,g2,g4,g5⟩
 by_cases cX:(0:Int)<((n-i:Nat):Int)
 ·have wi:IntKind.i64.wrap (((n-i:Nat):Int)-1)=((n-(i+1):Nat):Int):=by rw[wrap64 (by omega) (by omega)];omega
  have hb:=B9 q i
  have X3:i*cC q≤1000*100000:=Nat.mul_le_mul (by omega) hq
  have e2:=Ah (q^i) q (by omega) (by omega)
  rw[←Rat.pow_succ] at e2
  simp only[rB,g1,g2,g4,g5,cX,e2,wi,bF,cN,gT,aH,aQ,aM,gG,Nat.reduceLeDiff,Nat.reduceLT,Nat.reduceSub,jE,bN,bX,dW,iJ,kP,bne_iff_ne,ne_eq,not_false_eq_true,not_true_eq_false,VX,Nat.reduceEqDiff,Nat.reduceAdd]
  exact⟨i+1,by omega,by omega,rfl,rfl⟩
 ·have qW:i=n:=by omega
  subst qW
  simp only[rB,g1,g2,g4,g5,cX,bF,cN,gT,aH,aQ,aM,gG,Nat.reduceLeDiff,Nat.reduceLT,Nat.reduceSub,jE,bN,bX,dW,iJ,kP,bne_iff_ne,ne_eq,not_false_eq_true,not_true_eq_false,VX,Nat.reduceEqDiff,Nat.reduceAdd]
  exact aI (mF _)
set_option maxHeartbeats 1000000 in
theorem FH (qs:List Rat) (n:Nat) (hb:∀q∈qs,cC q≤665) (hl:qs.length≤300) (hn:n≤10):TC 117 [bT cL qs,VI n] (cL (mK qs n qs.length)):=by
 refine TC.walk ⟨true,false⟩ Fs rfl (Nat.le_of_ble_eq_true rfl) (by simp only[aK,zE];rfl) (yT _) ?_
 have e1:=BC
 simp only[Bi,xR,e1,bF,cN,gT,aH,aQ,aM,gG,Nat.reduceLeDiff,Nat.reduceLT,Nat.reduceSub,jE,bN,bX,dW,iJ,kP,bne_iff_ne,ne_eq,not_false_eq_true,not_true_eq_false,VX,Nat.reduceEqDiff,Nat.reduceAdd]
 refine bB (fun(i:Nat) ρ H=>i≤qs.length∧H=[cell0,.row 0 [cL (mK qs n i)] 3 true]∧ρ 0=bT cL qs∧ρ 1=VI n∧ρ 4 = .ptr 0 0 0 0∧ρ 5 = .ptr 1 0 0 0∧ρ 9=VI qs.length∧ρ 10=VI i) (fun i=>qs.length-i) 0 ⟨Nat.zero_le _,rfl,rfl,rfl,rfl,rfl,rfl,rfl⟩ ?_
 rintro i ρ H ⟨hi,rfl,g0,g1,g4,g5,g9,g10⟩
 by_cases cX:(i:Int)<(qs.length:Int)
 ·obtain⟨q,hq⟩:∃q,qs[i]? = some q:=⟨_,List.getElem?_eq_getElem (by omega)⟩
  have e2:=fun H=>aP (f:=cL) (t := .op) (H:=H) (size:=3) (k := .i64) hq rfl
  have wi:IntKind.i64.wrap ((i:Int)+1)=((i+1:Nat):Int):=wrapN (i+1) (by omega) (by omega)
  have h1:=AY hb hl hn i hi
  have h2:=hb q (List.mem_of_getElem? hq)
  obtain⟨h3,h4⟩:=A4 (i:=i) (by omega) n hn
  have h5:=BM q (((i:Int):Rat)^n)
  have e3:=xD (i:Int) (by omega) (by omega)
  have e4:=Hk ((i:Int):Rat) n (by omega) (by omega)
  have e5:=Ah q (((i:Int):Rat)^n) (by omega) (by omega)
  have e6:=CP (mK qs n i) (q*((i:Int):Rat)^n) (by omega) (by omega)
  have e7:mK qs n i+q*((i:Int):Rat)^n=mK qs n (i+1):=by
   rw[mK,List.getD_eq_getElem?_getD,hq,Option.getD_some]
   rfl
  rw[e7] at e6
  simp only[qJ,g0,g1,g4,g5,g9,g10,cX,e2,e3,e4,e5,e6,wi,bF,cN,gT,aH,aQ,aM,gG,Nat.reduceLeDiff,Nat.reduceLT,Nat.reduceSub,jE,bN,bX,dW,iJ,kP,bne_iff_ne,ne_eq,not_false_eq_true,not_true_eq_false,VX,Nat.reduceEqDiff,Nat.reduceAdd]
  exact⟨i+1,by omega,by omega,rfl,rfl⟩
 ·have qW:i=qs.length:=by omega
  subst qW
  simp only[qJ,g0,g1,g4,g5,g9,g10,cX,bF,cN,gT,aH,aQ,aM,gG,Nat.reduceLeDiff,Nat.reduceLT,Nat.reduceSub,jE,bN,bX,dW,iJ,kP,bne_iff_ne,ne_eq,not_false_eq_true,not_true_eq_false,VX,Nat.reduceEqDiff,Nat.reduceAdd]
  exact aI (mF _)
theorem JO (xs:List ByteArray) (hn:xs.length≤1000000000) (hs:∀s∈xs,s.size≤1000000000):TC 42 [fT xs] (JB xs 1):=by
 refine TC.walk ⟨true,false⟩ JT rfl (Nat.le_of_ble_eq_true rfl) (by simp only[aK,dQ];rfl) (HP _ _) ?_
 have e1:=Is xs hn hs
 unfold JB
 cases h:Aq xs with
 |
  none =>
  rw[h,Q2] at e1
  rw[GM h]
  simp only[]
  simp only[wX,rS,e1,VX,Nat.reduceEqDiff,Nat.reduceAdd]
  exact aI rfl
 |
  some qs =>
  rw[h] at e1
  obtain⟨hb,hl,_⟩:=Db h
  have e3:=DF qs hb hl
  rw[P3] at e1
  rw[GL h]
  cases hw:jB qs with
  |
   false =>
   rw[hw] at e3
   rw[if_neg (by simp)]
   simp only[]
   simp only[wX,rS,e1,e3,VX,Nat.reduceEqDiff,Nat.reduceAdd]
   exact aI rfl
  |
   true =>
   rw[hw] at e3
   rw[if_pos rfl]
   simp only[]
   rw[if_pos (by decide),show (1:Int).toNat=1 from rfl]
   have e4:=FH qs 1 hb hl (by omega)
   have h3:=AY (n:=1) hb hl (by omega) qs.length (Nat.le_refl _)
   have e5:=Iw (mK qs 1 qs.length) (by omega)
   obtain⟨s,k,hsk⟩:=FU (mK qs 1 qs.length)
   rw[hsk] at e5 ⊢
   have e4':TC 117 [bT cL qs,VI 1] (cL (mK qs 1 qs.length)):=e4
   simp only[wX,rS,e1,e3,e4',e5,VX,Nat.reduceEqDiff,Nat.reduceAdd]
   exact aI rfl
end Go.PM
namespace Go.PM
def mN:aF:=(LS [LO 2 (.mv LF)] (LS [LO 3 (.mv (LI 1000000))] (LS [LM 11 0,LM 12 3,LO 13 (.call 41 [(LT 11),(LT 12)]),LM 3 13] (.seq (LS [LM 14 3,LO 15 (.bin .lss (LT 14) (LI 0))] (.cond (LT 15) (LS [LO 2 (.mv LG)] .ret) .skip)) (LS [LM 17 0,LO 18 (.call 43 [(LT 17),LF]),LO 19 (.call 42 [(LT 18)]),LM 16 19,LO 20 (LX 16 0),LO 21 (LX 16 1),LM 4 20,LM 5 21] (LS [LM 22 0,LO 23 (.call 43 [(LT 22),LF]),LM 6 23] (LS [LM 25 6,LO 26 (.call 44 [(LT 25)]),LM 24 26,LO 27 (LX 24 0),LO 28 (LX 24 1),LM 7 27,LM 8 28] (.seq (LS [LM 29 7,LM 30 4,LO 31 (.bin .neq (LT 29) (LT 30)),LM 32 31,LZ 32 33 (.mv (LT 8)),LZ 32 34 (.mv (LT 5)),LZ 32 35 (.eqb true (LT 33) (LT 34)),LO 36 (.pick (LT 32) LG (LT 35))] (.cond (LT 36) (LS [LO 2 (.mv LF)] .ret) .skip)) (.seq (LS [LM 37 6,LM 38 0,LO 39 (.call 43 [(LT 38),LF]),LO 40 (.call 45 [(LT 37),(LT 39)]),LO 41 (.un .not (LT 40))] (.cond (LT 41) (LS [LO 2 (.mv LF)] .ret) .skip)) (LS [LM 43 0,LO 44 (.call 43 [(LT 43),LG]),LO 45 (.call 44 [(LT 44)]),LM 42 45,LO 46 (LX 42 0),LO 47 (LX 42 1),LM 9 46,LM 10 47] (.seq (LS [LM 48 9,LM 49 4,LO 50 (.bin .neq (LT 48) (LT 49)),LM 51 50,LZ 51 52 (.mv (LT 10)),LZ 51 53 (.mv (LT 5)),LZ 51 54 (.eqb true (LT 52) (LT 53)),LO 55 (.pick (LT 51) LG (LT 54))] (.cond (LT 55) (LS [LO 2 (.mv LF)] .ret) .skip)) (LS [LO 2 (.mv LG)] .ret))))))))))))
def oL:aT:=⟨56,[(.tmp 2)],mN⟩
theorem AV:gZ 7=some oL:=by kernel_rfl
end Go.PM
namespace Go.PM
end Go.PM