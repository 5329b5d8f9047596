/- Texts of a claim, in one: part 14. -/
import Derived.KernelRfl
import Derived.Test.YtjmflicajplclaaGreatDoorKEm
open And renaming intro → aMU
open Bool renaming not_false → aOK,not_true → aOJ
open List renaming cons_append → aME,getD_eq_getElem?_getD → aLb,getElem?_cons_succ → aMY,getElem?_cons_zero → aLy,getElem?_eq_getElem → aLl,getElem?_eq_some_iff → aLd,length_append → aLp,length_cons → aLo,length_eq_zero_iff → aOn,length_nil → aMR,mapM_cons → aMB,mem_of_getElem? → aL8,nil_append → aMw,prefix_append → aM9,replicate → aL4,set_cons_zero → aMS,take_length → aMr
open Nat renaming le_of_ble_eq_true → aM2,le_of_lt → aLV,le_refl → aLe,le_trans → aLf,lt_or_ge → aLh,mul_le_mul_right → aLF,zero_add → aMM,zero_le → aLI,zero_lt_one → aOo
open Option renaming getD_some → aOc
open Rat renaming zero_mul → aOL
set_option linter.unusedSimpArgs false
set_option linter.unusedVariables false
namespace Go.PM
open Go.Lib
theorem V7 {l:List UInt8} {q:Rat} (h:Bo l=some q):FN l = .eH [aS q,VB true]:=by unfold FN;rw[h]
theorem Wg {l:List UInt8} (h:Bo l=none):FN l = .eH [Oe,VB false]:=by unfold FN;rw[h]
end Go.PM
namespace Go.PM
open Go.Lib
def Vv (o:Option (List Rat)):VV:=match o with
 | some qs => .eH [aC aS qs,VB true]
 | none => .eH [aC aS [],VB false]
theorem Eg:Vv none = .eH [aC aS [],VB false]:=rfl
theorem D0 (qs:List Rat):Vv (some qs) = .eH [aC aS qs,VB true]:=rfl
theorem jY (q:Rat):(aB (aS q)).length=3:=rfl
theorem rN (qs:List Rat):aY (aC aS qs)=true:=mJ jY Bj
theorem afO (q:Rat):CH (aS q)=true:=by simp[CH,aS,bW,jG]
theorem Gx (qs:List Rat):gV (aC aS qs)=true:=zX jY Q7 afO
theorem afZ (o:Option (List Rat)):gV (Vv o)=true:=by
 unfold Vv
 split
 ·exact zU (Gx _) rfl
 ·exact zU (Gx []) rfl
set_option maxHeartbeats 1000000 in
theorem Bq (xs:List ByteArray) (hn:xs.length≤1000000000) (hs:∀s∈xs,s.size≤1000000000):TC 57 [gJ xs] (Vv (tC xs)):=by
 refine TC.walk ⟨true,false⟩ NP rfl (aM2 rfl) (by simp[aO,kG]) (afZ _) ?_
 unfold tC
 by_cases Xn:(300:Int)<(xs.length:Int)
 ·rw[if_neg (by omega)]
  simp only[Eb,BU,Xn,VX,Nat.reduceEqDiff,Nat.reduceAdd]
  exact Il
 rw[if_pos (by omega)]
 have e0:=fun H=>mQ (H:=H) (lr:=false) (z:=[.bool false,.slice none 0 0,.slice none 0 0]) rfl
 simp only[Eb,BU,Xn,e0,VX,Nat.reduceEqDiff,Nat.reduceAdd]
 refine Pw (fun(s:Nat×List Rat) ρ H=>s.1≤xs.length∧(xs.take s.1).mapM pQ=some s.2∧H=[.row s.1 (s.2.map aS) 3 true]∧ρ 4 = .ref 0 s.1 0 s.1 s.1∧ρ 0=gJ xs∧ρ 13=VI xs.length∧ρ 14=VI s.1) (fun s=>xs.length-s.1) (0,[]) ⟨aLI _,rfl,rfl,rfl,rfl,rfl,rfl⟩ ?_
 rintro⟨i,out⟩ ρ H ⟨hi,wZ,rfl,g4,g13,g14,g15⟩
 simp only at hi wZ g4 g15
 have hJ:out.length=i:=by rw[Bc wZ,List.length_take];omega
 by_cases bX:(i:Int)<(xs.length:Int)
 ·obtain⟨x,hx⟩:∃x,xs[i]? = some x:=⟨_,aLl (by omega)⟩
  have hxm:=aL8 hx
  have e1:=fun H=>aF (f:=sV) (t := .op) (H:=H) (size:=1) (k := .i64) hx rfl
  have wi:IntKind.i64.wrap ((i:Int)+1)=((i+1:Nat):Int):=wrapN (i+1) (by omega) (by omega)
  have e2:=Nj x.data.toList (by have:=hs x hxm;rw[Array.length_toList];show x.size≤_;omega)
  rw[←anS] at e2
  cases hp:pQ x with
  |
   none =>
   rw[Wg hp] at e2
   rw[mapM_none hp hxm]
   simp only[uO,g4,g13,g14,g15,bX,e1,e2,L6,NN,WQ,bB,bA,aU,gC,Nat.reduceLeDiff,Nat.reduceLT,Nat.reduceSub,mX,cA,cM,gB,lB,pT,bne_iff_ne,ne_eq,not_false_eq_true,not_true_eq_false,VX,Nat.reduceEqDiff,Nat.reduceAdd]
   exact Il
  |
   some q =>
   rw[V7 hp] at e2
   have eL:∀H,nT false [.bool false,.slice none 0 0,.slice none 0 0] 1 [(0,aS q)] H=some (.tree [aS q] (.cl 3),H):=fun H=>lO rfl rfl rfl
   have eS:∀H,dG 3 (.tree [aS q] (.cl 3)) H=some [aS q]:=fun H=>gR rfl rfl
   have eP:dK 0 3 56 (.ref 0 i 0 i i) [aS q] [.row i (out.map aS) 3 true,.row 0 [aS q] 3 true]=some (.ref 0 (i+1) 0 (i+1) (i+1),[.row (i+1) ((out++[q]).map aS) 3 true,.row 0 [aS q] 3 true]):=by
    rw[jK (f:=aS) (xs:=out) (by rw[aQ]) hJ.symm (aLe _) (by decide) (by decide) (by omega),aMS]
   simp only[uO,g4,g13,g14,g15,bX,e1,e2,eL,eS,eP,wi,bR,gL,cF,aR,bD,aX,gC,Nat.reduceLeDiff,Nat.reduceLT,Nat.reduceSub,mX,cA,cM,gB,lB,pT,bne_iff_ne,ne_eq,not_false_eq_true,not_true_eq_false,VX,Nat.reduceEqDiff,Nat.reduceAdd]
   refine⟨(i+1,out++[q]),by simp only;omega,?_,by simp only;omega,by simp only[sZ hx];exact RF wZ hp,rfl,?_⟩
   ·rw[Db (oJ _ (fO Bj)),KR]
   ·simp only[BF,g13,g14,Df (kG _),KM (Nat.lt_succ_self 0),VX,Nat.reduceEqDiff,Nat.reduceAdd,List.take_zero,nO,List.all_nil,aMR,BF,OF,Df]
 ·have mZ:i=xs.length:=by omega
  subst mZ
  rw[aMr] at wZ
  rw[wZ]
  simp only[uO,g4,g13,g14,g15,bX,VX,Nat.reduceEqDiff,Nat.reduceAdd]
  refine bN (d:=6) ?_ (aM (v:=VB true) rfl)
  have:=Ub (d:=5) (w:=true) (f:=aS) (e:=3) (b:=0) (g:=xs.length) (c:=xs.length) (xs:=out) (H:=[.row xs.length (out.map aS) 3 true]) Bj (by rw[aQ]) (by omega)
  rw[hJ] at this
  exact this
set_option maxHeartbeats 1000000 in
theorem Gm {lo:Nat} {H:aA} {q:Rat} (h:lo≤H.length):bM lo 3 (.ptr H.length 0 0 0) (aS q) (H++[cell0])=some (H++[.row 0 [aS q] 3 true]):=by
 rw[bS (g:=0) (e:=3) (j:=0) iO (by exact aOo) h rfl rfl,OZ]
 rfl
theorem Af {lo:Nat} {H:aA} {v:VV} (qs:List Rat) {B:Nat} (hv:Rd aS 3 qs H v) (eT:lo≤H.length) (hb:∀q∈qs,aL q≤B) (hk:qs.length*(B+1)+1≤1099511627776) (hB:B≤1099511627776) (hn:qs.length≤1000000000) :
  mB 60 [v] lo H (Uo (fun _ _ _ r=>r=aS (dF qs)) H):=by
 refine mB.walk ⟨true,false⟩ MZ (aM2 rfl) ?_
 have e1:=Bv
 have e2:=hv.len (H++[cell0,.row 0 [aS 0] 3 true]) (aM9 _ _)
 have s0:bM lo 3 (.ptr (H.length+1) 0 0 0) (aS 0) (H++[cell0,cell0])=some (H++[cell0,.row 0 [aS 0] 3 true]):=by
  have:=Gm (lo:=lo) (H:=H++[cell0]) (q:=0) (by rw[aLp];omega)
  simpa only[aLp,aLo,aMR,aMM,List.append_assoc,aME,aMw] using this
 simp only[HD,EB,e1,e2,s0,aLp,aLo,aMR,List.append_assoc,aME,aMw,eO,VX,Nat.reduceEqDiff,Nat.reduceAdd,Nat.reduceLeDiff,Nat.reduceLT,Nat.reduceSub]
 refine aN (fun(i:Nat) ρ H1=>i≤qs.length∧H <+: H1∧aJ H1 H.length 0=some ([rz],3,true)∧aJ H1 (H.length+1) 0=some ([aS (dF (qs.take i))],3,true)∧ρ 2 = .ptr H.length 0 0 0∧ρ 3 = .ptr (H.length+1) 0 0 0∧ρ 0=v∧ρ 7=VI qs.length∧ρ 8=VI i) (fun i=>qs.length-i) 0 ⟨aLI _,aM9 _ _,Cu.trans aQ,Nw.trans (cL.trans aQ),rfl,rfl,rfl,rfl,rfl⟩ ?_
 rintro i ρ H1 ⟨hi,hp,Ko,Ns,g2,g3,g0,g7,g8⟩
 have Gy:=lZ Ns
 have s3:bG true 3 (.ptr (H.length+1) 0 0 0) H1=some (aS (dF (qs.take i))):=by
  rw[bJ,Ns]
  exact cF _
 by_cases bX:(i:Int)<(qs.length:Int)
 ·obtain⟨q,hq⟩:∃q,qs[i]? = some q:=⟨_,aLl (by omega)⟩
  obtain⟨p,a1,a2⟩:=hv.get H1 hp i q hq
  have a2':=(a2 true).trans (cF _)
  have wi:IntKind.i64.wrap ((i:Int)+1)=((i+1:Nat):Int):=wrapN (i+1) (by omega) (by omega)
  have h1:=Bb hb i
  have h2:=hb q (aL8 hq)
  have h3:(i+1)*(B+1)≤qs.length*(B+1):=aLF _ (by omega)
  have e3:=nB (dF (qs.take i)) q (by omega) (by omega)
  rw[←Dg hq] at e3
  have s4:=bS (lo:=lo) (v:=aS (dF (qs.take (i+1)))) (j:=0) Ns (by exact aOo) (by omega) rfl rfl
  rw[aMS] at s4
  simp only[xY,g2,g3,g0,g7,g8,bX,a1,a2',e3,s3,s4,wi,eO,VX,Nat.reduceEqDiff,Nat.reduceAdd,Nat.reduceLeDiff,Nat.reduceLT,Nat.reduceSub]
  exact⟨i+1,by omega,by omega,BS hp (by omega),aW (by omega) Ko,cP Ns,by (repeat' apply aMU)<;>first | rfl | trivial | assumption⟩
 ·have mZ:i=qs.length:=by omega
  subst mZ
  rw[aMr] at s3
  have s4:=bS (lo:=lo) (v:=aS (dF qs)) (j:=0) Ko (by exact aOo) eT rfl rfl
  rw[aMS] at s4
  have s5:bG true 3 (.ptr H.length 0 0 0) (H1.set H.length (.row 0 [aS (dF qs)] 3 true))=some (aS (dF qs)):=by
   rw[bJ,cP Ko]
   exact cF _
  simp only[xY,g2,g3,g7,g8,bX,s3,s4,s5,eO,VX,Nat.reduceEqDiff,Nat.reduceAdd,Nat.reduceLeDiff,Nat.reduceLT,Nat.reduceSub]
  exact⟨BS hp (aLe _),rfl⟩
theorem ZA {q:Rat}:q.num<0↔q<0:=by rw[←Int.not_le,Rat.num_nonneg];constructor<;>intro h<;>grind
theorem vF (qs:List Rat) (hn:qs.length≤1000000000):TC 58 [aC aS qs] (VB (!(qs.any fun q=>decide (q<0)))):=by
 refine TC.walk ⟨true,false⟩ Ie rfl (aM2 rfl) (by simp[aO,rN]) rfl ?_
 simp only[C2,A3,VX,Nat.reduceEqDiff,Nat.reduceAdd]
 refine aN (fun(i:Nat) ρ H=>i≤qs.length∧H=[]∧(∀j x,j<i→qs[j]? = some x→¬x<0)∧ρ 0=aC aS qs∧ρ 5=VI qs.length∧ρ 6=VI i) (fun i=>qs.length-i) 0 ⟨aLI _,rfl,fun j x h=>by omega,rfl,rfl,rfl⟩ ?_
 rintro i ρ H ⟨hi,rfl,kV,g0,g5,g6⟩
 by_cases bX:(i:Int)<(qs.length:Int)
 ·obtain⟨q,hq⟩:∃q,qs[i]? = some q:=⟨_,aLl (by omega)⟩
  have e2:=fun H=>aF (f:=aS) (t := .op) (H:=H) (size:=3) (k := .i64) hq rfl
  have wi:IntKind.i64.wrap ((i:Int)+1)=((i+1:Nat):Int):=wrapN (i+1) (by omega) (by omega)
  by_cases mG:q.num<0
  ·have Ai:qs.any (fun q=>decide (q<0))=true:=List.any_eq_true.2 ⟨q,aL8 hq,decide_eq_true (ZA.1 mG)⟩
   rw[Ai]
   simp only[nH,g0,g5,g6,bX,e2,mG,iJ,bR,gL,cF,aR,bD,aX,gC,Nat.reduceLeDiff,Nat.reduceLT,Nat.reduceSub,mX,cA,cM,gB,lB,pT,bne_iff_ne,ne_eq,not_false_eq_true,not_true_eq_false,VX,Nat.reduceEqDiff,Nat.reduceAdd]
   exact aK rfl
  ·simp only[nH,g0,g5,g6,bX,e2,mG,wi,iJ,bR,gL,cF,aR,bD,aX,gC,Nat.reduceLeDiff,Nat.reduceLT,Nat.reduceSub,mX,cA,cM,gB,lB,pT,bne_iff_ne,ne_eq,not_false_eq_true,not_true_eq_false,VX,Nat.reduceEqDiff,Nat.reduceAdd]
   refine⟨i+1,by omega,by omega,fun j y hj hy => ?_,rfl⟩
   rcases aLh j i with Ea | Ea
   ·exact kV j y Ea hy
   ·have:j=i:=by omega
    subst this
    rw[hq] at hy
    cases hy
    exact mt ZA.2 mG
 ·have mZ:i=qs.length:=by omega
  subst mZ
  have Ai:qs.any (fun q=>decide (q<0))=false:=by
   rw[List.any_eq_false]
   intro x hx
   obtain⟨j,hj⟩:=List.getElem?_of_mem hx
   simpa using kV j x (aLd.1 hj).1 hj
  rw[Ai]
  simp only[nH,g0,g5,g6,bX,VX,Nat.reduceEqDiff,Nat.reduceAdd]
  exact aK rfl
theorem Yl {a b:Rat}:a=b↔(decide (a.num<0)=decide (b.num<0)∧a.num.natAbs*b.den=b.num.natAbs*a.den):=by
 constructor
 ·rintro rfl
  exact⟨rfl,rfl⟩
 ·rintro⟨h1,h2⟩
  have h3:a.num<0↔b.num<0:=by simpa using h1
  have ha:=a.den_nz
  have hb:=b.den_nz
  have key:a.num*b.den=b.num*a.den→a=b:=fun h=>by
   have:=(Rat.mkRat_eq_iff (n₁:=a.num) (n₂:=b.num) ha hb).2 h
   rwa [Rat.mkRat_self,Rat.mkRat_self] at this
  refine key ?_
  have e1:(a.num.natAbs:Int)*b.den=b.num.natAbs*a.den:=by exact_mod_cast h2
  by_cases hn:a.num<0
  ·have hn2:=h3.1 hn
   have q1:a.num = -(a.num.natAbs:Int):=by omega
   have q2:b.num = -(b.num.natAbs:Int):=by omega
   rw[q1,q2,Int.neg_mul,Int.neg_mul,e1]
  ·have hn2:=mt h3.2 hn
   have q1:a.num=(a.num.natAbs:Int):=by omega
   have q2:b.num=(b.num.natAbs:Int):=by omega
   rw[q1,q2,e1]
set_option maxHeartbeats 1000000 in
theorem MU (a b:Rat) (Gp:aL a≤1099511627776) (Fm:aL b≤1099511627776):TC 160 [aS a,aS b] (VB (decide (a=b))):=by
 refine TC.walk ⟨true,false⟩ M0 rfl (aM2 rfl) (by simp only[aO,Bj];rfl) rfl ?_
 have b1 := @qJ a
 have b2 := @qJ b
 have b3 := @nR a
 have b4 := @nR b
 have b5:=nW a.num.natAbs b.den
 have b6:=nW b.num.natAbs a.den
 have c1:=fL a.num.natAbs b.den (aLV (oX (by omega))) (aLV (oX (by omega)))
 have c2:=fL b.num.natAbs a.den (aLV (oX (by omega))) (aLV (oX (by omega)))
 have c3:=yU (a.num.natAbs*b.den) (b.num.natAbs*a.den) (aLV (oX (by omega))) (aLV (oX (by omega)))
 by_cases q1:decide (a.num<0)=decide (b.num<0)
 ·have q2:(decide (a.num<0) == decide (b.num<0))=true:=by simpa using q1
  have hz := @AP (a.num.natAbs*b.den) (b.num.natAbs*a.den)
  by_cases q3:gA (a.num.natAbs*b.den) (b.num.natAbs*a.den)=0
  ·rw[decide_eq_true (Yl.2 ⟨q1,hz.1 q3⟩)]
   simp only[yY,uR,c1,c2,c3,q2,q3,yO,bR,iJ,jQ,jM,aR,gC,Nat.reduceLeDiff,Nat.reduceLT,Nat.reduceSub,mX,cA,cM,gB,lB,pT,bne_iff_ne,ne_eq,not_false_eq_true,not_true_eq_false,VX,Nat.reduceEqDiff,Nat.reduceAdd]
   exact aK rfl
  ·rw[decide_eq_false (fun h=>q3 (hz.2 (Yl.1 h).2))]
   simp only[yY,uR,c1,c2,c3,q2,q3,yO,bR,iJ,jQ,jM,aR,gC,Nat.reduceLeDiff,Nat.reduceLT,Nat.reduceSub,mX,cA,cM,gB,lB,pT,bne_iff_ne,ne_eq,not_false_eq_true,not_true_eq_false,VX,Nat.reduceEqDiff,Nat.reduceAdd]
   exact aK rfl
 ·have q2:(decide (a.num<0) == decide (b.num<0))=false:=by simpa using q1
  rw[decide_eq_false (fun h=>q1 (Yl.1 h).1)]
  simp only[yY,uR,q2,yO,bR,iJ,jQ,jM,aR,gC,Nat.reduceLeDiff,Nat.reduceLT,Nat.reduceSub,mX,cA,cM,gB,lB,pT,bne_iff_ne,ne_eq,not_false_eq_true,not_true_eq_false,VX,Nat.reduceEqDiff,Nat.reduceAdd]
  exact aK rfl
theorem JI (qs:List Rat) (hb:∀q∈qs,aL q≤665) (hl:qs.length≤300):TC 96 [aC aS qs] (VB (jT qs)):=by
 refine TC.walk ⟨true,false⟩ JU rfl (aM2 rfl) (by simp[aO,rN]) rfl ?_
 have e1:=vF qs (by omega)
 have e2:=fun(K:aA)=>Af (lo:=0) (H:=K) (v:=aC aS qs) qs (Rd.tree jY) (aLI _) hb (N8 hl) (by omega) (by omega)
 have hsb:=Bb hb qs.length
 rw[aMr] at hsb
 have e3:=Qz
 have hsr:=N8 hl
 have e4:=MU (dF qs) 1 (by omega) (by rw[KZ];omega)
 unfold jT
 cases Ai:qs.any (fun q=>decide (q<0)) with
 |
  true =>
  rw[Ai] at e1
  simp only[aOJ,Bool.false_and] at e1 ⊢
  simp only[An,wT,e1,VX,Nat.reduceEqDiff,Nat.reduceAdd]
  exact aK rfl
 |
  false =>
  rw[Ai] at e1
  simp only[aOK,Bool.true_and] at e1 ⊢
  simp only[An,wT,e1,VX,Nat.reduceEqDiff,Nat.reduceAdd]
  refine rJ rfl (e2 _) fun r L hr => ?_
  subst hr
  simp only[e3,e4,VX,Nat.reduceEqDiff,Nat.reduceAdd]
  exact aK rfl
end Go.PM
namespace Go.PM
open Go.Lib
end Go.PM
namespace Go.PM
def yH:aE:=(.seq (LS [LM 20 6,LM 21 4,LO 22 (.bin .lss (LT 20) (LT 21)),LM 23 22,LY 23 24 (.mv (LT 0)),LY 23 25 (.mv (LT 6)),LY 23 26 (.iaddr 1 (LT 24) (LT 25)),LY 23 27 (LL 26),LY 23 28 (.mv (LT 5)),LY 23 29 (.iaddr 3 (LT 27) (LT 28)),LY 23 30 (LK 29),LY 23 31 (.call 59 [(LT 30)]),LO 32 (.pick (LT 23) (LT 31) LF)] (.cond (LT 32) .skip (.exit 2))) (.block 3 (.cT [LM 33 6,LO 34 (.bin .add (LT 33) (LI 1)),LM 6 34])))
def xZ:aE:=(.seq (LS [LM 76 9,LM 77 4,LO 78 (.bin .leq (LT 76) (LT 77))] (.cond (LT 78) .skip (.exit 6))) (.seq (.block 7 (.cT [LM 81 0,LM 82 7,LO 83 (.iaddr 1 (LT 81) (LT 82)),LO 84 (LL 83),LM 85 9,LM 86 0,LM 87 7,LO 88 (.iaddr 1 (LT 86) (LT 87)),LO 89 (LL 88),LM 90 9,LO 91 (.iaddr 3 (LT 89) (LT 90)),LO 92 (LK 91),LO 93 (LK 8),LM 94 0,LM 95 5,LO 96 (.iaddr 1 (LT 94) (LT 95)),LO 97 (LL 96),LM 98 9,LO 99 (.iaddr 3 (LT 97) (LT 98)),LO 100 (LK 99),LQ 101 (.call 125 [(LT 93),(LT 100)]),LQ 102 (.call 82 [(LT 92),(LT 101)]),LO 103 (.iaddr 3 (LT 84) (LT 85)),LN (.store 3 (LT 103) (LT 102))])) (.cT [LM 79 9,LO 80 (.bin .add (LT 79) (LI 1)),LM 9 80])))
def nY:aE:=(.seq (LS [LM 42 7,LM 43 4,LO 44 (.bin .lss (LT 42) (LT 43))] (.cond (LT 44) .skip (.exit 4))) (.seq (.block 5 (.seq (LS [LM 47 7,LM 48 5,LO 49 (.bin .eql (LT 47) (LT 48)),LM 50 49,LZ 50 51 (.mv (LT 0)),LZ 50 52 (.mv (LT 7)),LZ 50 53 (.iaddr 1 (LT 51) (LT 52)),LZ 50 54 (LL 53),LZ 50 55 (.mv (LT 5)),LZ 50 56 (.iaddr 3 (LT 54) (LT 55)),LZ 50 57 (LK 56),LZ 50 58 (.call 59 [(LT 57)]),LO 59 (.pick (LT 50) LG (LT 58))] (.cond (LT 59) (.exit 5) .skip)) (LS [LM 60 0,LM 61 7,LO 62 (.iaddr 1 (LT 60) (LT 61)),LO 63 (LL 62),LM 64 5,LO 65 (.iaddr 3 (LT 63) (LT 64)),LO 66 (LK 65),LM 67 0,LM 68 5,LO 69 (.iaddr 1 (LT 67) (LT 68)),LO 70 (LL 69),LM 71 5,LO 72 (.iaddr 3 (LT 70) (LT 71)),LO 73 (LK 72),LQ 74 (.call 81 [(LT 66),(LT 73)]),LQ 8 (.new [(.bool false),(.slice none 0 0),(.slice none 0 0)]),LN (.store 3 (LT 8) (LT 74))] (LS [LM 75 5,LM 9 75] (.block 6 (.loop xZ)))))) (.cT [LM 45 7,LO 46 (.bin .add (LT 45) (LI 1)),LM 7 46])))
def xW:aE:=(.seq (LS [LM 14 5,LM 15 4,LO 16 (.bin .lss (LT 14) (LT 15))] (.cond (LT 16) .skip (.exit 0))) (.seq (.block 1 (LS [LM 19 5,LM 6 19] (.seq (.block 2 (.loop yH)) (.seq (LS [LM 35 6,LM 36 4,LO 37 (.bin .eql (LT 35) (LT 36))] (.cond (LT 37) (LS [LO 2 (.mv (.const (.slice none 0 0))),LO 3 (.mv LF)] .ret) .skip)) (LS [LM 38 0,LM 39 5,LM 40 6,LO 41 (.call 179 [(LT 38),(LT 39),(LT 40)])] (LS [LO 7 (.mv (LI 0))] (.block 4 (.loop nY)))))))) (.cT [LM 17 5,LO 18 (.bin .add (LT 17) (LI 1)),LM 5 18])))
def yR:aE:=(.seq (LS [LM 105 11,LM 106 4,LO 107 (.bin .lss (LT 105) (LT 106))] (.cond (LT 107) .skip (.exit 8))) (.seq (.block 9 (.cT [LM 110 10,LM 111 0,LM 112 11,LO 113 (.iaddr 1 (LT 111) (LT 112)),LO 114 (LL 113),LM 115 4,LO 116 (.iaddr 3 (LT 114) (LT 115)),LO 117 (LK 116),LM 118 0,LM 119 11,LO 120 (.iaddr 1 (LT 118) (LT 119)),LO 121 (LL 120),LM 122 11,LO 123 (.iaddr 3 (LT 121) (LT 122)),LO 124 (LK 123),LQ 125 (.call 81 [(LT 117),(LT 124)]),LQ 126 (.lit [(.bool false),(.slice none 0 0),(.slice none 0 0)] 1 [(0,(LT 125))]),LO 127 (.app 3 56 (LT 110) (LT 126)),LM 10 127])) (.cT [LM 108 11,LO 109 (.bin .add (LT 108) (LI 1)),LM 11 109])))
def EH:aE:=(LS [LO 2 (.mv (.const (.slice none 0 0))),LO 3 (.mv LF)] (LS [LM 12 0,LO 13 (.len (LT 12)),LM 4 13] (.seq (LS [LO 5 (.mv (LI 0))] (.block 0 (.loop xW))) (LS [LO 104 (.lit [(.bool false),(.slice none 0 0),(.slice none 0 0)] 0 []),LM 10 104] (.seq (LS [LO 11 (.mv (LI 0))] (.block 8 (.loop yR))) (LS [LM 128 10,LM 2 128,LO 3 (.mv LG)] .ret))))))
def HE:aZ:=⟨129,[(.tmp 2),(.tmp 3)],EH⟩
theorem M1:gH 134=some HE:=by kernel_rfl
def FB:aE:=(LS [LM 7 0,LM 8 1,LO 9 (.iaddr 1 (LT 7) (LT 8)),LO 10 (LL 9),LM 6 10] (LS [LM 11 0,LM 12 1,LM 13 0,LM 14 2,LO 15 (.iaddr 1 (LT 13) (LT 14)),LO 16 (LL 15),LO 17 (.iaddr 1 (LT 11) (LT 12)),LN (.store 1 (LT 17) (LT 16))] (.cT [LM 18 0,LM 19 2,LM 20 6,LO 21 (.iaddr 1 (LT 18) (LT 19)),LN (.store 1 (LT 21) (LT 20))])))
def JH:aZ:=⟨22,[],FB⟩
theorem N5:gH 179=some JH:=by kernel_rfl
end Go.PM
namespace Go.PM
open Go.Lib
theorem P7 (x:List Rat):(aB (aC aS x)).length=1:=rfl
theorem adM (m:List (List Rat)):aY (aC (aC aS) m)=true:=mJ P7 rN
theorem alB (m:List (List Rat)):gV (aC (aC aS) m)=true:=zX P7 Gx fun _=>rfl
end Go.PM
namespace Go.PM
def AX:aE:=(LS [LO 1 (.box (LT 0)),LO 2 (.mv (.const (.string ⟨#[]⟩))),LO 3 (.mv LF)] (LS [LO 7 (LK 1),LO 8 (.call 171 [(LT 7)]),LM 6 8,LO 9 (LX 6 0),LO 10 (LX 6 1),LM 4 9,LM 5 10] (.seq (LS [LM 11 5,LO 12 (.un .not (LT 11))] (.cond (LT 12) (LS [LO 2 (.mv (.const (.string ⟨#[]⟩))),LO 3 (.mv LF)] .ret) .skip)) (LS [LM 13 4,LM 2 13,LO 3 (.mv LG)] .ret))))
def Ec:aZ:=⟨14,[(.tmp 2),(.tmp 3)],AX⟩
theorem Ov:gH 112=some Ec:=by kernel_rfl
end Go.PM
namespace Go.PM
end Go.PM
namespace Go.PM
open Go.Lib
theorem awI {b g j o e:Nat} {H:aA} {es:List VV} {w:Bool} {x x':VV} (h:aJ H b g=some (es,e,w)) (hx:es[j]? = some x) (hf:PM.fz 7 H x=some x'):PM.fz depth H (.ptr b g j o)=some (x'.cS o):=by
 show PM.fz (7+1) H _=_
 unfold PM.fz
 have:aY (.ptr b g j o)=false:=rfl
 simp[this,h,hx,hf]
theorem PB (q:Rat) (hk:aL q≤1099511627776):TC 112 [aS q] (Dq q):=by
 refine TC.walk ⟨true,false⟩ Ov rfl (aM2 rfl) (Lx (Bj _)) (Gh q) ?_
 have e1:=NO q hk
 unfold Dq at e1 ⊢
 by_cases h:ED q=true
 ·rw[if_pos h] at e1 ⊢
  simp only[Ec,AX,e1,bR,gL,cF,aR,bD,aX,gC,Nat.reduceLeDiff,Nat.reduceLT,Nat.reduceSub,mX,cA,cM,gB,lB,pT,bne_iff_ne,ne_eq,not_false_eq_true,not_true_eq_false,VX,Nat.reduceEqDiff,Nat.reduceAdd]
  exact aK rfl
 ·rw[if_neg h] at e1 ⊢
  simp only[Ec,AX,e1,bR,gL,cF,aR,bD,aX,gC,Nat.reduceLeDiff,Nat.reduceLT,Nat.reduceSub,mX,cA,cM,gB,lB,pT,bne_iff_ne,ne_eq,not_false_eq_true,not_true_eq_false,VX,Nat.reduceEqDiff,Nat.reduceAdd]
  exact aK rfl
end Go.PM
namespace Go.PM
open Go.Lib
end Go.PM
namespace Go.PM
def dA:aE:=(.seq (LS [LM 77 10,LM 78 4,LO 79 (.bin .lss (LT 77) (LT 78))] (.cond (LT 79) .skip (.exit 0))) (.seq (.block 1 (LS [LM 83 0,LO 84 (.chk (LT 83)),LO 85 (LA 1 84),LO 86 (LL 85),LM 87 10,LO 88 (.iaddr 1 (LT 86) (LT 87)),LO 89 (LL 88),LO 90 (.call 57 [(LT 89)]),LM 82 90,LO 91 (LX 82 0),LO 92 (LX 82 1),LM 11 91,LM 12 92] (.seq (LS [LM 93 12,LO 94 (.un .not (LT 93)),LM 95 94,LZ 95 96 (.mv (LT 11)),LZ 95 97 (.len (LT 96)),LZ 95 98 (.mv (LT 4)),LZ 95 99 (.bin .neq (LT 97) (LT 98)),LO 100 (.pick (LT 95) LG (LT 99)),LM 101 100,LZ 101 102 (.mv (LT 11)),LZ 101 103 (.call 58 [(LT 102)]),LZ 101 104 (.un .not (LT 103)),LO 105 (.pick (LT 101) LG (LT 104)),LM 106 105,LZ 106 107 (.mv (LT 11)),LZ 106 108 (.mv (LT 10)),LZ 106 109 (.iaddr 3 (LT 107) (LT 108)),LZ 106 110 (LK 109),LZ 106 111 (.call 59 [(LT 110)]),LZ 106 112 (.un .not (LT 111)),LO 113 (.pick (LT 106) LG (LT 112))] (.cond (LT 113) (LS [LO 114 (LK 5),LN (.store 3 (LT 2) (LT 114)),LO 3 (.mv LF)] .ret) .skip)) (.cT [LO 115 (LA 1 5),LO 116 (LL 115),LM 117 11,LO 118 (.lit [(.slice none 0 0)] 1 [(0,(LT 117))]),LO 119 (.app 1 24 (LT 116) (LT 118)),LO 120 (LA 1 5),LN (.store 1 (LT 120) (LT 119))])))) (.cT [LM 80 10,LO 81 (.bin .add (LT 80) (LI 1)),LM 10 81])))
def dT:aE:=(LS [LO 2 (.new [(.slice none 0 0),(.slice none 0 0),(.slice none 0 0)]),LO 3 (.mv LF)] (LS [LM 13 0,LO 14 (.chk (LT 13)),LO 15 (LA 0 14),LO 16 (LL 15),LO 17 (.len (LT 16)),LM 4 17] (LS [LO 18 (.build [(.slice none 0 0),(.slice none 0 0),(.slice none 0 0)] [(0,1),(1,1),(2,1)] []),LO 5 (.new [(.slice none 0 0),(.slice none 0 0),(.slice none 0 0)]),LN (.store 3 (LT 5) (LT 18))] (.seq (LS [LM 19 4,LO 20 (.bin .lss (LT 19) (LI 1)),LM 21 20,LZ 21 22 (.mv (LT 4)),LZ 21 23 (.bin .gtr (LT 22) (LI 6)),LO 24 (.pick (LT 21) LG (LT 23)),LM 25 24,LZ 25 26 (.mv (LT 0)),LZ 25 27 (.chk (LT 26)),LZ 25 28 (LA 1 27),LZ 25 29 (LL 28),LZ 25 30 (.len (LT 29)),LZ 25 31 (.mv (LT 4)),LZ 25 32 (.bin .neq (LT 30) (LT 31)),LO 33 (.pick (LT 25) LG (LT 32)),LM 34 33,LZ 34 35 (.mv (LT 0)),LZ 34 36 (.chk (LT 35)),LZ 34 37 (LA 2 36),LZ 34 38 (LL 37),LZ 34 39 (.len (LT 38)),LZ 34 40 (.mv (LT 4)),LZ 34 41 (.bin .neq (LT 39) (LT 40)),LO 42 (.pick (LT 34) LG (LT 41))] (.cond (LT 42) (LS [LO 43 (LK 5),LN (.store 3 (LT 2) (LT 43)),LO 3 (.mv LF)] .ret) .skip)) (LS [LM 45 0,LO 46 (.chk (LT 45)),LO 47 (LA 0 46),LO 48 (LL 47),LO 49 (.call 57 [(LT 48)]),LM 44 49,LO 50 (LX 44 0),LO 51 (LX 44 1),LM 6 50,LM 7 51] (LS [LM 53 0,LO 54 (.chk (LT 53)),LO 55 (LA 2 54),LO 56 (LL 55),LO 57 (.call 57 [(LT 56)]),LM 52 57,LO 58 (LX 52 0),LO 59 (LX 52 1),LM 8 58,LM 9 59] (.seq (LS [LM 60 7,LO 61 (.un .not (LT 60)),LM 62 61,LZ 62 63 (.mv (LT 9)),LZ 62 64 (.un .not (LT 63)),LO 65 (.pick (LT 62) LG (LT 64)),LM 66 65,LZ 66 67 (.mv (LT 6)),LZ 66 68 (.call 96 [(LT 67)]),LZ 66 69 (.un .not (LT 68)),LO 70 (.pick (LT 66) LG (LT 69)),LM 71 70,LZ 71 72 (.mv (LT 8)),LZ 71 73 (.call 58 [(LT 72)]),LZ 71 74 (.un .not (LT 73)),LO 75 (.pick (LT 71) LG (LT 74))] (.cond (LT 75) (LS [LO 76 (LK 5),LN (.store 3 (LT 2) (LT 76)),LO 3 (.mv LF)] .ret) .skip)) (.seq (LS [LO 10 (.mv (LI 0))] (.block 0 (.loop dA))) (LS [LM 121 6,LO 122 (LA 0 5),LN (.store 1 (LT 122) (LT 121))] (LS [LM 123 8,LO 124 (LA 2 5),LN (.store 1 (LT 124) (LT 123))] (LS [LO 125 (LK 5),LQ 126 (.call 166 [(LT 5)]),LN (.store 3 (LT 2) (LT 125)),LM 3 126] .ret)))))))))))
def fU:aZ:=⟨127,[(.cell 2 true 3),(.tmp 3)],dT⟩
theorem Nb:gH 109=some fU:=by kernel_rfl
def A8:aE:=(.seq (LS [LM 6 4,LM 7 0,LO 8 (.bin .lss (LT 6) (LT 7))] (.cond (LT 8) .skip (.exit 0))) (.seq (.block 1 (.cT [LM 11 3,LO 12 (.call 77 []),LO 13 (.lit [(.bool false),(.slice none 0 0),(.slice none 0 0)] 1 [(0,(LT 12))]),LO 14 (.app 3 56 (LT 11) (LT 13)),LM 3 14])) (.cT [LM 9 4,LO 10 (.bin .add (LT 9) (LI 1)),LM 4 10])))
def Hw:aE:=(LS [LO 2 (.mv (.const (.slice none 0 0)))] (LS [LO 5 (.lit [(.bool false),(.slice none 0 0),(.slice none 0 0)] 0 []),LM 3 5] (.seq (LS [LO 4 (.mv (LI 0))] (.block 0 (.loop A8))) (LS [LM 15 3,LM 2 15] .ret))))
def L5:aZ:=⟨16,[(.tmp 2)],Hw⟩
theorem Qr:gH 133=some L5:=by kernel_rfl
def dZ:aE:=(.seq (LS [LM 44 7,LM 45 3,LO 46 (.bin .lss (LT 44) (LT 45))] (.cond (LT 46) .skip (.exit 4))) (.seq (.block 5 (.cT [LM 49 4,LM 50 6,LM 51 4,LM 52 6,LO 53 (.iaddr 1 (LT 51) (LT 52)),LO 54 (LL 53),LM 55 54,LZ 55 56 (.mv (LT 4)),LZ 55 57 (.mv (LT 7)),LZ 55 58 (.iaddr 1 (LT 56) (LT 57)),LZ 55 59 (LL 58),LZ 55 60 (.mv (LT 59)),LY 60 61 (.mv (LT 0)),LY 60 62 (.chk (LT 61)),LY 60 63 (LA 1 62),LY 60 64 (LL 63),LY 60 65 (.mv (LT 6)),LY 60 66 (.iaddr 1 (LT 64) (LT 65)),LY 60 67 (LL 66),LY 60 68 (.mv (LT 7)),LY 60 69 (.iaddr 3 (LT 67) (LT 68)),LY 60 70 (LK 69),LY 60 71 (.call 59 [(LT 70)]),LY 60 72 (.un .not (LT 71)),LZ 55 73 (.pick (LT 60) (LT 72) LF),LO 74 (.pick (LT 55) LG (LT 73)),LO 75 (.iaddr 1 (LT 49) (LT 50)),LN (.store 1 (LT 75) (LT 74))])) (.cT [LM 47 7,LO 48 (.bin .add (LT 47) (LI 1)),LM 7 48])))
def iL:aE:=(.seq (LS [LM 21 6,LM 22 3,LO 23 (.bin .lss (LT 21) (LT 22))] (.cond (LT 23) .skip (.exit 2))) (.seq (.block 3 (LS [LM 26 4,LM 27 6,LM 28 4,LM 29 6,LO 30 (.iaddr 1 (LT 28) (LT 29)),LO 31 (LL 30),LM 32 31,LZ 32 33 (.mv (LT 0)),LZ 32 34 (.chk (LT 33)),LZ 32 35 (LA 2 34),LZ 32 36 (LL 35),LZ 32 37 (.mv (LT 6)),LZ 32 38 (.iaddr 3 (LT 36) (LT 37)),LZ 32 39 (LK 38),LZ 32 40 (.call 59 [(LT 39)]),LZ 32 41 (.un .not (LT 40)),LO 42 (.pick (LT 32) LG (LT 41)),LO 43 (.iaddr 1 (LT 26) (LT 27)),LN (.store 1 (LT 43) (LT 42))] (LS [LO 7 (.mv (LI 0))] (.block 4 (.loop dZ))))) (.cT [LM 24 6,LO 25 (.bin .add (LT 24) (LI 1)),LM 6 25])))
def tI:aE:=(.seq (LS [LM 16 5,LM 17 3,LO 18 (.bin .lss (LT 16) (LT 17))] (.cond (LT 18) .skip (.exit 0))) (.seq (.block 1 (LS [LO 6 (.mv (LI 0))] (.block 2 (.loop iL)))) (.cT [LM 19 5,LO 20 (.bin .add (LT 19) (LI 1)),LM 5 20])))
def nK:aE:=(.seq (LS [LM 76 8,LM 77 3,LO 78 (.bin .lss (LT 76) (LT 77))] (.cond (LT 78) .skip (.exit 6))) (.seq (.block 7 (LS [LM 81 4,LM 82 8,LO 83 (.iaddr 1 (LT 81) (LT 82)),LO 84 (LL 83),LO 85 (.un .not (LT 84))] (.cond (LT 85) (LS [LO 2 (.mv LF)] .ret) .skip))) (.cT [LM 79 8,LO 80 (.bin .add (LT 79) (LI 1)),LM 8 80])))
def AV:aE:=(LS [LO 2 (.mv LF)] (LS [LM 9 0,LO 10 (.chk (LT 9)),LO 11 (LA 0 10),LO 12 (LL 11),LO 13 (.len (LT 12)),LM 3 13] (LS [LM 14 3,LO 15 (.make [(.bool false)] 1 (LT 14) (LT 14)),LM 4 15] (.seq (LS [LO 5 (.mv (LI 0))] (.block 0 (.loop tI))) (.seq (LS [LO 8 (.mv (LI 0))] (.block 6 (.loop nK))) (LS [LO 2 (.mv LG)] .ret))))))
def Dy:aZ:=⟨86,[(.tmp 2)],AV⟩
theorem HU:gH 166=some Dy:=by kernel_rfl
def tM:aE:=(.seq (LS [LM 95 17,LM 96 10,LO 97 (.bin .lss (LT 95) (LT 96))] (.cond (LT 97) .skip (.exit 4))) (.seq (.block 5 (.cT [LM 100 15,LM 101 17,LM 102 11,LO 103 (.bin .mul (LT 101) (LT 102)),LM 104 14,LO 105 (.bin .add (LT 103) (LT 104)),LM 106 15,LM 107 17,LM 108 11,LO 109 (.bin .mul (LT 107) (LT 108)),LM 110 14,LO 111 (.bin .add (LT 109) (LT 110)),LO 112 (.iaddr 3 (LT 106) (LT 111)),LO 113 (LK 112),LO 114 (LA 1 6),LO 115 (LL 114),LM 116 13,LO 117 (.iaddr 1 (LT 115) (LT 116)),LO 118 (LL 117),LM 119 17,LO 120 (.iaddr 3 (LT 118) (LT 119)),LO 121 (LK 120),LQ 122 (.call 82 [(LT 113),(LT 121)]),LO 123 (.iaddr 3 (LT 100) (LT 105)),LN (.store 3 (LT 123) (LT 122))])) (.cT [LM 98 17,LO 99 (.bin .add (LT 98) (LI 1)),LM 17 99])))
def tS:aE:=(.seq (LS [LM 124 18,LM 125 11,LO 126 (.bin .lss (LT 124) (LT 125))] (.cond (LT 126) .skip (.exit 6))) (.seq (.block 7 (.cT [LM 129 15,LM 130 13,LM 131 11,LO 132 (.bin .mul (LT 130) (LT 131)),LM 133 18,LO 134 (.bin .add (LT 132) (LT 133)),LM 135 15,LM 136 13,LM 137 11,LO 138 (.bin .mul (LT 136) (LT 137)),LM 139 18,LO 140 (.bin .add (LT 138) (LT 139)),LO 141 (.iaddr 3 (LT 135) (LT 140)),LO 142 (LK 141),LO 143 (LA 1 8),LO 144 (LL 143),LM 145 14,LO 146 (.iaddr 1 (LT 144) (LT 145)),LO 147 (LL 146),LM 148 18,LO 149 (.iaddr 3 (LT 147) (LT 148)),LO 150 (LK 149),LQ 151 (.call 82 [(LT 142),(LT 150)]),LO 152 (.iaddr 3 (LT 129) (LT 134)),LN (.store 3 (LT 152) (LT 151))])) (.cT [LM 127 18,LO 128 (.bin .add (LT 127) (LI 1)),LM 18 128])))
def tQ:aE:=(.seq (LS [LM 60 14,LM 61 11,LO 62 (.bin .lss (LT 60) (LT 61))] (.cond (LT 62) .skip (.exit 2))) (.seq (.block 3 (LS [LM 65 10,LM 66 11,LO 67 (.bin .mul (LT 65) (LT 66)),LO 68 (.bin .add (LT 67) (LI 1)),LO 69 (.call 133 [(LT 68)]),LM 15 69] (LS [LO 70 (LA 1 6),LO 71 (LL 70),LM 72 13,LO 73 (.iaddr 1 (LT 71) (LT 72)),LO 74 (LL 73),LQ 75 (.call 60 [(LT 74)]),LO 76 (LA 2 6),LO 77 (LL 76),LM 78 13,LO 79 (.iaddr 3 (LT 77) (LT 78)),LO 80 (LK 79),LQ 81 (.call 79 [(LT 75),(LT 80)]),LO 82 (LA 1 8),LO 83 (LL 82),LM 84 14,LO 85 (.iaddr 1 (LT 83) (LT 84)),LO 86 (LL 85),LQ 87 (.call 60 [(LT 86)]),LO 88 (LA 2 8),LO 89 (LL 88),LM 90 14,LO 91 (.iaddr 3 (LT 89) (LT 90)),LO 92 (LK 91),LQ 93 (.call 79 [(LT 87),(LT 92)]),LQ 94 (.call 79 [(LT 81),(LT 93)]),LQ 16 (.new [(.bool false),(.slice none 0 0),(.slice none 0 0)]),LN (.store 3 (LT 16) (LT 94))] (.seq (LS [LO 17 (.mv (LI 0))] (.block 4 (.loop tM))) (.seq (LS [LO 18 (.mv (LI 0))] (.block 6 (.loop tS))) (LS [LM 153 15,LM 154 13,LM 155 11,LO 156 (.bin .mul (LT 154) (LT 155)),LM 157 14,LO 158 (.bin .add (LT 156) (LT 157)),LM 159 15,LM 160 13,LM 161 11,LO 162 (.bin .mul (LT 160) (LT 161)),LM 163 14,LO 164 (.bin .add (LT 162) (LT 163)),LO 165 (.iaddr 3 (LT 159) (LT 164)),LO 166 (LK 165),LO 167 (LK 16),LQ 168 (.call 79 [(LT 166),(LT 167)]),LO 169 (.iaddr 3 (LT 153) (LT 158)),LN (.store 3 (LT 169) (LT 168))] (LS [LM 170 15,LM 171 10,LM 172 11,LO 173 (.bin .mul (LT 171) (LT 172)),LO 174 (LA 2 6),LO 175 (LL 174),LM 176 13,LO 177 (.iaddr 3 (LT 175) (LT 176)),LO 178 (LK 177),LO 179 (.iaddr 3 (LT 170) (LT 173)),LN (.store 3 (LT 179) (LT 178))] (.cT [LM 180 12,LM 181 15,LO 182 (.lit [(.slice none 0 0)] 1 [(0,(LT 181))]),LO 183 (.app 1 24 (LT 180) (LT 182)),LM 12 183])))))))) (.cT [LM 63 14,LO 64 (.bin .add (LT 63) (LI 1)),LM 14 64])))
def tK:aE:=(.seq (LS [LM 55 13,LM 56 10,LO 57 (.bin .lss (LT 55) (LT 56))] (.cond (LT 57) .skip (.exit 0))) (.seq (.block 1 (LS [LO 14 (.mv (LI 0))] (.block 2 (.loop tQ)))) (.cT [LM 58 13,LO 59 (.bin .add (LT 58) (LI 1)),LM 13 59])))
def tT:aE:=(.seq (LS [LM 195 23,LM 196 11,LO 197 (.bin .lss (LT 195) (LT 196))] (.cond (LT 197) .skip (.exit 10))) (.seq (.block 11 (.cT [LO 200 (LK 21),LO 201 (LA 0 6),LO 202 (LL 201),LM 203 22,LO 204 (.iaddr 3 (LT 202) (LT 203)),LO 205 (LK 204),LO 206 (LA 0 8),LO 207 (LL 206),LM 208 23,LO 209 (.iaddr 3 (LT 207) (LT 208)),LO 210 (LK 209),LQ 211 (.call 125 [(LT 205),(LT 210)]),LM 212 19,LM 213 22,LM 214 11,LO 215 (.bin .mul (LT 213) (LT 214)),LM 216 23,LO 217 (.bin .add (LT 215) (LT 216)),LO 218 (.iaddr 3 (LT 212) (LT 217)),LO 219 (LK 218),LQ 220 (.call 125 [(LT 211),(LT 219)]),LQ 221 (.call 79 [(LT 200),(LT 220)]),LN (.store 3 (LT 21) (LT 221))])) (.cT [LM 198 23,LO 199 (.bin .add (LT 198) (LI 1)),LM 23 199])))
def tF:aE:=(.seq (LS [LM 190 22,LM 191 10,LO 192 (.bin .lss (LT 190) (LT 191))] (.cond (LT 192) .skip (.exit 8))) (.seq (.block 9 (LS [LO 23 (.mv (LI 0))] (.block 10 (.loop tT)))) (.cT [LM 193 22,LO 194 (.bin .add (LT 193) (LI 1)),LM 22 194])))
def lE:aE:=(LS [LO 2 (.box (LT 0)),LO 3 (.box (LT 1)),LO 4 (.mv (.const (.string ⟨#[]⟩))),LO 5 (.mv LF)] (LS [LO 25 (.call 109 [(LT 2)]),LM 24 25,LO 26 (LX 24 0),LO 27 (LX 24 1),LO 6 (.new [(.slice none 0 0),(.slice none 0 0),(.slice none 0 0)]),LN (.store 3 (LT 6) (LT 26)),LM 7 27] (LS [LO 29 (.call 109 [(LT 3)]),LM 28 29,LO 30 (LX 28 0),LO 31 (LX 28 1),LO 8 (.new [(.slice none 0 0),(.slice none 0 0),(.slice none 0 0)]),LN (.store 3 (LT 8) (LT 30)),LM 9 31] (.seq (LS [LM 32 7,LO 33 (.un .not (LT 32)),LM 34 33,LZ 34 35 (.mv (LT 9)),LZ 34 36 (.un .not (LT 35)),LO 37 (.pick (LT 34) LG (LT 36)),LM 38 37,LZ 38 39 (LA 0 6),LZ 38 40 (LL 39),LZ 38 41 (.len (LT 40)),LZ 38 42 (LA 0 8),LZ 38 43 (LL 42),LZ 38 44 (.len (LT 43)),LZ 38 45 (.bin .mul (LT 41) (LT 44)),LZ 38 46 (.bin .gtr (LT 45) (LI 12)),LO 47 (.pick (LT 38) LG (LT 46))] (.cond (LT 47) (LS [LO 4 (.mv (.const (.string ⟨#[]⟩))),LO 5 (.mv LF)] .ret) .skip)) (LS [LO 48 (LA 0 6),LO 49 (LL 48),LO 50 (.len (LT 49)),LM 10 50] (LS [LO 51 (LA 0 8),LO 52 (LL 51),LO 53 (.len (LT 52)),LM 11 53] (LS [LO 54 (.lit [(.slice none 0 0)] 0 []),LM 12 54] (.seq (LS [LO 13 (.mv (LI 0))] (.block 0 (.loop tK))) (LS [LM 185 12,LO 186 (.call 134 [(LT 185)]),LM 184 186,LO 187 (LX 184 0),LO 188 (LX 184 1),LM 19 187,LM 20 188] (LS [LO 189 (.call 77 []),LO 21 (.new [(.bool false),(.slice none 0 0),(.slice none 0 0)]),LN (.store 3 (LT 21) (LT 189))] (.seq (LS [LO 22 (.mv (LI 0))] (.block 8 (.loop tF))) (LS [LO 222 (LK 21),LO 223 (.call 112 [(LT 222)]),LO 224 (LX 223 0),LO 225 (LX 223 1),LM 4 224,LM 5 225] .ret))))))))))))
def nU:aZ:=⟨226,[(.tmp 4),(.tmp 5)],lE⟩
theorem IK:gH 55=some nU:=by kernel_rfl
end Go.PM
namespace Go.PM
open Go.Lib
theorem Qm {lo:Nat} {H:aA} (N:Nat) (hN:N≤1000000) (eT:lo≤H.length):mB 133 [VI N] lo H (Uo (J0 aS 3 (aL4 N (0:Rat))) H):=by
 refine mB.walk ⟨true,false⟩ Qr (aM2 rfl) ?_
 have e0:∀K,nT false [.bool false,.slice none 0 0,.slice none 0 0] 0 [] K=some (.ref K.length 0 0 0 0,K++[.row 0 [] 3 true]):=fun K=>mQ rfl
 have e1:=Bv
 have eL:∀H,nT false [.bool false,.slice none 0 0,.slice none 0 0] 1 [(0,aS 0)] H=some (.tree [aS 0] (.cl 3),H):=fun H=>lO rfl rfl rfl
 have eS:∀H,dG 3 (.tree [aS 0] (.cl 3)) H=some [aS 0]:=fun H=>gR rfl rfl
 simp only[L5,Hw,e0,eO,VX,Nat.reduceEqDiff,Nat.reduceAdd,Nat.reduceLeDiff,Nat.reduceLT,Nat.reduceSub]
 refine aN (fun(i:Nat) ρ H1=>i≤N∧H <+: H1∧aJ H1 H.length i=some ((aL4 i (0:Rat)).map aS,3,true)∧ρ 0=VI N∧ρ 3 = .ref H.length i 0 i i∧ρ 4=VI i) (fun i=>N-i) 0 ⟨aLI _,aM9 _ _,iO,rfl,rfl,rfl⟩ ?_
 rintro i ρ H1 ⟨hi,hp,mA,g0,g3,g4⟩
 by_cases bX:(i:Int)<(N:Int)
 ·have wi:IntKind.i64.wrap ((i:Int)+1)=((i+1:Nat):Int):=wrapN (i+1) (by omega) (by omega)
  have eP:=NQ (lo:=lo) (bytes:=56) (x:=(0:Rat)) mA (by simp) eT (by decide) (by decide) (by omega)
  simp only[A8,g0,g3,g4,bX,e1,eL,eS,eP,wi,eO,VX,Nat.reduceEqDiff,Nat.reduceAdd,Nat.reduceLeDiff,Nat.reduceLT,Nat.reduceSub]
  exact⟨i+1,by omega,by omega,BS hp (aLe _),by rw[List.replicate_succ'];exact cP mA,by (repeat' apply aMU)<;>first | rfl | trivial | assumption⟩
 ·have mZ:i=N:=by omega
  subst mZ
  simp only[A8,g0,g3,g4,bX,eO,VX,Nat.reduceEqDiff,Nat.reduceAdd,Nat.reduceLeDiff,Nat.reduceLT,Nat.reduceSub]
  exact⟨hp,H.length,i,i,aLe _,lZ mA,by rw[List.length_replicate],by simp,mA⟩
def SvS (s:rV) (lo hi:Nat) (H:aA) (v:VV):Prop:=(∃a b c,v = .agg [a,b,c]∧bP a=true∧bP b=true∧bP c=true∧∀n,n≤lo→jL n a=true∧jL n b=true∧jL n c=true)∧JA (tX s) lo hi H v
theorem SvS.cW {s:rV}:∀ {lo hi H H' v},SvS s lo hi H v→jX lo hi H H'→SvS s lo hi H' v:=fun h hk=>⟨h.1,h.2.cW hk⟩
theorem SvS.wide {s:rV}:∀ {lo hi fV qK:Nat} {H:aA} {v:VV},SvS s lo hi H v→fV≤lo→hi≤qK→SvS s fV qK H v:=fun h hl hh=>by
 obtain⟨⟨a,b,c,h1,h2,h3,h4,h5⟩,h6⟩:=h
 exact⟨⟨a,b,c,h1,h2,h3,h4,fun n hn=>h5 n (by omega)⟩,fun H' hk=>h6 H' (hk.sub hl hh)⟩
theorem SvS.ag {s:rV} {lo hi:Nat} {H:aA} {v:VV} (h:SvS s lo hi H v) (n:Nat) (hn:n≤lo):∃a b c,v = .agg [a,b,c]∧bP a=true∧bP b=true∧bP c=true∧jL n a=true∧jL n b=true∧jL n c=true:=by
 obtain⟨⟨a,b,c,h1,h2,h3,h4,h5⟩,_⟩:=h
 exact⟨a,b,c,h1,h2,h3,h4,h5 n hn⟩
end Go.PM
namespace Go.PM
open Go.Lib
theorem afJ (b:List Rat) (g:List (List Rat)) (e:List Rat):aY (CA aS b g e)=true:=by
 show aO [aC aS b,aC (aC aS) g,aC aS e]=true
 simp only[aO,rN,adM,Bool.and_self]
theorem LsO.own {α:Type} {f:α→VV} {e lo hi n:Nat} {H:aA} {v:VV} {o:Option (List α)} (h:LsO f e o lo hi H v) (hn:n≤lo):jL n v=true:=by
 cases o with
 |
  none =>
  have h:v = .tree [] .nil:=h
  subst h
  rfl
 |
  some ys =>
  obtain⟨b,g,c,h1,h2,rfl,h3⟩:=h
  simp[jL];omega
theorem Wv.own {α:Type} {f:α→VV} {e lo hi n:Nat} {H:aA} {v:VV} {cD:List (List α)} (h:Wv f e cD lo hi H v) (hn:n≤lo):jL n v=true:=by
 rcases h with⟨rfl,_⟩ | ⟨b,g,rs,q1,q2,rfl,_⟩
 ·rfl
 ·simp[jL];omega
end Go.PM
namespace Go.PM
open Go.Lib
end Go.PM
namespace Go.PM
open Go.Lib
end Go.PM
namespace Go.PM
open Go.Lib
end Go.PM
namespace Go.PM
open Go.Lib
section
variable {b:List Rat} {g:List (List Rat)} {e row:List Rat} {n i:Nat} {st:List Bool}
abbrev svP (b:List Rat) (g:List (List Rat)) (e:List Rat):VV:=(CA aS b g e).cS 0
theorem WC {q:Rat} (h:0≤q):decide (0<q) = !decide (q=0):=by
 by_cases hz:q=0
 ·rw[decide_eq_true hz,hz];rfl
 ·rw[decide_eq_false hz,decide_eq_true (by grind)];rfl
set_option maxHeartbeats 2000000 in
theorem ajS (hn:n≤1000000) (hi:i<n) (xI:st.length=n) (mA:row.length=n) (hgr:g[i]? = some row) (lQ:∀q∈row,0≤q) {r:Int} {ρ:cV} {Q:VQ} (g0:ρ 0=svP b g e) (g3:ρ 3=VI n) (g4:ρ 4 = .ref 0 0 0 n n) (g5:ρ 5=VI r) (g6:ρ 6=VI i) (g7:ρ 7=VI 0)
  (hQ:∀aP,aP 0=svP b g e→aP 3=VI n→aP 4 = .ref 0 0 0 n n→aP 5=VI r→aP 6=VI i→Q .normal aP [uJ (QV row i st n)]) :
  VW ⟨true,false⟩ 0 (.loop dZ) (tL 4 Q) ρ [uJ st]:=by
 refine aN (fun(j:Nat) aP H=>j≤n∧H=[uJ (QV row i st j)]∧aP 0=svP b g e∧aP 3=VI n∧aP 4 = .ref 0 0 0 n n∧aP 5=VI r∧aP 6=VI i∧aP 7=VI j) (fun j=>n-j) 0 ⟨aLI _,rfl,g0,g3,g4,g5,g6,g7⟩ ?_
 clear g0 g3 g4 g5 g6 g7
 rintro j aP H ⟨hj,rfl,g0,g3,g4,g5,g6,g7⟩
 have hl:(QV row i st j).length=n:=by rw[Si,xI]
 have Cd:QV row i st (j+1)=orJ row i (QV row i st j) j:=rZ
 generalize hs:QV row i st j=s at *
 by_cases bX:(j:Int)<(n:Int)
 ·have DY:j<n:=by omega
  obtain⟨q,hq⟩:∃q,row[j]? = some q:=⟨_,aLl (by omega)⟩
  have wi:IntKind.i64.wrap ((j:Int)+1)=((j+1:Nat):Int):=wrapN (j+1) (by omega) (by omega)
  have e2:=rK q
  have hpz:=WC (lQ q (aL8 hq))
  have a1:=fun K=>yB (st:=s) (n:=n) hi K
  have a2:=fun K=>yD (st:=s) (i:=i) (by omega) K
  have a3:=fun K=>yB (st:=s) (n:=n) DY K
  have a4:=fun K=>yD (st:=s) (i:=j) (by omega) K
  have a5:=fun v K=>Ej (st:=s) (i:=i) (by omega) v K
  have a6:=fun H=>aF (f:=aC aS) (t := .op) (H:=H) (size:=1) (k := .i64) hgr rfl
  have a7:=fun H=>aF (f:=aS) (t := .op) (H:=H) (size:=3) (k := .i64) hq rfl
  have qB:∀v:Bool,v=(s.getD i false||(decide (0<q)&&s.getD j false))→s.set i v=QV row i st (j+1):=by
   intro v hv
   rw[Cd,orJ,hv,aLb (l:=row),hq,aOc]
  cases Yx:s.getD i false with
  |
   true =>
   rw[Yx] at a2
   simp only[dZ,CA,g0,g3,g4,g6,g7,bX,a1,a2,a5,wi,eO,VX,Nat.reduceEqDiff,Nat.reduceAdd,Nat.reduceLeDiff,Nat.reduceLT,Nat.reduceSub]
   exact⟨j+1,by omega,by omega,by rw[←qB true (by rw[Yx];rfl)],by (repeat' apply aMU)<;>first | rfl | trivial | assumption⟩
  |
   false =>
   rw[Yx] at a2
   cases hsj:s.getD j false with
   |
    false =>
    rw[hsj] at a4
    simp only[dZ,CA,g0,g3,g4,g6,g7,bX,a1,a2,a3,a4,a5,wi,eO,VX,Nat.reduceEqDiff,Nat.reduceAdd,Nat.reduceLeDiff,Nat.reduceLT,Nat.reduceSub]
    exact⟨j+1,by omega,by omega,by rw[←qB false (by rw[Yx,hsj,Bool.and_false];rfl)],by (repeat' apply aMU)<;>first | rfl | trivial | assumption⟩
   |
    true =>
    rw[hsj] at a4
    by_cases hz:q=0
    ·rw[decide_eq_true hz] at e2 hpz
     simp only[dZ,CA,g0,g3,g4,g6,g7,bX,a1,a2,a3,a4,a5,a6,a7,e2,wi,dV,cF,aMM,aLy,aMY,eO,VX,Nat.reduceEqDiff,Nat.reduceAdd,Nat.reduceLeDiff,Nat.reduceLT,Nat.reduceSub]
     exact⟨j+1,by omega,by omega,by rw[←qB false (by rw[Yx,hpz];rfl)],by (repeat' apply aMU)<;>first | rfl | trivial | assumption⟩
    ·rw[decide_eq_false hz] at e2 hpz
     simp only[dZ,CA,g0,g3,g4,g6,g7,bX,a1,a2,a3,a4,a5,a6,a7,e2,wi,dV,cF,aMM,aLy,aMY,eO,VX,Nat.reduceEqDiff,Nat.reduceAdd,Nat.reduceLeDiff,Nat.reduceLT,Nat.reduceSub]
     exact⟨j+1,by omega,by omega,by rw[←qB true (by rw[Yx,hsj,hpz];rfl)],by (repeat' apply aMU)<;>first | rfl | trivial | assumption⟩
 ·have Wa:j=n:=by omega
  subst Wa
  subst hs
  simp only[dZ,g3,g7,bX,eO,VX,Nat.reduceEqDiff,Nat.reduceAdd,Nat.reduceLeDiff,Nat.reduceLT,Nat.reduceSub]
  refine hQ _ ?_ ?_ ?_ ?_ ?_<;>first | exact g0 | exact g3 | exact g4 | exact g5 | exact g6 | rfl
set_option maxHeartbeats 2000000 in
theorem amM (hn:n≤1000000) (xI:st.length=n) (hg:g.length=n) (hgr:∀w∈g,w.length=n∧∀q∈w,0≤q) (he:e.length=n) (hep:∀q∈e,0≤q) {r:Int} {ρ:cV} {Q:VQ} (g0:ρ 0=svP b g e) (g3:ρ 3=VI n) (g4:ρ 4 = .ref 0 0 0 n n) (g5:ρ 5=VI r) (g6:ρ 6=VI 0)
  (hQ:∀aP,aP 0=svP b g e→aP 3=VI n→aP 4 = .ref 0 0 0 n n→aP 5=VI r→Q .normal aP [uJ (mH g e n st n)]) :
  VW ⟨true,false⟩ 0 (.loop iL) (tL 2 Q) ρ [uJ st]:=by
 refine aN (fun(i:Nat) aP H=>i≤n∧H=[uJ (mH g e n st i)]∧aP 0=svP b g e∧aP 3=VI n∧aP 4 = .ref 0 0 0 n n∧aP 5=VI r∧aP 6=VI i) (fun i=>n-i) 0 ⟨aLI _,rfl,g0,g3,g4,g5,g6⟩ ?_
 clear g0 g3 g4 g5 g6
 rintro i aP H ⟨hi,rfl,g0,g3,g4,g5,g6⟩
 have hl:(mH g e n st i).length=n:=by rw[II,xI]
 have Cd:mH g e n st (i+1)=Mv g e n (mH g e n st i) i:=rZ
 generalize hs:mH g e n st i=s at *
 by_cases bX:(i:Int)<(n:Int)
 ·have DY:i<n:=by omega
  obtain⟨q,hq⟩:∃q,e[i]? = some q:=⟨_,aLl (by omega)⟩
  obtain⟨row,hr⟩:∃row,g[i]? = some row:=⟨_,aLl (by omega)⟩
  have B7:=hgr row (aL8 hr)
  have wi:IntKind.i64.wrap ((i:Int)+1)=((i+1:Nat):Int):=wrapN (i+1) (by omega) (by omega)
  have e2:=rK q
  have hpz:=WC (hep q (aL8 hq))
  have a1:=fun K=>yB (st:=s) (n:=n) DY K
  have a2:=fun K=>yD (st:=s) (i:=i) (by omega) K
  have a5:=fun v K=>Ej (st:=s) (i:=i) (by omega) v K
  have a7:=fun H=>aF (f:=aS) (t := .op) (H:=H) (size:=3) (k := .i64) hq rfl
  have qB:∀v:Bool,v=(s.getD i false||decide (0<q))→QV row i (s.set i v) n=mH g e n st (i+1):=by
   intro v hv
   rw[Cd,Mv,hv,aLb (l:=g),hr,aOc,aLb (l:=e),hq,aOc]
  have post:∀(v:Bool) (tU:cV),v=(s.getD i false||decide (0<q))→tU 0=svP b g e→tU 3=VI n→tU 4 = .ref 0 0 0 n n→tU 5=VI r→tU 6=VI i→tU 7=VI 0 →
    ∀(Q':VQ),(∀wJ,wJ 0=svP b g e→wJ 3=VI n→wJ 4 = .ref 0 0 0 n n→wJ 5=VI r→wJ 6=VI i→Q' .normal wJ [uJ (mH g e n st (i+1))])→VW ⟨true,false⟩ 0 (.loop dZ) (tL 4 Q') tU [uJ (s.set i v)]:=by
   intro v tU hv k0 k3 k4 k5 k6 k7 Q' hQ'
   refine ajS hn DY (by rw[List.length_set,hl]) B7.1 hr B7.2 k0 k3 k4 k5 k6 k7 fun wJ m0 m3 m4 m5 m6 => ?_
   rw[qB v hv]
   exact hQ' wJ m0 m3 m4 m5 m6
  cases Yx:s.getD i false with
  |
   true =>
   rw[Yx] at a2 post
   simp only[iL,CA,g0,g3,g4,g6,bX,a1,a2,a5,eO,VX,Nat.reduceEqDiff,Nat.reduceAdd,Nat.reduceLeDiff,Nat.reduceLT,Nat.reduceSub]
   refine post true _ (by simp) ?_ ?_ ?_ ?_ ?_ ?_ _ fun wJ m0 m3 m4 m5 m6 => ?_
   all_goals first | exact g0 | exact g3 | exact g4 | exact g5 | exact g6 | rfl | skip
   simp only[m6,wi,eO,VX,Nat.reduceEqDiff,Nat.reduceAdd,Nat.reduceLeDiff,Nat.reduceLT,Nat.reduceSub]
   exact⟨i+1,by omega,by omega,by (repeat' apply aMU)<;>first | rfl | trivial | assumption⟩
  |
   false =>
   rw[Yx] at a2 post
   by_cases hz:q=0
   ·rw[decide_eq_true hz] at e2 hpz
    simp only[iL,CA,g0,g3,g4,g6,bX,a1,a2,a5,a7,e2,dV,cF,aMM,aLy,aMY,eO,VX,Nat.reduceEqDiff,Nat.reduceAdd,Nat.reduceLeDiff,Nat.reduceLT,Nat.reduceSub]
    refine post false _ (by rw[hpz];rfl) ?_ ?_ ?_ ?_ ?_ ?_ _ fun wJ m0 m3 m4 m5 m6 => ?_
    all_goals first | exact g0 | exact g3 | exact g4 | exact g5 | exact g6 | rfl | skip
    simp only[m6,wi,eO,VX,Nat.reduceEqDiff,Nat.reduceAdd,Nat.reduceLeDiff,Nat.reduceLT,Nat.reduceSub]
    exact⟨i+1,by omega,by omega,by (repeat' apply aMU)<;>first | rfl | trivial | assumption⟩
   ·rw[decide_eq_false hz] at e2 hpz
    simp only[iL,CA,g0,g3,g4,g6,bX,a1,a2,a5,a7,e2,dV,cF,aMM,aLy,aMY,eO,VX,Nat.reduceEqDiff,Nat.reduceAdd,Nat.reduceLeDiff,Nat.reduceLT,Nat.reduceSub]
    refine post true _ (by rw[hpz];rfl) ?_ ?_ ?_ ?_ ?_ ?_ _ fun wJ m0 m3 m4 m5 m6 => ?_
    all_goals first | exact g0 | exact g3 | exact g4 | exact g5 | exact g6 | rfl | skip
    simp only[m6,wi,eO,VX,Nat.reduceEqDiff,Nat.reduceAdd,Nat.reduceLeDiff,Nat.reduceLT,Nat.reduceSub]
    exact⟨i+1,by omega,by omega,by (repeat' apply aMU)<;>first | rfl | trivial | assumption⟩
 ·have mZ:i=n:=by omega
  subst mZ
  subst hs
  simp only[iL,g3,g6,bX,eO,VX,Nat.reduceEqDiff,Nat.reduceAdd,Nat.reduceLeDiff,Nat.reduceLT,Nat.reduceSub]
  refine hQ _ ?_ ?_ ?_ ?_<;>first | exact g0 | exact g3 | exact g4 | exact g5 | rfl
theorem U8 (b:List Rat) (g:List (List Rat)) (e:List Rat):aY (svP b g e)=true:=afJ b g e
set_option maxHeartbeats 1000000 in
theorem Ip (hn:n≤1000000) (hb:b.length=n) (hg:g.length=n) (hgr:∀w∈g,w.length=n∧∀q∈w,0≤q) (he:e.length=n) (hep:∀q∈e,0≤q):TC 166 [svP b g e] (VB ((oS g e n n).all id)):=by
 refine TC.walk ⟨true,false⟩ HU rfl (aM2 rfl) (Lx (U8 b g e)) rfl ?_
 have e0:∀H,BR [.bool false] 1 (VI n) (VI n) H=some (.ref H.length 0 0 n n,H++[uJ (aL4 n false)]):=fun H=>nX (f:=fun b=>VB b) rfl (by omega) (by omega)
 have xR:((b.length:Nat):Int)=(n:Int):=by omega
 simp only[Dy,AV,CA,xR,e0,dV,aMM,aLy,aMY,aMw,aMR,eO,VX,Nat.reduceEqDiff,Nat.reduceAdd,Nat.reduceLeDiff,Nat.reduceLT,Nat.reduceSub]
 refine aN (fun(i:Nat) aP H=>i≤n∧H=[uJ (oS g e n i)]∧aP 0=svP b g e∧aP 3=VI n∧aP 4 = .ref 0 0 0 n n∧aP 5=VI i) (fun i=>n-i) 0 ⟨aLI _,rfl,rfl,rfl,rfl,rfl⟩ ?_
 rintro i aP H ⟨hi,rfl,g0,g3,g4,g5⟩
 have hl:=BD g e n i
 have Cd:oS g e n (i+1)=mH g e n (oS g e n i) n:=rZ
 by_cases bX:(i:Int)<(n:Int)
 ·have wi:IntKind.i64.wrap ((i:Int)+1)=((i+1:Nat):Int):=wrapN (i+1) (by omega) (by omega)
  simp only[tI,g3,g5,bX,eO,VX,Nat.reduceEqDiff,Nat.reduceAdd,Nat.reduceLeDiff,Nat.reduceLT,Nat.reduceSub]
  refine amM (r:=(i:Int)) (b:=b) hn hl hg hgr he hep ?_ ?_ ?_ ?_ ?_ fun wJ m0 m3 m4 m5 => ?_
  all_goals first | exact g0 | exact g3 | exact g4 | exact g5 | rfl | skip
  simp only[m5,wi,eO,VX,Nat.reduceEqDiff,Nat.reduceAdd,Nat.reduceLeDiff,Nat.reduceLT,Nat.reduceSub]
  exact⟨i+1,by omega,by omega,by rw[Cd],by (repeat' apply aMU)<;>first | rfl | trivial | assumption⟩
 ·have mZ:i=n:=by omega
  subst mZ
  simp only[tI,g3,g5,bX,eO,VX,Nat.reduceEqDiff,Nat.reduceAdd,Nat.reduceLeDiff,Nat.reduceLT,Nat.reduceSub]
  generalize oS g e i i=s at *
  refine aN (fun(j:Nat) aP H=>j≤i∧H=[uJ s]∧(∀x∈s.take j,x=true)∧aP 3=VI i∧aP 4 = .ref 0 0 0 i i∧aP 8=VI j) (fun j=>i-j) 0 ⟨aLI _,rfl,by simp,by simp only[eO,VX,Nat.reduceEqDiff,Nat.reduceAdd,Nat.reduceLeDiff,Nat.reduceLT,Nat.reduceSub];exact g3,by simp only[eO,VX,Nat.reduceEqDiff,Nat.reduceAdd,Nat.reduceLeDiff,Nat.reduceLT,Nat.reduceSub];exact g4,rfl⟩ ?_
  clear g0 g3 g4 g5 bX
  rintro j aP H ⟨hj,rfl,ht,g3,g4,g8⟩
  by_cases bX:(j:Int)<(i:Int)
  ·have Ea:j<i:=by omega
   have wj:IntKind.i64.wrap ((j:Int)+1)=((j+1:Nat):Int):=wrapN (j+1) (by omega) (by omega)
   have a3:=fun K=>yB (st:=s) (n:=i) Ea K
   have a4:=fun K=>yD (st:=s) (i:=j) (by omega) K
   obtain⟨x,hx⟩:∃x,s[j]? = some x:=⟨_,aLl (by omega)⟩
   have hxd:s.getD j false=x:=by rw[aLb,hx];rfl
   rw[hxd] at a4
   cases x with
   |
    false =>
    have:s.all id=false:=by
     cases h:s.all id with
     | false=>rfl
     | true=>exact absurd (List.all_eq_true.1 h false (aL8 hx)) (by decide)
    rw[this]
    simp only[nK,g3,g4,g8,bX,a3,a4,aOK,eO,VX,Nat.reduceEqDiff,Nat.reduceAdd,Nat.reduceLeDiff,Nat.reduceLT,Nat.reduceSub]
    exact aK rfl
   |
    true =>
    simp only[nK,g3,g4,g8,bX,a3,a4,wj,aOJ,eO,VX,Nat.reduceEqDiff,Nat.reduceAdd,Nat.reduceLeDiff,Nat.reduceLT,Nat.reduceSub]
    refine⟨j+1,by omega,by omega,fun y hy => ?_,by (repeat' apply aMU)<;>first | rfl | trivial | assumption⟩
    rw[sZ hx] at hy
    rcases List.mem_append.1 hy with h | h
    ·exact ht y h
    ·rw[List.mem_singleton] at h
     exact h
  ·have Wa:j=i:=by omega
   subst Wa
   have:s.all id=true:=by
    rw[List.take_of_length_le (by omega)] at ht
    exact List.all_eq_true.2 ht
   rw[this]
   simp only[nK,g3,g8,bX,eO,VX,Nat.reduceEqDiff,Nat.reduceAdd,Nat.reduceLeDiff,Nat.reduceLT,Nat.reduceSub]
   exact aK rfl
end
def C0 (c:List (List ByteArray)):Nat→List (List Rat)
 | 0=>[]
 |
  i+1=>match iT c i,iK c.length i (c.getD i []) with
  | some out,some r=>out++[r]
  | some out,none=>out
  | none,_=>C0 c i
theorem VO {c:List (List ByteArray)} {i:Nat} {out:List (List Rat)} (h:iT c i=some out) (hr:iK c.length i (c.getD i [])=none):∀j,i+1≤j→C0 c j=out:=by
 have hn:iT c (i+1)=none:=by rw[iT,h,hr]
 intro j hj
 induction j with
 | zero=>omega
 |
  succ j ih =>
  by_cases he:i=j
  ·subst he
   rw[C0,h,hr]
  ·rw[C0,DX hn j (by omega)]
   exact ih (by omega)
def KX (s:rV):List (List Rat):=if (1≤s.b.length∧s.b.length≤6)∧s.g.length=s.b.length∧s.e.length=s.b.length then
  match mT s.b,tC s.e with
  | some _,some r=>if (r.any fun q=>decide (q<0))=false then C0 s.g s.b.length else []
  | _,_=>[]
 else []
def Lf (s:rV):VV:=match dN s with
 | some x => .eH [CA aS x.1 x.2.1 x.2.2,VB (B2 x)]
 | none => .eH [.agg [.tree [] .op,aC (aC aS) (KX s),.tree [] .op],VB false]
theorem Wd (b:List Rat) (g:List (List Rat)) (e:List Rat):gV (CA aS b g e)=true:=by
 show rE [aC aS b,aC (aC aS) g,aC aS e]=true
 simp only[rE,Gx,alB,Bool.and_self]
theorem ahR (s:rV):gV (Lf s)=true:=by
 unfold Lf
 split
 ·exact zU (Wd _ _ _) rfl
 ·exact zU (Wd [] _ []) rfl
end Go.PM
namespace Go.PM
open Go.Lib
theorem Nu {out:List (List Rat)} (h:out.length=0) (K:aA):PM.fz 6 K (.tree [] .nil)=some (aC (aC aS) out):=by
 have ho:out=[]:=aOn.1 h
 subst ho
 exact Ch
theorem NK {out:List (List Rat)} {i:Nat} {X Y:eR} (h:out.length=i+1):PM.fz 6 [X,Y,.row i (out.map (aC aS)) 1 true] (.ref 2 i 0 (i+1) (i+1))=some (aC (aC aS) out):=by
 have:=Gf (d:=4) (c:=i+1) (b:=2) (g:=i) (e:=1) (w:=true) (H:=[X,Y,.row i (out.map (aC aS)) 1 true]) (rN ·) (by rw[cL,cL,aQ]) (by omega)
 rw[h] at this
 exact this
def Y1 (i:Nat) (out:List (List Rat)):aA:=match i with
 | 0=>[dI,dI]
 | i+1=>[dI,.row 0 [.agg [.tree [] .nil,.ref 2 i 0 (i+1) (i+1),.tree [] .nil]] 3 true,.row i (out.map (aC aS)) 1 true]
theorem UU {H:aA} {u v:VV} (h:PM.fz 6 H u=some v):PM.fz depth H (.eH [.agg [.tree [] .nil,u,.tree [] .nil],VB false])=some (.eH [.agg [.tree [] .op,v,.tree [] .op],VB false]):=by
 refine bN (d:=6) (Gv (d:=5) ?_) (aM (v:=VB false) rfl)
 rw[aMB,Ch,aMB,h,aMB,Ch]
 rfl
set_option maxHeartbeats 4000000 in
set_option maxRecDepth 20000 in
theorem EF (s:rV) (hb:LR s):TC 109 [(tX s).cS 0] (Lf s):=by
 refine TC.walk ⟨true,false⟩ Nb rfl (aM2 rfl) (Lx (show aY (tX s)=true from jN _)) (ahR _) ?_
 have yW:=hb.b4
 have hel:=hb.e4
 have bad:dN s=none→KX s=[]→∀K,PM.fz depth K (.eH [.agg [.tree [] .nil,.tree [] .nil,.tree [] .nil],VB false])=some (Lf s):=fun h hp K=>by
  have:Lf s = .eH [.agg [.tree [] .op,.tree [] .op,.tree [] .op],VB false]:=by unfold Lf;rw[h,hp];rfl
  rw[this]
  exact UU Ch
 have XL:bM 0 3 (.ptr 1 0 0 0) (.agg [.tree [] .nil,.tree [] .nil,.tree [] .nil]) [dI,dI]=some [dI,dI]:=by
  rw[bS (e:=3) (g:=0) (j:=0) (cL.trans aQ) (by exact aOo) (by omega) rfl rfl]
  rfl
 have IW:bM 0 3 (.ptr 0 0 0 0) (.agg [.tree [] .nil,.tree [] .nil,.tree [] .nil]) [dI,dI]=some [dI,dI]:=by
  rw[bS (e:=3) (g:=0) (j:=0) aQ (by exact aOo) (aLe _) rfl rfl]
  rfl
 have Ti:bG true 3 (.ptr 0 0 0 0) [dI,dI]=some (.agg [.tree [] .nil,.tree [] .nil,.tree [] .nil]):=rfl
 have TV:bG true 3 (.ptr 1 0 0 0) [dI,dI]=some (.agg [.tree [] .nil,.tree [] .nil,.tree [] .nil]):=rfl
 by_cases h1:(s.b.length:Int)<1
 ·have bad:=bad (by unfold dN;exact if_neg (by omega)) (by unfold KX;exact if_neg (by omega))
  simp only[fU,dT,tX,h1,IW,XL,Ti,TV,dV,aLy,aMY,aMM,aMw,aMR,aME,aLo,eO,VX,Nat.reduceEqDiff,Nat.reduceAdd,Nat.reduceLeDiff,Nat.reduceLT,Nat.reduceSub]
  exact bad _
 by_cases h6:(6:Int)<(s.b.length:Int)
 ·have bad:=bad (by unfold dN;exact if_neg (by omega)) (by unfold KX;exact if_neg (by omega))
  simp only[fU,dT,tX,h1,h6,IW,XL,Ti,TV,dV,aLy,aMY,aMM,aMw,aMR,aME,aLo,eO,VX,Nat.reduceEqDiff,Nat.reduceAdd,Nat.reduceLeDiff,Nat.reduceLT,Nat.reduceSub]
  exact bad _
 by_cases hg:(s.g.length:Int)=(s.b.length:Int)
 case neg =>
  have bad:=bad (by unfold dN;exact if_neg (by omega)) (by unfold KX;exact if_neg (by omega))
  simp only[fU,dT,tX,h1,h6,hg,IW,XL,Ti,TV,dV,aLy,aMY,aMM,aMw,aMR,aME,aLo,ne_eq,not_false_eq_true,decide_true,eO,VX,Nat.reduceEqDiff,Nat.reduceAdd,Nat.reduceLeDiff,Nat.reduceLT,Nat.reduceSub]
  exact bad _
 by_cases he:(s.e.length:Int)=(s.b.length:Int)
 case neg =>
  have bad:=bad (by unfold dN;exact if_neg (by omega)) (by unfold KX;exact if_neg (by omega))
  simp only[fU,dT,tX,h1,h6,hg,he,IW,XL,Ti,TV,dV,aLy,aMY,aMM,aMw,aMR,aME,aLo,ne_eq,not_false_eq_true,not_true_eq_false,decide_true,decide_false,eO,VX,Nat.reduceEqDiff,Nat.reduceAdd,Nat.reduceLeDiff,Nat.reduceLT,Nat.reduceSub]
  exact bad _
 have uX:(1≤s.b.length∧s.b.length≤6)∧s.g.length=s.b.length∧s.e.length=s.b.length:=by omega
 have e1:=Bq s.b (by omega) hb.bs
 have e2:=Bq s.e (by omega) hb.es
 cases hwr:tC s.b with
 |
  none =>
  rw[hwr,Eg] at e1
  have hw:=Mr hwr
  have bad:=bad (by unfold dN;rw[if_pos uX,hw]) (by unfold KX;rw[if_pos uX,hw])
  cases hr:tC s.e with
  |
   none =>
   rw[hr,Eg] at e2
   simp only[fU,dT,tX,h1,h6,hg,he,e1,e2,IW,XL,Ti,TV,dV,aLy,aMY,aMM,aMw,aMR,aME,aLo,ne_eq,not_true_eq_false,decide_false,eO,VX,Nat.reduceEqDiff,Nat.reduceAdd,Nat.reduceLeDiff,Nat.reduceLT,Nat.reduceSub]
   exact bad _
  |
   some r =>
   rw[hr,D0] at e2
   simp only[fU,dT,tX,h1,h6,hg,he,e1,e2,IW,XL,Ti,TV,dV,aLy,aMY,aMM,aMw,aMR,aME,aLo,ne_eq,not_true_eq_false,decide_false,eO,VX,Nat.reduceEqDiff,Nat.reduceAdd,Nat.reduceLeDiff,Nat.reduceLT,Nat.reduceSub]
   exact bad _
 |
  some w =>
  rw[hwr,D0] at e1
  obtain⟨hwb,hwl,_⟩:=mY hwr
  have Rj:=JI w hwb hwl
  cases hr:tC s.e with
  |
   none =>
   rw[hr,Eg] at e2
   have bad:=bad (by unfold dN;rw[if_pos uX,hr];cases mT s.b<;>rfl) (by unfold KX;rw[if_pos uX,hr];cases mT s.b<;>rfl)
   simp only[fU,dT,tX,h1,h6,hg,he,e1,e2,IW,XL,Ti,TV,dV,aLy,aMY,aMM,aMw,aMR,aME,aLo,ne_eq,not_true_eq_false,decide_false,eO,VX,Nat.reduceEqDiff,Nat.reduceAdd,Nat.reduceLeDiff,Nat.reduceLT,Nat.reduceSub]
   exact bad _
  |
   some r =>
   rw[hr,D0] at e2
   obtain⟨BW,B7,aeM⟩:=mY hr
   cases hww:jT w with
   |
    false =>
    rw[hww] at Rj
    have hw:mT s.b=none:=by rw[Fp hwr,if_neg (by simp[hww])]
    have bad:=bad (by unfold dN;rw[if_pos uX,hw]) (by unfold KX;rw[if_pos uX,hw])
    simp only[fU,dT,tX,h1,h6,hg,he,e1,Rj,e2,IW,XL,Ti,TV,dV,aLy,aMY,aMM,aMw,aMR,aME,aLo,ne_eq,not_true_eq_false,decide_false,eO,VX,Nat.reduceEqDiff,Nat.reduceAdd,Nat.reduceLeDiff,Nat.reduceLT,Nat.reduceSub]
    exact bad _
   |
    true =>
    rw[hww] at Rj
    have hw:mT s.b=some w:=by rw[Fp hwr,if_pos hww]
    have e3:=vF r (by omega)
    cases Ai:r.any (fun q=>decide (q<0)) with
    |
     true =>
     rw[Ai] at e3
     have bad:=bad (by unfold dN;rw[if_pos uX,hw,hr];exact if_neg (by rw[Ai];decide)) (by unfold KX;rw[if_pos uX,hw,hr];exact if_neg (by rw[Ai];decide))
     simp only[fU,dT,tX,h1,h6,hg,he,e1,Rj,e2,e3,IW,XL,Ti,TV,dV,aLy,aMY,aMM,aMw,aMR,aME,aLo,aOJ,ne_eq,not_true_eq_false,decide_false,eO,VX,Nat.reduceEqDiff,Nat.reduceAdd,Nat.reduceLeDiff,Nat.reduceLT,Nat.reduceSub]
     exact bad _
    |
     false =>
     rw[Ai] at e3
     have Cw:dN s=(iT s.g s.b.length).map fun m=>(w,m,r):=by unfold dN;rw[if_pos uX,hw,hr];exact if_pos Ai
     have CW:KX s=C0 s.g s.b.length:=by unfold KX;rw[if_pos uX,hw,hr];exact if_pos Ai
     clear bad
     simp only[fU,dT,tX,h1,h6,hg,he,e1,Rj,e2,e3,XL,dV,aLy,aMY,aMM,aMw,aMR,aME,aLo,aOK,aOJ,ne_eq,not_true_eq_false,decide_false,eO,VX,Nat.reduceEqDiff,Nat.reduceAdd,Nat.reduceLeDiff,Nat.reduceLT,Nat.reduceSub]
     refine aN (fun(i:Nat) ρ H=>i≤s.b.length∧(∃out,iT s.g i=some out∧H=Y1 i out)∧ρ 0=(tX s).cS 0∧ρ 2 = .ptr 0 0 0 0∧ρ 4=VI s.b.length∧ρ 5 = .ptr 1 0 0 0∧ρ 6=aC aS w∧ρ 8=aC aS r∧ρ 10=VI i) (fun i=>s.b.length-i) 0
      ⟨aLI _,⟨[],rfl,rfl⟩,by (repeat' apply aMU)<;>first | rfl | trivial | assumption⟩ ?_
     rintro i ρ H ⟨hi,⟨out,wZ,rfl⟩,g0,g2,g4,g5,g6,g8,g10⟩
     obtain⟨hJ,hof⟩:=uG wZ
     by_cases bX:(i:Int)<(s.b.length:Int)
     ·obtain⟨x,hx⟩:∃x,s.g[i]? = some x:=⟨_,aLl (by omega)⟩
      have hxm:=aL8 hx
      have hgd:s.g.getD i []=x:=by rw[aLb,hx];rfl
      have a1:=fun H=>aF (f:=gJ) (t := .op) (H:=H) (size:=1) (k := .i64) hx rfl
      have wi:IntKind.i64.wrap ((i:Int)+1)=((i+1:Nat):Int):=wrapN (i+1) (by omega) (by omega)
      have e4:=Bq x (hb.g9.2 x hxm) (hb.gs x hxm)
      have xI:iT s.g (i+1)=match iK s.g.length i x with | some q=>some (out++[q]) | none=>none:=by
       rw[iT,wZ,hgd]
       cases iK s.g.length i x<;>rfl
      have bad:iK s.g.length i x=none→∀(u:VV) (K:aA),PM.fz 6 K u=some (aC (aC aS) out)→PM.fz depth K (.eH [.agg [.tree [] .nil,u,.tree [] .nil],VB false])=some (Lf s):=fun h u K hK=>by
       have hp:Lf s = .eH [.agg [.tree [] .op,aC (aC aS) out,.tree [] .op],VB false]:=by
        have h1:dN s=none:=by
         rw[h] at xI
         rw[Cw,DX xI s.b.length (by omega)]
         rfl
        unfold Lf
        rw[h1,CW,VO wZ (by rw[hgd];exact h) s.b.length (by omega)]
       rw[hp]
       exact UU hK
      cases HS:tC x with
      |
       none =>
       rw[HS,Eg] at e4
       have bd:=bad (by unfold iK;rw[HS])
       cases i with
       |
        zero =>
        simp only[dA,Y1,tX,g0,g2,g4,g5,g10,bX,a1,e4,dV,gC,Nat.reduceLeDiff,Nat.reduceLT,Nat.reduceSub,mX,cA,cM,gB,lB,pT,bne_iff_ne,ne_eq,not_false_eq_true,not_true_eq_false,VX,Nat.reduceEqDiff,Nat.reduceAdd]
        exact bd _ _ (Nu hJ _)
       |
        succ i =>
        simp only[dA,Y1,tX,g0,g2,g4,g5,g10,bX,a1,e4,dV,gC,Nat.reduceLeDiff,Nat.reduceLT,Nat.reduceSub,mX,cA,cM,gB,lB,pT,bne_iff_ne,ne_eq,not_false_eq_true,not_true_eq_false,VX,Nat.reduceEqDiff,Nat.reduceAdd]
        exact bd _ _ (NK hJ)
      |
       some y =>
       rw[HS,D0] at e4
       obtain⟨hyb,hyl,_⟩:=mY HS
       by_cases hl:(y.length:Int)=(s.b.length:Int)
       case neg =>
        have bd:=bad (by unfold iK;rw[HS];exact if_neg (fun h=>hl (by omega)))
        cases i with
        |
         zero =>
         simp only[dA,Y1,tX,g0,g2,g4,g5,g10,bX,a1,e4,hl,dV,ne_eq,not_false_eq_true,decide_true,gC,Nat.reduceLeDiff,Nat.reduceLT,Nat.reduceSub,mX,cA,cM,gB,lB,pT,bne_iff_ne,ne_eq,not_false_eq_true,not_true_eq_false,VX,Nat.reduceEqDiff,Nat.reduceAdd]
         exact bd _ _ (Nu hJ _)
        |
         succ i =>
         simp only[dA,Y1,tX,g0,g2,g4,g5,g10,bX,a1,e4,hl,dV,ne_eq,not_false_eq_true,decide_true,gC,Nat.reduceLeDiff,Nat.reduceLT,Nat.reduceSub,mX,cA,cM,gB,lB,pT,bne_iff_ne,ne_eq,not_false_eq_true,not_true_eq_false,VX,Nat.reduceEqDiff,Nat.reduceAdd]
         exact bd _ _ (NK hJ)
       have e5:=vF y (by omega)
       cases JQ:y.any (fun q=>decide (q<0)) with
       |
        true =>
        rw[JQ] at e5
        have bd:=bad (by unfold iK;rw[HS];exact if_neg (fun h=>by rw[JQ] at h;cases h.2.1))
        cases i with
        |
         zero =>
         simp only[dA,Y1,tX,g0,g2,g4,g5,g10,bX,a1,e4,e5,hl,dV,aOJ,ne_eq,not_true_eq_false,decide_false,gC,Nat.reduceLeDiff,Nat.reduceLT,Nat.reduceSub,mX,cA,cM,gB,lB,pT,bne_iff_ne,ne_eq,not_false_eq_true,not_true_eq_false,VX,Nat.reduceEqDiff,Nat.reduceAdd]
         exact bd _ _ (Nu hJ _)
        |
         succ i =>
         simp only[dA,Y1,tX,g0,g2,g4,g5,g10,bX,a1,e4,e5,hl,dV,aOJ,ne_eq,not_true_eq_false,decide_false,gC,Nat.reduceLeDiff,Nat.reduceLT,Nat.reduceSub,mX,cA,cM,gB,lB,pT,bne_iff_ne,ne_eq,not_false_eq_true,not_true_eq_false,VX,Nat.reduceEqDiff,Nat.reduceAdd]
         exact bd _ _ (NK hJ)
       |
        false =>
        rw[JQ] at e5
        obtain⟨q,hq⟩:∃q,y[i]? = some q:=⟨_,aLl (by omega)⟩
        have hqd:y.getD i 0=q:=by rw[aLb,hq];rfl
        have a2:=fun H=>aF (f:=aS) (t := .op) (H:=H) (size:=3) (k := .i64) hq rfl
        have e6:=rK q
        by_cases hz:q=0
        case neg =>
         rw[decide_eq_false hz] at e6
         have bd:=bad (by unfold iK;rw[HS];exact if_neg (fun h=>hz (by rw[←hqd];exact h.2.2)))
         cases i with
         |
          zero =>
          simp only[dA,Y1,tX,g0,g2,g4,g5,g10,bX,a1,a2,e4,e5,e6,hl,dV,cF,aOK,ne_eq,not_true_eq_false,decide_false,gC,Nat.reduceLeDiff,Nat.reduceLT,Nat.reduceSub,mX,cA,cM,gB,lB,pT,bne_iff_ne,ne_eq,not_false_eq_true,not_true_eq_false,VX,Nat.reduceEqDiff,Nat.reduceAdd]
          exact bd _ _ (Nu hJ _)
         |
          succ i =>
          simp only[dA,Y1,tX,g0,g2,g4,g5,g10,bX,a1,a2,e4,e5,e6,hl,dV,cF,aOK,ne_eq,not_true_eq_false,decide_false,gC,Nat.reduceLeDiff,Nat.reduceLT,Nat.reduceSub,mX,cA,cM,gB,lB,pT,bne_iff_ne,ne_eq,not_false_eq_true,not_true_eq_false,VX,Nat.reduceEqDiff,Nat.reduceAdd]
          exact bd _ _ (NK hJ)
        rw[decide_eq_true hz] at e6
        have mA:iK s.g.length i x=some y:=by unfold iK;rw[HS];exact if_pos ⟨by omega,JQ,by rw[hqd,hz]⟩
        rw[mA] at xI
        have eL:∀K,nT false [.slice none 0 0] 1 [(0,aC aS y)] K=some (.tree [aC aS y] (.cl 1),K):=fun K=>lO rfl rfl rfl
        have eS:∀K,dG 1 (.tree [aC aS y] (.cl 1)) K=some [aC aS y]:=fun K=>gR rfl rfl
        cases i with
        |
         zero =>
         have ho:out=[]:=aOn.1 hJ
         subst ho
         have eP:∀K:aA,dK 0 1 24 (.tree [] .nil) [aC aS y] K=some (.ref K.length 0 0 1 1,K++[.row 0 [aC aS y] 1 true]):=fun K=>by simp[dK]
         simp only[dA,Y1,tX,g0,g2,g4,g5,g10,bX,a1,a2,e4,e5,e6,hl,eL,eS,eP,wi,dV,cF,aOK,aOJ,ne_eq,not_true_eq_false,decide_false,aLo,aMR,aME,aMw,gC,Nat.reduceLeDiff,Nat.reduceLT,Nat.reduceSub,mX,cA,cM,gB,lB,pT,bne_iff_ne,ne_eq,not_false_eq_true,not_true_eq_false,VX,Nat.reduceEqDiff,Nat.reduceAdd]
         exact⟨1,by omega,by omega,⟨[y],xI,rfl⟩,by (repeat' apply aMU)<;>first | rfl | trivial | assumption⟩
        |
         succ i =>
         have eP:dK 0 1 24 (.ref 2 i 0 (i+1) (i+1)) [aC aS y] (Y1 (i+1) out)=some (.ref 2 (i+1) 0 (i+2) (i+2),[dI,.row 0 [.agg [.tree [] .nil,.ref 2 i 0 (i+1) (i+1),.tree [] .nil]] 3 true,.row (i+1) ((out++[y]).map (aC aS)) 1 true]):=by
          rw[Y1,jK (f:=aC aS) (xs:=out) (by rw[cL,cL,aQ]) hJ.symm (aLI _) (by decide) (by decide) (by omega)]
          rfl
         simp only[Y1] at eP
         simp only[dA,Y1,tX,g0,g2,g4,g5,g10,bX,a1,a2,e4,e5,e6,hl,eL,eS,eP,wi,dV,cF,aOK,aOJ,ne_eq,not_true_eq_false,decide_false,gC,Nat.reduceLeDiff,Nat.reduceLT,Nat.reduceSub,mX,cA,cM,gB,lB,pT,bne_iff_ne,ne_eq,not_false_eq_true,not_true_eq_false,VX,Nat.reduceEqDiff,Nat.reduceAdd]
         exact⟨i+2,by omega,by omega,⟨out++[y],xI,rfl⟩,by (repeat' apply aMU)<;>first | rfl | trivial | assumption⟩
     ·have mZ:i=s.b.length:=by omega
      rw[mZ] at wZ hJ
      obtain⟨k,hk⟩:∃k,s.b.length=k+1:=⟨s.b.length-1,by omega⟩
      have Uj:i=k+1:=by omega
      subst Uj
      have aCH:r.length=s.b.length:=by omega
      have aGv:w.length=s.b.length:=(mY hwr).2.2
      have alI:Lf s = .eH [CA aS w out r,VB (B2 (w,out,r))]:=by unfold Lf;rw[Cw,wZ];rfl
      rw[alI]
      have aCc:∀q∈r,0≤q:=fun q hq=>Rat.not_lt.1 (by have:=List.any_eq_false.1 Ai q hq;simpa using this)
      have hF:=Ip (b:=w) (g:=out) (e:=r) (n:=r.length) (by omega) (by omega) (by omega) (fun z hz=>⟨by have:=(hof z hz).1;omega,fun q hq=>((hof z hz).2 q hq).1⟩) rfl aCc
      have QT:∀Y X:eR,aJ [Y,X,.row k (out.map (aC aS)) 1 true] 2 k=some (out.map (aC aS),1,true):=fun Y X=>by rw[cL,cL,aQ]
      have aiE:=fun Y X=>Gf (d:=4) (c:=k+1) (rN ·) (QT Y X) (by omega)
      rw[hk] at hJ
      rw[hJ] at aiE
      have hfa:∀Y X,PM.fz 7 [Y,X,.row k (out.map (aC aS)) 1 true] (.agg [aC aS w,.ref 2 k 0 (k+1) (k+1),aC aS r])=some (CA aS w out r):=fun Y X=>by
       refine Gv (d:=5) ?_
       rw[aMB,aM (rN w),aMB,aiE,aMB,aM (rN r)]
       rfl
      have Xj:PM.fz depth [dI,.row 0 [.agg [aC aS w,.ref 2 k 0 (k+1) (k+1),aC aS r]] 3 true,.row k (out.map (aC aS)) 1 true] (.ptr 1 0 0 0)=some (svP w out r):=awI (o:=0) (b:=1) (g:=0) (j:=0) (es:=[.agg [aC aS w,.ref 2 k 0 (k+1) (k+1),aC aS r]]) (x := .agg [aC aS w,.ref 2 k 0 (k+1) (k+1),aC aS r]) (x':=CA aS w out r) (cL.trans aQ) rfl (hfa _ _)
      have hE2:=fun lo K=>TC.flat (args:=[.ptr 1 0 0 0]) (mD:=[svP w out r]) hF rfl (Lx (U8 _ _ _)) (fz1 Xj) rfl lo K
      simp only[dA,Y1,g2,g4,g5,g6,g8,g10,bX,hE2,dV,gC,Nat.reduceLeDiff,Nat.reduceLT,Nat.reduceSub,mX,cA,cM,gB,lB,pT,bne_iff_ne,ne_eq,not_false_eq_true,not_true_eq_false,VX,Nat.reduceEqDiff,Nat.reduceAdd]
      exact bN (d:=6) (hfa _ _) (aM (v:=VB _) rfl)
end Go.PM
namespace Go.PM
end Go.PM
namespace Go.PM
theorem xC (q:Rat):(aB (aS q)).all bP=true:=rfl
theorem ZN {H:aA} {b:Nat} {q:Rat} (h:aJ H b 0=some ([aS q],3,true)):bG true 3 (.ptr b 0 0 0) H=some (aS q):=by
 rw[bJ,h]
 exact cF q
end Go.PM
namespace Go.PM
open Go.Lib
section
variable {lo fV hi N b g c:Nat} {H:aA} {L:List Qb}
structure Tq (f:Rat→VV) (lo hi N b g:Nat) (L:List Qb) (H:aA):Prop where
 t:Tb f lo hi N N b g (iV L) H
 b:∀t∈L,aL t.2.2≤1331
 l:L.length≤400
theorem Tq.bits {f:Rat→VV} (h:Tq f lo hi N b g L H) (i j:Nat):aL (iV L i j)≤1000000:=by
 have h1:=N9 h.b i j
 have h2:L.length*(1331+1)≤400*(1331+1):=aLF _ h.l
 omega
theorem Tq.cW {f:Rat→VV} {H':aA} (h:Tq f lo hi N b g L H) (hk:jX lo hi H H'):Tq f lo hi N b g L H':=⟨h.t.cW hk,h.b,h.l⟩
theorem Tq.pre {f:Rat→VV} {H':aA} (h:Tq f lo hi N b g L H) (hh:H <+: H'):Tq f lo hi N b g L H':=h.cW (jX.pre hh)
theorem Tq.snoc {f:Rat→VV} {H':aA} {i j:Nat} {q:Rat} (h:Tq f lo hi N b g L H) (hT:Tb f lo hi N N b g (iV (L++[(i,j,q)])) H') (hq:aL q≤1331) (hl:L.length<400):Tq f lo hi N b g (L++[(i,j,q)]) H' :=
 ⟨hT,fun t ht=>by
  rcases List.mem_append.1 ht with ht | ht
  ·exact h.b t ht
  ·rw[List.mem_singleton] at ht
   subst ht
   exact hq,by rw[aLp];exact hl⟩
theorem Tq.same {f:Rat→VV} {i:Nat} {q:Rat} (h:Tq f lo hi N b g L H) (hq:aL q≤1331) (hl:L.length<400):Tq f lo hi N b g (L++[(i,i,q)]) H:=h.snoc (by rw[YX];exact h.t) hq hl
end
theorem axX {H:aA} {es:List VV} {k:Nat} (hp:aO es=true):PM.fz depth H (.tree es (.cl k))=some (.tree es .op):=by
 have h0:aY (.tree es (.cl k))=false:=by simp[aY]
 show PM.fz (7+1) H _=_
 unfold PM.fz
 simp only[h0,Bool.false_eq_true,if_false]
 rw[mapM_pure (n:=6) hp]
 rfl
theorem abZ {H:aA} {es:List VV} {k:Nat} (hp:aO es=true):iX depth H (.tree es (.cl k))=[]:=by
 have h0:aY (.tree es (.cl k))=false:=by simp[aY]
 show iX (7+1) H _=_
 unfold iX
 simp only[h0,Bool.false_eq_true,if_false]
 exact AH hp
theorem TC.cl {f lo k:Nat} {H:aA} {es:List VV} {r:VV} {K:VV→aA→Prop} (h:TC f [.tree es .op] r) (hr:G5.contains f=false) (hp:aO es=true) (B1:aY (.tree es .op)=true):dP f [.tree es (.cl k)] lo H K=K r H:=by
 have h0:aY (.tree es (.cl k))=false:=by simp[aY]
 rw[h.DM (H:=H) (lo:=lo) (k:=K) hr (Lx B1) (fz1 (axX hp)) (by simp[aO,h0]),List.flatMap_cons,abZ hp]
 split<;>rfl
theorem TabIs.fz {f:Rat→VV} {m:List (List Rat)} {lo hi:Nat} {H:aA} {v:VV} (h:TabIs f 3 m lo hi H v) (hpu:∀x,aY (f x)=true):PM.fz depth H v=some (aC (aC f) m):=by
 obtain⟨b,g,c,rs,rfl,k1,hM,hrs⟩:=h
 have B7:rs.length=m.length:=by rw[←hrs,List.length_map]
 have hfz:=hM.fz (d:=5) (c:=c) (by omega) hpu
 rw[hrs,B7] at hfz
 exact hfz
theorem wN {x:Int} (k:Nat) (h:x=k) (hk:k≤1000000000):IntKind.i64.wrap x=(k:Int):=by
 subst h
 exact wrapN k (by omega) (by omega)
theorem QOk.told {p:Nat×List Qb} (hp:QOk p):(VZ (OD p)).length≤1000000∧∀r∈VZ (OD p),r.length≤1000000∧∀q∈r,aL q≤1099511627776:=by
 have hn:=hp.n
 obtain⟨el,eb⟩:=adP YA (B:=600000) hp.rows (by omega) (by omega)
 exact⟨by omega,fun r hr=>⟨by have:=(eb r hr).1;omega,fun q hq=>by have:=(eb r hr).2 q hq;omega⟩⟩
end Go.PM
namespace Go.PM
open Go.Lib
def Ze (k:Nat) (A:Nat→Nat→Rat) (i a c:Nat):Rat:=if a<i then Hf (M3 k A) k A a c else A a c
def elC (k:Nat) (A:Nat→Nat→Rat) (i j a c:Nat):Rat:=if a=i∧c<j then Hf (M3 k A) k A i c else Ze k A i a c
def elB (k:Nat) (A:Nat→Nat→Rat) (b:Nat→Rat) (i a:Nat):Rat:=if a<i then TY (M3 k A) k b a else b a
def bkR (A:Nat→Nat→Rat) (b X:Nat→Rat) (s i:Nat):Rat:=if s≤i then X i else b i
theorem Rk {k:Nat} {A:Nat→Nat→Rat} {a c:Nat} (h:a≤k):Hf (M3 k A) k A a c=A a c:=by
 unfold Hf M3
 rw[if_neg (by omega),aOL]
 grind
theorem R3 {k:Nat} {A:Nat→Nat→Rat} {b:Nat→Rat} {a:Nat} (h:a≤k):TY (M3 k A) k b a=b a:=by
 unfold TY M3
 rw[if_neg (by omega),aOL]
 grind
theorem aeB {k:Nat} {A:Nat→Nat→Rat} {a c:Nat}:A a c=Ze k A (k+1) a c:=by
 unfold Ze
 split
 ·exact(Rk (by omega)).symm
 ·rfl
theorem abW {k:Nat} {A:Nat→Nat→Rat} {b:Nat→Rat} {a:Nat}:b a=elB k A b (k+1) a:=by
 unfold elB
 split
 ·exact(R3 (by omega)).symm
 ·rfl
section
variable {k i:Nat} {A:Nat→Nat→Rat} {b:Nat→Rat}
theorem TS {c:Nat}:Ze k A i i c=A i c:=if_neg (Nat.lt_irrefl _)
theorem ZL {c:Nat} (h:k<i):Ze k A i k c=A k c:=by
 unfold Ze
 rw[if_pos h,Rk (aLe _)]
theorem auJ:elB k A b i i=b i:=if_neg (Nat.lt_irrefl _)
theorem arS (h:k<i):elB k A b i k=b k:=by
 unfold elB
 rw[if_pos h,R3 (aLe _)]
theorem anM (h:A i k=0) {c:Nat}:Hf (M3 k A) k A i c=A i c:=by
 unfold Hf M3
 split
 ·rw[h,Rat.div_def,aOL,aOL];grind
 ·rw[aOL];grind
theorem ahD (h:A i k=0):TY (M3 k A) k b i=b i:=by
 unfold TY M3
 split
 ·rw[h,Rat.div_def,aOL,aOL];grind
 ·rw[aOL];grind
theorem anZ (h:A i k=0) {a c:Nat}:Ze k A i a c=Ze k A (i+1) a c:=by
 unfold Ze
 by_cases h1:a<i
 ·rw[if_pos h1,if_pos (by omega)]
 ·rw[if_neg h1]
  by_cases h2:a=i
  ·subst h2
   rw[if_pos (by omega),anM h]
  ·rw[if_neg (by omega)]
theorem ajF (h:A i k=0) {a:Nat}:elB k A b i a=elB k A b (i+1) a:=by
 unfold elB
 by_cases h1:a<i
 ·rw[if_pos h1,if_pos (by omega)]
 ·rw[if_neg h1]
  by_cases h2:a=i
  ·subst h2
   rw[if_pos (by omega),ahD h]
  ·rw[if_neg (by omega)]
theorem alK (h:k<i) {c:Nat}:Hf (M3 k A) k A i c=A i c-A i k / A k k*A k c:=by
 unfold Hf M3
 rw[if_pos h]
theorem awP (h:k<i):TY (M3 k A) k b i=b i-A i k / A k k*b k:=by
 unfold TY M3
 rw[if_pos h]
theorem aeO (hz:∀c,c<k→A k c=0) (h:k<i) {a c:Nat}:Ze k A i a c=elC k A i k a c:=by
 unfold elC
 by_cases h1:a=i∧c<k
 ·obtain⟨rfl,h2⟩:=h1
  rw[if_pos ⟨rfl,h2⟩,TS,alK h,hz c h2]
  grind
 ·rw[if_neg h1]
theorem ahU {j a c:Nat}:OH (elC k A i j) i j (Hf (M3 k A) k A i j) a c=elC k A i (j+1) a c:=by
 unfold OH elC
 by_cases h1:a=i∧c=j
 ·obtain⟨rfl,rfl⟩:=h1
  rw[if_pos ⟨rfl,rfl⟩,if_pos ⟨rfl,by omega⟩]
 ·rw[if_neg h1]
  by_cases h2:a=i∧c<j
  ·rw[if_pos h2,if_pos ⟨h2.1,by omega⟩]
  ·rw[if_neg h2,if_neg (by omega)]
theorem atS {n a c:Nat} (hc:c<n):elC k A i n a c=Ze k A (i+1) a c:=by
 unfold elC
 by_cases h1:a=i∧c<n
 ·obtain⟨rfl,_⟩:=h1
  rw[if_pos ⟨rfl,hc⟩]
  unfold Ze
  rw[if_pos (by omega)]
 ·rw[if_neg h1]
  unfold Ze
  by_cases h2:a<i
  ·rw[if_pos h2,if_pos (by omega)]
  ·rw[if_neg h2,if_neg (by omega)]
theorem asO {j:Nat}:elC k A i j i j=A i j:=by
 unfold elC
 rw[if_neg (by omega),TS]
theorem asU {j c:Nat} (h:k<i):elC k A i j k c=A k c:=by
 unfold elC
 rw[if_neg (by omega),ZL h]
theorem aiC {a:Nat}:GZ (elB k A b i) i (TY (M3 k A) k b i) a=elB k A b (i+1) a:=by
 unfold GZ elB
 by_cases h1:a=i
 ·subst h1
  rw[if_pos rfl,if_pos (by omega)]
 ·rw[if_neg h1]
  by_cases h2:a<i
  ·rw[if_pos h2,if_pos (by omega)]
  ·rw[if_neg h2,if_neg (by omega)]
theorem aFS {m:Nat} {a:Nat}:GZ (GZ b k (b m)) m (b k) a=swp k m b a:=by
 unfold GZ swp
 by_cases h1:a=m
 ·subst h1
  rw[if_pos rfl]
  by_cases h2:a=k
  ·subst h2;rw[if_pos rfl]
  ·rw[if_neg h2,if_pos rfl]
 ·rw[if_neg h1]
  by_cases h2:a=k
  ·rw[if_pos h2,if_pos h2]
  ·rw[if_neg h2,if_neg h2,if_neg h1]
end
set_option maxHeartbeats 16000000 in
set_option maxRecDepth 30000 in
theorem Th {lo fV hi n b g c rb rg rc G η:Nat} {H:aA} {A0:Nat→Nat→Rat} {b0 X:Nat→Rat} (hS:Sy aG fV hi n b g rb rg A0 b0 H) (hU:X1 n 0 G A0 b0 X) (hX:dQ η n X) (hn:n≤12) (hG:2^n*(G+1)≤68719476736) (hη:η≤274877906944) (eT:lo≤fV) (BW:lo≤rb) (hlH:lo≤H.length) (hhi:hi≤H.length) (B7:rb<H.length) :
  mB 118 [.ref b g 0 n c,.ref rb rg 0 n rc] lo H fun r H'=>r = .eH [.ref rb rg 0 n rc,VB true]∧DF fV hi rb H H'∧Rw aG rb rg n X H':=by
 refine mB.walk ⟨true,false⟩ Sx (aM2 rfl) ?_
 have el:=hS.t.len (c:=c)
 simp only[N1,I4,el,eO,VX,Nat.reduceEqDiff,Nat.reduceAdd,Nat.reduceLeDiff,Nat.reduceLT,Nat.reduceSub]
 have hgk:∀k,k≤n→gk G k≤68719476736:=fun k hk=>aLf (avB hk) hG
 have wn:∀k:Nat,k≤n→IntKind.i64.wrap ((k:Int)+1)=((k+1:Nat):Int):=fun k hk=>wN _ (by omega) (by omega)
 refine aN (fun(k:Nat) ρ H1=>k≤n∧(∃A bb,X1 n k (gk G k) A bb X∧Sy aG fV hi n b g rb rg A bb H1)∧DF fV hi rb H H1∧ρ 0 = .ref b g 0 n c∧ρ 1 = .ref rb rg 0 n rc∧ρ 6=VI n∧ρ 16=VI n∧ρ 17=VI k) (fun k=>n-k) 0
  ⟨aLI _,⟨A0,b0,hU,hS⟩,DF.refl,by (repeat' apply aMU)<;>first | rfl | trivial | assumption⟩ ?_
 rintro k ρ H1 ⟨hk,⟨A,bb,W4,hS1⟩,hO1,g0,g1,g6,g16,g17⟩
 by_cases Hl:(k:Int)<(n:Int)
 ·
  have oG:k<n:=by omega
  obtain⟨pm,Xj,hp2,hp3⟩:=W4.f.amH oG W4.u
  simp only[CB,g0,g1,g6,g16,g17,Hl,eO,VX,Nat.reduceEqDiff,Nat.reduceAdd,Nat.reduceLeDiff,Nat.reduceLT,Nat.reduceSub]
  refine aN (fun(m:Nat) aP H2=>H2=H1∧k≤m∧m≤n∧(∀r,k≤r→r<m→A r k=0)∧aP 0 = .ref b g 0 n c∧aP 1 = .ref rb rg 0 n rc∧aP 6=VI n∧aP 7=VI k∧aP 8=VI m∧aP 16=VI n∧aP 17=VI k) (fun m=>n-m) k
   ⟨rfl,aLe _,hk,fun r h1 h2=>by omega,by (repeat' apply aMU)<;>first | rfl | trivial | assumption⟩ ?_
  clear g0 g1 g6 g16 g17
  rintro m ρ H2 ⟨rfl,hkm,hmn,hzero,g0,g1,g6,g7,g8,g16,g17⟩
  have hm:m<n:=by
   rcases aLh m n with h | h
   ·exact h
   ·exact absurd (hzero pm Xj (by omega)) hp3
  have akF:(m:Int)<(n:Int):=by omega
  have a1:=hS1.t.addr (c:=c) hm
  obtain⟨p1,q1,c1,c2,c3,_⟩:=hS1.spot hm oG fD lK
  have c3:=(c3 true).trans (bK _)
  have es:=dL (A m k)
  by_cases hz:jH (A m k)=0
  ·have Cz:=zO.1 hz
   simp only[Cy,g0,g6,g7,g8,akF,a1,c1,c2,c3,es,hz,wn m hmn,eO,VX,Nat.reduceEqDiff,Nat.reduceAdd,Nat.reduceLeDiff,Nat.reduceLT,Nat.reduceSub]
   exact⟨m+1,by omega,by omega,by omega,fun r h1 h2=>by
    rcases aLh r m with h | h
    ·exact hzero r h1 h
    ·rw[show r=m by omega]
     exact Cz,by (repeat' apply aMU)<;>first | rfl | trivial | assumption⟩
  ·have hmk:A m k≠0:=fun h=>hz (zO.2 h)
   have fN:¬(m:Int)=(n:Int):=by omega
   have Yu:=W4.swp hkm hm
   have TN:swp k m A k k≠0:=by unfold Go.PM.swp;rw[if_pos rfl];exact hmk
   obtain⟨u,v,e1,e2,e3⟩:=hS1.t.swap oG hm
   obtain rfl:p1=v:=Option.some.inj (c1.symm.trans e2)
   obtain⟨Ha,Hb,e4,e5,e6,e7,e8,e9⟩:=e3 lo eT
   have ak:=hS1.t.addr (c:=c) oG
   have r1:=hS1.r.addr (c:=rc) hm
   have r2:=(hS1.r.get hm true).trans (bK _)
   have r3:=hS1.r.addr (c:=rc) oG
   have r4:=(hS1.r.get oG true).trans (bK _)
   have hSb:Sy aG fV hi n b g rb rg (Go.PM.swp k m A) bb Hb:=⟨e9,e8.2 _ _ _ hS1.d hS1.r,hS1.d⟩
   have r5:=hSb.r.addr (c:=rc) oG
   obtain⟨Hc,f1,f2,hSc⟩:=hSb.put oG BW fD lK (bb m)
   have r6:=hSc.r.addr (c:=rc) hm
   obtain⟨Hd,f3,f4,hSd⟩:=hSc.put hm BW fD lK (bb k)
   have hSd:=hSd.congr (fun _ _ _ _=>rfl) fun a _=>aFS (k:=k) (m:=m) (b:=bb)
   have hOd:DF fV hi rb H Hd:=((hO1.trans e8.aA8).trans f2).trans f4
   generalize hA':Go.PM.swp k m A=A' at *
   generalize xR:Go.PM.swp k m bb=Iz at *
   simp only[Cy,g0,g1,g6,g7,g8,akF,a1,c1,c2,c3,es,hz,fN,e1,e2,e4,e5,e6,ak,r1,r2,r3,r4,r5,r6,f1,f3,wn k hk,bK,eO,VX,Nat.reduceEqDiff,Nat.reduceAdd,Nat.reduceLeDiff,Nat.reduceLT,Nat.reduceSub]
   refine aN (fun(i:Nat) aP H2=>k+1≤i∧i≤n∧Sy aG fV hi n b g rb rg (Ze k A' i) (elB k A' Iz i) H2∧DF fV hi rb H H2∧aP 0 = .ref b g 0 n c∧aP 1 = .ref rb rg 0 n rc∧aP 6=VI n∧aP 7=VI k∧aP 9=VI i∧aP 16=VI n∧aP 17=VI k) (fun i=>n-i) (k+1)
    ⟨aLe _,by omega,hSd.congr (fun _ _ _ _=>aeB) fun _ _=>abW,hOd,by (repeat' apply aMU)<;>first | rfl | trivial | assumption⟩ ?_
   clear g0 g1 g6 g7 g8 g16 g17 hSd hOd f3 f4 r6 hSc f1 f2 r5 hSb
   rintro i ρ H2 ⟨hki,bX,hS2,R2,g0,g1,g6,g7,g9,g16,g17⟩
   have hg:=hgk k hk
   by_cases UW:(i:Int)<(n:Int)
   ·have qU:i<n:=by omega
    have a2:=hS2.t.addr (c:=c) qU
    obtain⟨p2,q2,d1,d2,d3,_⟩:=hS2.spot qU oG fD lK
    have d3:=(d3 true).trans (bK _)
    rw[TS] at d3
    have Qa:=dL (A' i k)
    by_cases Nt:jH (A' i k)=0
    ·have Cz:=zO.1 Nt
     simp only[zD,g0,g1,g6,g7,g9,UW,a2,d1,d2,d3,Qa,Nt,wn i bX,eO,VX,Nat.reduceEqDiff,Nat.reduceAdd,Nat.reduceLeDiff,Nat.reduceLT,Nat.reduceSub]
     exact⟨i+1,by omega,by omega,by omega,hS2.congr (fun _ _ _ _=>anZ Cz) fun _ _=>ajF Cz,R2,by (repeat' apply aMU)<;>first | rfl | trivial | assumption⟩
    ·have a3:=hS2.t.addr (c:=c) oG
     obtain⟨p3,q3,d4,d5,d6,_⟩:=hS2.spot oG oG fD lK
     have d6:=(d6 true).trans (bK _)
     rw[ZL (by omega)] at d6
     have bik:=Yu.z.bits qU oG
     have bkk:=Yu.z.bits oG oG
     have ef:=EL (A' i k) (A' k k) TN (by omega) (by omega)
     have bf:=Gu (A' i k) (A' k k)
     have aeM:rb<H2.length:=lZ (x:=((vec n (elB k A' Iz i)).map aG,3,true)) hS2.r
     have s1:=Fs (lo:=lo) (H:=H2) (q:=A' i k / A' k k) (by have:=R2.1;omega)
     have rf:=(iO (H:=H2) (g:=0) (es:=[aG (A' i k / A' k k)]) (e:=3) (w:=true))
     have XD:=hS2.app (L:=[.row 0 [aG (A' i k / A' k k)] 3 true])
     have hO3:=R2.trans (DF.app (L:=[.row 0 [aG (A' i k / A' k k)] 3 true]))
     have hH2:hi≤H2.length:=aLf hhi R2.1
     simp only[zD,g0,g1,g6,g7,g9,UW,a2,a3,d1,d2,d3,d4,d5,d6,Qa,Nt,ef,s1,eO,VX,Nat.reduceEqDiff,Nat.reduceAdd,Nat.reduceLeDiff,Nat.reduceLT,Nat.reduceSub]
     generalize hfq:A' i k / A' k k=fq at *
     refine aN (fun(j:Nat) aP H4=>k≤j∧j≤n∧Sy aG fV hi n b g rb rg (elC k A' i j) (elB k A' Iz i) H4∧DF fV hi rb H H4∧aJ H4 H2.length 0=some ([aG fq],3,true)∧aP 0 = .ref b g 0 n c∧aP 1 = .ref rb rg 0 n rc∧aP 6=VI n∧aP 7=VI k∧aP 9=VI i∧aP 10 = .ptr H2.length 0 0 0∧aP 11=VI j∧aP 16=VI n∧aP 17=VI k) (fun j=>n-j) k
      ⟨aLe _,hk,XD.congr (fun _ _ _ _=>aeO (fun c hc=>Yu.u.1 k c oG hc hc) (by omega)) fun _ _=>rfl,hO3,rf,by (repeat' apply aMU)<;>first | rfl | trivial | assumption⟩ ?_
     clear g0 g1 g6 g7 g9 g16 g17 XD hO3 rf
     rintro j ρ H4 ⟨hkj,DY,hS4,hO4,rf,g0,g1,g6,g7,g9,g10,g11,g16,g17⟩
     have lf:bG true 3 (.ptr H2.length 0 0 0) H4=some (aG fq):=by rw[bJ,rf];exact bK _
     by_cases ajQ:(j:Int)<(n:Int)
     ·have xJ:j<n:=by omega
      have a4:=hS4.t.addr (c:=c) qU
      have a5:=hS4.t.addr (c:=c) oG
      obtain⟨p4,q4,t1,t2,t3,t4⟩:=hS4.spot qU xJ fD lK
      obtain⟨p5,q5,t5,t6,t7,_⟩:=hS4.spot oG xJ fD lK
      have t3:=(t3 true).trans (bK _)
      have t7:=(t7 true).trans (bK _)
      rw[asO] at t3
      rw[asU (by omega)] at t7
      have bij:=Yu.z.bits qU xJ
      have bkj:=Yu.z.bits oG xJ
      have em:=nZ fq (A' k j) (by omega) (by omega)
      have bm:=oA fq (A' k j)
      have eS:=rP (A' i j) (fq*A' k j) (by omega) (by omega)
      have hel:A' i j-fq*A' k j=Hf (M3 k A') k A' i j:=by rw[alK (by omega),hfq]
      rw[hel] at eS
      obtain⟨H5,t8,t9,XZ⟩:=t4 lo (Hf (M3 k A') k A' i j) eT
      have XZ:=XZ.congr (fun _ _ _ _=>ahU) fun _ _=>rfl
      have rf5:=t9.2 _ _ _ (by omega) (by omega) rf
      simp only[CQ,g0,g6,g7,g9,g10,g11,ajQ,a4,a5,t1,t2,t3,t5,t6,t7,t8,lf,em,eS,wn j DY,eO,VX,Nat.reduceEqDiff,Nat.reduceAdd,Nat.reduceLeDiff,Nat.reduceLT,Nat.reduceSub]
      exact⟨j+1,by omega,by omega,by omega,XZ,hO4.trans t9,rf5,by (repeat' apply aMU)<;>first | rfl | trivial | assumption⟩
     ·have Wa:j=n:=by omega
      subst Wa
      have hS4:=hS4.congr (fun _ c _ hc=>atS hc) fun _ _=>rfl
      have r7:=hS4.r.addr (c:=rc) qU
      have r8:=(hS4.r.get qU true).trans (bK _)
      have r9:=hS4.r.addr (c:=rc) oG
      have r10:=(hS4.r.get oG true).trans (bK _)
      rw[auJ] at r8
      rw[arS (by omega)] at r10
      have bbi:=Yu.right hX (by omega) qU
      have bbk:=Yu.right hX (by omega) oG
      have em:=nZ fq (Iz k) (by omega) (by omega)
      have bm:=oA fq (Iz k)
      have eS:=rP (Iz i) (fq*Iz k) (by omega) (by omega)
      have hel:Iz i-fq*Iz k=TY (M3 k A') k Iz i:=by rw[awP (by omega),hfq]
      rw[hel] at eS
      obtain⟨H5,t8,t9,XZ⟩:=hS4.put qU BW fD lK (TY (M3 k A') k Iz i)
      have XZ:=XZ.congr (fun _ _ _ _=>rfl) fun _ _=>aiC
      simp only[CQ,g0,g1,g6,g7,g9,g10,g11,ajQ,r7,r8,r9,r10,lf,em,eS,t8,wn i bX,eO,VX,Nat.reduceEqDiff,Nat.reduceAdd,Nat.reduceLeDiff,Nat.reduceLT,Nat.reduceSub]
      exact⟨i+1,by omega,by omega,by omega,XZ,hO4.trans t9,by (repeat' apply aMU)<;>first | rfl | trivial | assumption⟩
   ·have mZ:i=n:=by omega
    subst mZ
    have hU3:=Yu.step TN oG
    simp only[zD,g6,g9,g17,UW,wn k hk,eO,VX,Nat.reduceEqDiff,Nat.reduceAdd,Nat.reduceLeDiff,Nat.reduceLT,Nat.reduceSub]
    exact⟨k+1,by omega,by omega,⟨_,_,hU3,hS2.congr (fun a _ ha _=>if_pos ha) fun a ha=>if_pos ha⟩,R2,by (repeat' apply aMU)<;>first | rfl | trivial | assumption⟩
 ·have T7:k=n:=by omega
  subst T7
  have hg:=hgk k hk
  have w0:IntKind.i64.wrap ((k:Int)-1)=(k:Int)-1:=wrap64 (by omega) (by omega)
  simp only[CB,g0,g1,g6,g16,g17,Hl,w0,eO,VX,Nat.reduceEqDiff,Nat.reduceAdd,Nat.reduceLeDiff,Nat.reduceLT,Nat.reduceSub]
  refine aN (fun(s:Nat) aP H2=>s≤k∧Sy aG fV hi k b g rb rg A (bkR A bb X s) H2∧DF fV hi rb H H2∧aP 0 = .ref b g 0 k c∧aP 1 = .ref rb rg 0 k rc∧aP 6=VI k∧aP 12=VI ((s:Int)-1)) (fun s=>s) k
   ⟨aLe _,hS1.congr (fun _ _ _ _=>rfl) fun a ha=>(if_neg (by omega)).symm,hO1,by (repeat' apply aMU)<;>first | rfl | trivial | assumption⟩ ?_
  clear g0 g1 g6 g16 g17
  rintro s ρ H2 ⟨hs,hS2,R2,g0,g1,g6,g12⟩
  by_cases hs0:(0:Int)≤(s:Int)-1
  ·obtain⟨t,rfl⟩:∃t,s=t+1:=⟨s-1,by omega⟩
   have hx:((t+1:Nat):Int)-1=(t:Int):=by omega
   rw[hx] at g12 hs0
   have RU:t<k:=by omega
   have hts:(0:Int)≤(t:Int):=by omega
   simp only[CO,g0,g1,g6,g12,hts,wn t (by omega),eO,VX,Nat.reduceEqDiff,Nat.reduceAdd,Nat.reduceLeDiff,Nat.reduceLT,Nat.reduceSub]
   refine aN (fun(j:Nat) aP H3=>t+1≤j∧j≤k∧Sy aG fV hi k b g rb rg A (GZ (bkR A bb X (t+1)) t (bk A bb X t j)) H3∧DF fV hi rb H H3∧aP 0 = .ref b g 0 k c∧aP 1 = .ref rb rg 0 k rc∧aP 6=VI k∧aP 12=VI t∧aP 13=VI j) (fun j=>k-j) (t+1)
    ⟨aLe _,by omega,hS2.congr (fun _ _ _ _=>rfl) fun a ha=>by
     unfold GZ
     by_cases h:a=t
     ·subst h
      rw[if_pos rfl,amZ]
      unfold bkR
      exact if_neg (by omega)
     ·rw[if_neg h],R2,by (repeat' apply aMU)<;>first | rfl | trivial | assumption⟩ ?_
   clear g0 g1 g6 g12
   rintro j ρ H3 ⟨htj,Xc,XD,hO3,g0,g1,g6,g12,g13⟩
   by_cases DY:(j:Int)<(k:Int)
   ·have xJ:j<k:=by omega
    have r7:=XD.r.addr (c:=rc) RU
    have r8:=(XD.r.get RU true).trans (bK _)
    have r9:=XD.r.addr (c:=rc) xJ
    have r10:=(XD.r.get xJ true).trans (bK _)
    rw[show GZ (bkR A bb X (t+1)) t (bk A bb X t j) t=bk A bb X t j from if_pos rfl] at r8
    rw[show GZ (bkR A bb X (t+1)) t (bk A bb X t j) j=X j by unfold GZ bkR;rw[if_neg (by omega),if_pos (by omega)]] at r10
    have a4:=XD.t.addr (c:=c) RU
    obtain⟨p4,q4,t1,t2,t3,_⟩:=XD.spot RU xJ fD lK
    have t3:=(t3 true).trans (bK _)
    have btj:=W4.z.bits RU xJ
    have bxj:=hX.bits xJ
    have bp:=W4.part hX (by omega) RU htj Xc
    have em:=nZ (A t j) (X j) (by omega) (by omega)
    have bm:=oA (A t j) (X j)
    have eS:=rP (bk A bb X t j) (A t j*X j) (by omega) (by omega)
    rw[←asN] at eS
    obtain⟨H5,t8,t9,XZ⟩:=XD.put RU BW fD lK (bk A bb X t (j+1))
    have XZ:=XZ.congr (fun _ _ _ _=>rfl) (Iz:=GZ (bkR A bb X (t+1)) t (bk A bb X t (j+1))) fun a _=>by
     unfold GZ
     by_cases h:a=t
     ·rw[if_pos h,if_pos h]
     ·rw[if_neg h,if_neg h,if_neg h]
    simp only[CD,g0,g1,g6,g12,g13,DY,r7,r8,r9,r10,a4,t1,t2,t3,em,eS,t8,wn j Xc,eO,VX,Nat.reduceEqDiff,Nat.reduceAdd,Nat.reduceLeDiff,Nat.reduceLT,Nat.reduceSub]
    exact⟨j+1,by omega,by omega,by omega,XZ,hO3.trans t9,by (repeat' apply aMU)<;>first | rfl | trivial | assumption⟩
   ·have Wa:j=k:=by omega
    subst Wa
    have r7:=XD.r.addr (c:=rc) RU
    have r8:=(XD.r.get RU true).trans (bK _)
    rw[show GZ (bkR A bb X (t+1)) t (bk A bb X t j) t=bk A bb X t j from if_pos rfl] at r8
    have a4:=XD.t.addr (c:=c) RU
    obtain⟨p4,q4,t1,t2,t3,_⟩:=XD.spot RU RU fD lK
    have t3:=(t3 true).trans (bK _)
    have btt:=W4.z.bits RU RU
    have bp:=W4.part hX (by omega) RU htj (aLe _)
    have ed:=EL (bk A bb X t j) (A t t) (W4.u.2 t RU) (by omega) (by omega)
    rw[←W4.back RU] at ed
    obtain⟨H5,t8,t9,XZ⟩:=XD.put RU BW fD lK (X t)
    have XZ:=XZ.congr (fun _ _ _ _=>rfl) (Iz:=bkR A bb X t) fun a _=>by
     unfold GZ bkR
     by_cases h:a=t
     ·subst h;rw[if_pos rfl,if_pos (aLe _)]
     ·rw[if_neg h,if_neg h]
      by_cases h2:t+1≤a
      ·rw[if_pos h2,if_pos (by omega)]
      ·rw[if_neg h2,if_neg (by omega)]
    have wt:IntKind.i64.wrap ((t:Int)-1)=(t:Int)-1:=wrap64 (by omega) (by omega)
    simp only[CD,g0,g1,g6,g12,g13,DY,r7,r8,a4,t1,t2,t3,ed,t8,wt,eO,VX,Nat.reduceEqDiff,Nat.reduceAdd,Nat.reduceLeDiff,Nat.reduceLT,Nat.reduceSub]
    exact⟨t,by omega,by omega,XZ,hO3.trans t9,by (repeat' apply aMU)<;>first | rfl | trivial | assumption⟩
  ·have hse:s=0:=by omega
   subst hse
   simp only[CO,g1,g12,hs0,eO,VX,Nat.reduceEqDiff,Nat.reduceAdd,Nat.reduceLeDiff,Nat.reduceLT,Nat.reduceSub]
   exact⟨R2,hS2.r.congr fun a _=>if_pos (aLI _)⟩
end Go.PM
namespace Go.PM
open Go.Lib
theorem Sr {qs:List Rat}:dF qs=Sg (fun i=>qs.getD i 0) qs.length:=by
 have key:∀(n:Nat) (f:Nat→Rat),dF (vec n f)=Sg f n:=fun n f=>by
  induction n with
  | zero=>rfl
  |
   succ n ih =>
   rw[PK,Sg,←ih]
   unfold dF
   rw[List.foldl_append]
   rfl
 rw[←key,←ayQ]
theorem TE {g:List (List Rat)} {i:Nat} (hi:i<g.length):∃r,g[i]? = some r∧∀j,gE g i j=r.getD j 0:=by
 refine⟨g[i],aLl hi,fun j => ?_⟩
 unfold gE
 rw[aLb (l:=g),aLl hi]
 rfl
abbrev Hy (x:G1):VV:=CA aG x.1 x.2.1 x.2.2
section
variable {x:G1} (hx:yM x)
include hx
theorem A1 (i:Nat) (hi:i<x.1.length):TC 136 [Hy x,VI i] (aG (Sg (gE x.2.1 i) x.1.length+eE x.2.2 i)):=by
 refine TC.walk ⟨true,false⟩ FG rfl (aM2 rfl) (CE (Rx _ _ _) rfl) (tY _) ?_
 obtain⟨r,hr,hg⟩:=TE (g:=x.2.1) (i:=i) (by rw[hx.g];exact hi)
 have SM:=hx.gr r (aL8 hr)
 obtain⟨q,hq⟩:∃q,x.2.2[i]? = some q:=⟨_,aLl (by rw[hx.e];exact hi)⟩
 have hqm:=hx.er q (aL8 hq)
 have hn:=hx.n
 have he:eE x.2.2 i=q:=by unfold eE;rw[aLb,hq];rfl
 have hs:Sg (gE x.2.1 i) x.1.length=dF r:=by
  rw[Sr,SM.1]
  exact fW fun j _=>hg j
 rw[he,hs]
 have a1:=fun H=>aF (f:=aC aG) (t := .op) (H:=H) (size:=1) (k := .i64) hr rfl
 have a2:=fun H=>aF (f:=aG) (t := .op) (H:=H) (size:=3) (k := .i64) hq rfl
 have l1:∀K,bG false 1 (.cS (Hy x) 1) K=some (aC (aC aG) x.2.1):=fun K=>rfl
 have l2:∀K,bG false 1 (.cS (Hy x) 2) K=some (aC aG x.2.2):=fun K=>rfl
 have l3:∀K,bG false 1 (.cS (aC aG r) 0) K=some (aC aG r):=fun K=>rfl
 have kV:(aB (Hy x)).all bP=true:=rfl
 have hsb:=Bm (B:=665) (n:=6) (fun q hq=>(SM.2 q hq).2) (by omega)
 have e1:=oE (dF r) q (by omega) (by omega)
 simp only[Ba,zS,kV,if_true,l1,l2,l3,a1,a2,eO,VX,Nat.reduceEqDiff,Nat.reduceAdd,Nat.reduceLeDiff,Nat.reduceLT,Nat.reduceSub]
 refine rJ rfl (O8 (v:=aC aG r) r (B:=665) (Rd.tree fD) (aLe _) (fun q hq=>(SM.2 q hq).2) (by omega) (by decide) (by omega)) fun y L hy => ?_
 subst hy
 have s1:bM 0 3 (.ptr 0 0 0 0) (aG (dF r+q)) ([cell0]++L)=some ([.row 0 [aG (dF r+q)] 3 true]++L):=by
  have Ko:aJ ([cell0]++L) 0 0=some ([VV.agg [VB false,.tree [] .nil,.tree [] .nil]],3,true):=rfl
  rw[bS (e:=3) Ko (by exact aOo) (aLe _) (fD _) (lK _)]
  rfl
 have l4:bG true 3 (.ptr 0 0 0 0) ([.row 0 [aG (dF r+q)] 3 true]++L)=some (aG (dF r+q)):=by
  have Ko:aJ ([eR.row 0 [aG (dF r+q)] 3 true]++L) 0 0=some ([aG (dF r+q)],3,true):=rfl
  rw[bJ,Ko]
  exact bK _
 simp only[l2,a2,bK,e1,s1,l4,eO,VX,Nat.reduceEqDiff,Nat.reduceAdd,Nat.reduceLeDiff,Nat.reduceLT,Nat.reduceSub]
 exact aK (iM _)
end
section
variable {n:Nat} {G:Nat→Nat→Rat} {E:Nat→Rat} {r:Rat}
end
end Go.PM
namespace Go.PM
open Go.Lib
section
variable {x:G1} (hx:yM x)
include hx
theorem yM.small {K:Nat} (hK:K=43):2^x.1.length*(K*665+9+1)≤68719476736:=by
 have hn:=hx.n
 have e1:2^x.1.length≤2^6:=Nat.pow_le_pow_right (by decide) hn.2
 have e2:2^x.1.length*(K*665+9+1)≤2^6*(K*665+9+1):=aLF _ e1
 have e3:(2:Nat)^6=64:=by decide
 omega
end
end Go.PM
namespace Go.PM
open Go.Lib
theorem JP {c:List (List ByteArray)}:∀ {i:Nat} {m:List (List Rat)},iT c i=some m→∀(k:Nat) (r:List Rat),m[k]? = some r→r.getD k 0=0
 | 0,m,h,k,r,hk=>by cases h;cases hk
 |
  i+1,m,h,k,r,hk=>by
  rw[iT] at h
  split at h
  ·rename_i out q h1 h2
   cases h
   obtain⟨l1,_⟩:=uG h1
   by_cases hki:k<out.length
   ·rw[List.getElem?_append_left hki] at hk
    exact JP h1 k r hk
   ·rw[List.getElem?_append_right (by omega)] at hk
    have hz:k-out.length=0:=by
     have:=(aLd.1 hk).1
     simp only[aLo,aMR] at this
     omega
    rw[hz] at hk
    cases hk
    have TN:k=i:=by omega
    subst TN
    exact(J2 h2).2.2.2
  ·cases h
theorem WG {s:rV} {x:G1} (h:dN s=some x):∀i,gE x.2.1 i i=0:=fun i=>by
 unfold dN at h
 split at h
 ·split at h
  ·split at h
   ·cases hm:iT s.g s.b.length with
    | none=>rw[hm] at h;cases h
    |
     some m =>
     rw[hm] at h
     cases h
     unfold gE
     rw[aLb (l:=m)]
     cases hr:m[i]? with
     | none=>rfl
     | some r=>exact JP hm i r hr
   ·cases h
  ·cases h
 ·cases h
theorem yM.of {s:rV} {x:G1} (h:dN s=some x) (he:B2 x=true):yM x:=by
 obtain⟨h1,h2,h3,h4,h5,h6,h7⟩:=I6 h
 exact⟨h1,h2,h3,h4,h5,h6,h7,WG h,he⟩
theorem ahN {x:G1}:dJ true 3 (Hy x) 0=some (Hy x):=rfl
end Go.PM
namespace Go.PM
open Go.Lib
end Go.PM
namespace Go.PM
open Go.Lib
end Go.PM
namespace Go.PM
open Go.Lib
def xH (s:rV):VV:=match dN s with
 | some x=>Hy x
 | none=>ZY
def WO (s:rV):Bool:=match dN s with
 | some x=>B2 x
 | none=>false
theorem auK (s:rV):Pr s = .eH [xH s,VB (WO s)]:=by
 unfold Pr xH WO
 cases dN s<;>rfl
theorem QP (s:rV):aY (xH s)=true:=by
 unfold xH
 split
 ·exact Rx _ _ _
 ·rfl
theorem amC (s:rV):gV (xH s)=true:=by
 unfold xH
 split
 ·exact UF _ _ _
 ·rfl
theorem Gc (s:rV):(aB (xH s)).length=3:=by unfold xH;split<;>rfl
theorem Jw (s:rV):(aB (xH s)).all bP=true:=by unfold xH;split<;>rfl
theorem ZZ (s:rV):dJ true 3 (xH s) 0=some (xH s):=by unfold xH;split<;>rfl
theorem Uv (s:rV):∃L k,k≤1000000∧dJ false 1 (xH s) 0=some L∧∀K,pV L K=some (VI (k:Nat)):=by
 unfold xH
 cases h:dN s with
 | none=>exact⟨.tree [] .op,0,by decide,rfl,fun K=>rfl⟩
 | some x=>exact⟨_,_,aLf (I6 h).1.2 (by decide),rfl,fun K=>eK⟩
noncomputable def fcV (a b:rV):VV:=match dN a,dN b with
 | some x,some y=>if B2 x=true∧B2 y=true∧pN x y≤12 then Dq (No x y (pN x y)) else .eH [bE [],VB false]
 | _,_ => .eH [bE [],VB false]
theorem Zw (a b:rV):gV (fcV a b)=true:=by
 unfold fcV
 split
 ·split
  ·exact Gh _
  ·rfl
 ·rfl
theorem asC (a b:rV):∃t k,fcV a b = .eH [bE t,VB k]:=by
 unfold fcV
 split
 ·split
  ·exact Lw _
  ·exact⟨_,_,rfl⟩
 ·exact⟨_,_,rfl⟩
theorem NS {a b:rV} (h:∀x y,dN a=some x→dN b=some y→B2 x=true→B2 y=true→pN x y≤12→False):fcV a b = .eH [bE [],VB false]:=by
 unfold fcV
 split
 ·rename_i x y h1 h2
  exact if_neg fun h3=>h x y h1 h2 h3.1 h3.2.1 h3.2.2
 ·rfl
theorem Jc {s:rV} (h:WO s=true):∃x,dN s=some x∧B2 x=true:=by
 unfold WO at h
 split at h
 ·exact⟨_,by assumption,h⟩
 ·cases h
theorem Kk {s:rV} {x:G1} (h:WO s=false) (hr:dN s=some x) (he:B2 x=true):False:=by
 unfold WO at h
 rw[hr] at h
 rw[show B2 x=false from h] at he
 cases he
set_option maxHeartbeats 1000000 in
theorem Ic (a b:rV) (ha:LR a) (hb:LR b):TC 135 [tX a,tX b] (.eH [xH a,xH b,VB (WO a&&WO b)]):=by
 refine TC.walk ⟨true,false⟩ Io rfl (aM2 rfl) (CE (jN _) (jN _)) (by show rE [_,_,_]=true;simp only[rE,amC,Bool.and_true];rfl) ?_
 have e1:=DA a ha
 have e2:=DA b hb
 rw[auK] at e1 e2
 have p1:=QP a
 have p2:=QP b
 have z1:=Gc a
 have z2:=Gc b
 have w1:=Jw a
 have w2:=Jw b
 have d1:=ZZ a
 have d2:=ZZ b
 generalize xH a=A at *
 generalize xH b=B at *
 have s2:bM 0 3 (.ptr 2 0 0 0) A [dI,dI,dI]=some [dI,dI,.row 0 [A] 3 true]:=by
  rw[bS (e:=3) (g:=0) (j:=0) (cL.trans (cL.trans aQ)) (by exact aOo) (aLI _) z1 w1]
  rfl
 have s3:bM 0 3 (.ptr 3 0 0 0) B [dI,dI,.row 0 [A] 3 true,dI]=some [dI,dI,.row 0 [A] 3 true,.row 0 [B] 3 true]:=by
  rw[bS (e:=3) (g:=0) (j:=0) (cL.trans (cL.trans (cL.trans aQ))) (by exact aOo) (aLI _) z2 w2]
  rfl
 have s0:bM 0 3 (.ptr 0 0 0 0) A [dI,dI,.row 0 [A] 3 true,.row 0 [B] 3 true]=some [.row 0 [A] 3 true,dI,.row 0 [A] 3 true,.row 0 [B] 3 true]:=by
  rw[bS (e:=3) (g:=0) (j:=0) aQ (by exact aOo) (aLI _) z1 w1]
  rfl
 have s1:bM 0 3 (.ptr 1 0 0 0) B [.row 0 [A] 3 true,dI,.row 0 [A] 3 true,.row 0 [B] 3 true]=some [.row 0 [A] 3 true,.row 0 [B] 3 true,.row 0 [A] 3 true,.row 0 [B] 3 true]:=by
  rw[bS (e:=3) (g:=0) (j:=0) (cL.trans aQ) (by exact aOo) (aLI _) z2 w2]
  rfl
 have l2:bG true 3 (.ptr 2 0 0 0) [dI,dI,.row 0 [A] 3 true,.row 0 [B] 3 true]=some A:=d1
 have l3:bG true 3 (.ptr 3 0 0 0) [dI,dI,.row 0 [A] 3 true,.row 0 [B] 3 true]=some B:=d2
 have l0:bG true 3 (.ptr 0 0 0 0) [.row 0 [A] 3 true,.row 0 [B] 3 true,.row 0 [A] 3 true,.row 0 [B] 3 true]=some A:=d1
 have l1:bG true 3 (.ptr 1 0 0 0) [.row 0 [A] 3 true,.row 0 [B] 3 true,.row 0 [A] 3 true,.row 0 [B] 3 true]=some B:=d2
 have kf:lB [dI,dI,.row 0 [A] 3 true,.row 0 [B] 3 true] (.ptr 3 0 0 0) (.ptr 0 0 0 0)=true:=rfl
 have hp:aY (.eH [A,B,VB (WO a&&WO b)])=true:=by
  show (aY A&&(aY B&&true))=true
  rw[p1,p2]
  rfl
 cases Gp:WO a<;>rw[Gp] at e1 hp<;>simp only[C6,A6,kH,gD,if_true,e1,e2,s0,s1,s2,s3,l0,l1,l2,l3,kf,gB,mX,List.all_cons,List.all_nil,Bool.and_true,Bool.true_and,Bool.false_and,aLo,aMR,aME,aMw,aMM,eO,VX,Nat.reduceEqDiff,Nat.reduceAdd,Nat.reduceLeDiff,Nat.reduceLT,Nat.reduceSub]<;>exact aK hp
end Go.PM