/- Texts of a claim, in one: part 12. -/
import Derived.KernelRfl
import Derived.Lib.LaidTab
import Derived.LaidLaws
import Derived.LaidMore
import Derived.MakeChecks
import Derived.Handed
import Derived.Test.YtodamlihdkalfaaGreatDoorKRk
set_option linter.unusedSimpArgs false
set_option linter.unusedVariables false
namespace Go.PM
open Go.Lib
def N0 (o:Option (List Rat)):VV:=match o with
 | some qs => .eQ [bL cG qs,VB true]
 | none => .eQ [bL cG [],VB false]
theorem Ri:N0 none = .eQ [bL cG [],VB false]:=rfl
theorem Qn (qs:List Rat):N0 (some qs) = .eQ [bL cG qs,VB true]:=rfl
theorem E4 (q:Rat):(aB (cG q)).length=3:=rfl
theorem Dl (qs:List Rat):aR (bL cG qs)=true:=jA E4 pB
theorem Um (q:Rat):xR (cG q)=true:=by simp[xR,cG,bN,gB]
theorem Ln (qs:List Rat):gO (bL cG qs)=true:=By E4 BZ Um
theorem Td (o:Option (List Rat)):gO (N0 o)=true:=by
 unfold N0
 split
 ·exact Eu (Ln _) rfl
 ·exact Eu (Ln []) rfl
set_option maxHeartbeats 1000000 in
theorem I3 (xs:List ByteArray) (hn:xs.length≤1000000000) (hs:∀s∈xs,s.size≤1000000000):TC 115 [fU xs] (N0 (AN xs)):=by
 refine TC.walk ⟨true,false⟩ HX rfl (Nat.le_of_ble_eq_true rfl) (by simp[aJ,eI]) (Td _) ?_
 unfold AN
 by_cases Q7:(300:Int)<(xs.length:Int)
 ·rw[if_neg (by omega)]
  simp only[zK,wA,Q7,VX,Nat.reduceEqDiff,Nat.reduceAdd]
  exact DF
 rw[if_pos (by omega)]
 have e0:=fun H=>oC (H:=H) (lr:=false) (z:=[.bool false,.slice none 0 0,.slice none 0 0]) rfl
 simp only[zK,wA,Q7,e0,VX,Nat.reduceEqDiff,Nat.reduceAdd]
 refine I6 (fun(s:Nat×List Rat) ρ H=>s.1≤xs.length∧(xs.take s.1).mapM pQ=some s.2∧H=[.row s.1 (s.2.map cG) 3 true]∧ρ 4 = .ref 0 s.1 0 s.1 s.1∧ρ 0=fU xs∧ρ 13=VI xs.length∧ρ 14=VI s.1) (fun s=>xs.length-s.1) (0,[]) ⟨Nat.zero_le _,rfl,rfl,rfl,rfl,rfl,rfl⟩ ?_
 rintro⟨i,out⟩ ρ H ⟨hi,Ih,rfl,g4,g13,g14,g15⟩
 simp only at hi Ih g4 g15
 have iF:out.length=i:=by rw[uO Ih,List.length_take];omega
 by_cases dA:(i:Int)<(xs.length:Int)
 ·obtain⟨x,hx⟩:∃x,xs[i]? = some x:=⟨_,List.getElem?_eq_getElem (by omega)⟩
  have hxm:=List.mem_of_getElem? hx
  have e1:=fun H=>aM (f:=sV) (t := .op) (H:=H) (size:=1) (k := .i64) hx rfl
  have wi:IntKind.i64.wrap ((i:Int)+1)=((i+1:Nat):Int):=wrapN (i+1) (by omega) (by omega)
  have e2:=Hq x.data.toList (by have:=hs x hxm;rw[Array.length_toList];show x.size≤_;omega)
  rw[←Xp] at e2
  cases hp:pQ x with
  |
   none =>
   rw[Oi hp] at e2
   rw[mapM_none hp hxm]
   simp only[oU,g4,g13,g14,g15,dA,e1,e2,GN,Jc,OY,aO,aN,aI,iA,Nat.reduceLeDiff,Nat.reduceLT,Nat.reduceSub,mT,cB,cP,gJ,kJ,nW,bne_iff_ne,ne_eq,not_false_eq_true,not_true_eq_false,VX,Nat.reduceEqDiff,Nat.reduceAdd]
   exact DF
  |
   some q =>
   rw[Pj hp] at e2
   have eL:∀H,rN false [.bool false,.slice none 0 0,.slice none 0 0] 1 [(0,cG q)] H=some (.tree [cG q] (.cl 3),H):=fun H=>sK rfl rfl rfl
   have eS:∀H,eX 3 (.tree [cG q] (.cl 3)) H=some [cG q]:=fun H=>pJ rfl rfl
   have eP:gH 0 3 56 (.ref 0 i 0 i i) [cG q] [.row i (out.map cG) 3 true,.row 0 [cG q] 3 true]=some (.ref 0 (i+1) 0 (i+1) (i+1),[.row (i+1) ((out++[q]).map cG) 3 true,.row 0 [cG q] 3 true]):=by
    rw[pK (f:=cG) (xs:=out) (by rw[bT]) iF.symm (Nat.le_refl _) (by decide) (by decide) (by omega),List.set_cons_zero]
   simp only[oU,g4,g13,g14,g15,dA,e1,e2,eL,eS,eP,wi,bP,dE,gW,aK,aT,aP,iA,Nat.reduceLeDiff,Nat.reduceLT,Nat.reduceSub,mT,cB,cP,gJ,kJ,nW,bne_iff_ne,ne_eq,not_false_eq_true,not_true_eq_false,VX,Nat.reduceEqDiff,Nat.reduceAdd]
   refine⟨(i+1,out++[q]),by simp only;omega,?_,by simp only;omega,by simp only[F8 hx];exact Lp Ih hp,rfl,?_⟩
   ·rw[uC (kM _ (dQ pB)),FB]
   ·simp only[fD,g13,g14,vP (eI _),yT (Nat.lt_succ_self 0),VX,Nat.reduceEqDiff,Nat.reduceAdd,List.take_zero,fZ,List.all_nil,List.length_nil,fD,Je,vP]
 ·have rS:i=xs.length:=by omega
  subst rS
  rw[List.take_length] at Ih
  rw[Ih]
  simp only[oU,g4,g13,g14,g15,dA,VX,Nat.reduceEqDiff,Nat.reduceAdd]
  refine bG (d:=6) ?_ (aH (v:=VB true) rfl)
  have:=Pe (d:=5) (w:=true) (f:=cG) (e:=3) (b:=0) (g:=xs.length) (c:=xs.length) (xs:=out) (H:=[.row xs.length (out.map cG) 3 true]) pB (by rw[bT]) (by omega)
  rw[iF] at this
  exact this
set_option maxHeartbeats 1000000 in
theorem UI {lo:Nat} {H:aA} {q:Rat} (h:lo≤H.length):cQ lo 3 (.ptr H.length 0 0 0) (cG q) (H++[cell0])=some (H++[.row 0 [cG q] 3 true]):=by
 rw[kX (g:=0) (e:=3) (j:=0) Km (by exact Nat.zero_lt_one) h rfl rfl,N3]
 rfl
theorem Hj {lo:Nat} {H:aA} {v:VV} (qs:List Rat) {B:Nat} (hv:Rd cG 3 qs H v) (gF:lo≤H.length) (hb:∀q∈qs,cE q≤B) (hk:qs.length*(B+1)+1≤1099511627776) (hB:B≤1099511627776) (hn:qs.length≤1000000000) :
  qX 142 [v] lo H (Vd (fun _ _ _ r=>r=cG (sU qs)) H):=by
 refine qX.walk ⟨true,false⟩ Hp (Nat.le_of_ble_eq_true rfl) ?_
 have e1:=BV
 have e2:=hv.len (H++[cell0,.row 0 [cG 0] 3 true]) (List.prefix_append _ _)
 have s0:cQ lo 3 (.ptr (H.length+1) 0 0 0) (cG 0) (H++[cell0,cell0])=some (H++[cell0,.row 0 [cG 0] 3 true]):=by
  have:=UI (lo:=lo) (H:=H++[cell0]) (q:=0) (by rw[List.length_append];omega)
  simpa only[List.length_append,List.length_cons,List.length_nil,Nat.zero_add,List.append_assoc,List.cons_append,List.nil_append] using this
 simp only[CN,AH,e1,e2,s0,List.length_append,List.length_cons,List.length_nil,List.append_assoc,List.cons_append,List.nil_append,VEX,VX,Nat.reduceEqDiff,Nat.reduceAdd,Nat.reduceLeDiff,Nat.reduceLT,Nat.reduceSub]
 refine aY (fun(i:Nat) ρ H1=>i≤qs.length∧H <+: H1∧aQ H1 H.length 0=some ([rz],3,true)∧aQ H1 (H.length+1) 0=some ([cG (sU (qs.take i))],3,true)∧ρ 2 = .ptr H.length 0 0 0∧ρ 3 = .ptr (H.length+1) 0 0 0∧ρ 0=v∧ρ 7=VI qs.length∧ρ 8=VI i) (fun i=>qs.length-i) 0 ⟨Nat.zero_le _,List.prefix_append _ _,MF.trans bT,Ss.trans (B2.trans bT),rfl,rfl,rfl,rfl,rfl⟩ ?_
 rintro i ρ H1 ⟨hi,hp,Nb,Na,g2,g3,g0,g7,g8⟩
 have DJ:=LC Na
 have s3:dU true 3 (.ptr (H.length+1) 0 0 0) H1=some (cG (sU (qs.take i))):=by
  rw[kP,Na]
  exact gW _
 by_cases dA:(i:Int)<(qs.length:Int)
 ·obtain⟨q,hq⟩:∃q,qs[i]? = some q:=⟨_,List.getElem?_eq_getElem (by omega)⟩
  obtain⟨p,a1,a2⟩:=hv.get H1 hp i q hq
  have a2':=(a2 true).trans (gW _)
  have wi:IntKind.i64.wrap ((i:Int)+1)=((i+1:Nat):Int):=wrapN (i+1) (by omega) (by omega)
  have h1:=Aa hb i
  have h2:=hb q (List.mem_of_getElem? hq)
  have h3:(i+1)*(B+1)≤qs.length*(B+1):=Nat.mul_le_mul_right _ (by omega)
  have e3:=C5 (sU (qs.take i)) q (by omega) (by omega)
  rw[←KG hq] at e3
  have s4:=kX (lo:=lo) (v:=cG (sU (qs.take (i+1)))) (j:=0) Na (by exact Nat.zero_lt_one) (by omega) rfl rfl
  rw[List.set_cons_zero] at s4
  simp only[rI,g2,g3,g0,g7,g8,dA,a1,a2',e3,s3,s4,wi,VEX,VX,Nat.reduceEqDiff,Nat.reduceAdd,Nat.reduceLeDiff,Nat.reduceLT,Nat.reduceSub]
  exact⟨i+1,by omega,by omega,Eh hp (by omega),nA (by omega) Nb,sN Na,by (repeat' apply And.intro)<;>first | rfl | trivial | assumption⟩
 ·have rS:i=qs.length:=by omega
  subst rS
  rw[List.take_length] at s3
  have s4:=kX (lo:=lo) (v:=cG (sU qs)) (j:=0) Nb (by exact Nat.zero_lt_one) gF rfl rfl
  rw[List.set_cons_zero] at s4
  have s5:dU true 3 (.ptr H.length 0 0 0) (H1.set H.length (.row 0 [cG (sU qs)] 3 true))=some (cG (sU qs)):=by
   rw[kP,sN Nb]
   exact gW _
  simp only[rI,g2,g3,g7,g8,dA,s3,s4,s5,VEX,VX,Nat.reduceEqDiff,Nat.reduceAdd,Nat.reduceLeDiff,Nat.reduceLT,Nat.reduceSub]
  exact⟨Eh hp (Nat.le_refl _),rfl⟩
theorem RZ {q:Rat}:q.num<0↔q<0:=by rw[←Int.not_le,Rat.num_nonneg];constructor<;>intro h<;>grind
theorem Dk (qs:List Rat) (hn:qs.length≤1000000000):TC 140 [bL cG qs] (VB (!(qs.any fun q=>decide (q<0)))):=by
 refine TC.walk ⟨true,false⟩ Dy rfl (Nat.le_of_ble_eq_true rfl) (by simp[aJ,Dl]) rfl ?_
 simp only[yC,vC,VX,Nat.reduceEqDiff,Nat.reduceAdd]
 refine aY (fun(i:Nat) ρ H=>i≤qs.length∧H=[]∧(∀j x,j<i→qs[j]? = some x→¬x<0)∧ρ 0=bL cG qs∧ρ 5=VI qs.length∧ρ 6=VI i) (fun i=>qs.length-i) 0 ⟨Nat.zero_le _,rfl,fun j x h=>by omega,rfl,rfl,rfl⟩ ?_
 rintro i ρ H ⟨hi,rfl,kA,g0,g5,g6⟩
 by_cases dA:(i:Int)<(qs.length:Int)
 ·obtain⟨q,hq⟩:∃q,qs[i]? = some q:=⟨_,List.getElem?_eq_getElem (by omega)⟩
  have e2:=fun H=>aM (f:=cG) (t := .op) (H:=H) (size:=3) (k := .i64) hq rfl
  have wi:IntKind.i64.wrap ((i:Int)+1)=((i+1:Nat):Int):=wrapN (i+1) (by omega) (by omega)
  by_cases lP:q.num<0
  ·have Hv:qs.any (fun q=>decide (q<0))=true:=List.any_eq_true.2 ⟨q,List.mem_of_getElem? hq,decide_eq_true (RZ.1 lP)⟩
   rw[Hv]
   simp only[jT,g0,g5,g6,dA,e2,lP,kB,bP,dE,gW,aK,aT,aP,iA,Nat.reduceLeDiff,Nat.reduceLT,Nat.reduceSub,mT,cB,cP,gJ,kJ,nW,bne_iff_ne,ne_eq,not_false_eq_true,not_true_eq_false,VX,Nat.reduceEqDiff,Nat.reduceAdd]
   exact aG rfl
  ·simp only[jT,g0,g5,g6,dA,e2,lP,wi,kB,bP,dE,gW,aK,aT,aP,iA,Nat.reduceLeDiff,Nat.reduceLT,Nat.reduceSub,mT,cB,cP,gJ,kJ,nW,bne_iff_ne,ne_eq,not_false_eq_true,not_true_eq_false,VX,Nat.reduceEqDiff,Nat.reduceAdd]
   refine⟨i+1,by omega,by omega,fun j y hj hy => ?_,rfl⟩
   rcases Nat.lt_or_ge j i with Kd | Kd
   ·exact kA j y Kd hy
   ·have:j=i:=by omega
    subst this
    rw[hq] at hy
    cases hy
    exact mt RZ.2 lP
 ·have rS:i=qs.length:=by omega
  subst rS
  have Hv:qs.any (fun q=>decide (q<0))=false:=by
   rw[List.any_eq_false]
   intro x hx
   obtain⟨j,hj⟩:=List.getElem?_of_mem hx
   simpa using kA j x (List.getElem?_eq_some_iff.1 hj).1 hj
  rw[Hv]
  simp only[jT,g0,g5,g6,dA,VX,Nat.reduceEqDiff,Nat.reduceAdd]
  exact aG rfl
theorem QC {a b:Rat}:a=b↔(decide (a.num<0)=decide (b.num<0)∧a.num.natAbs*b.den=b.num.natAbs*a.den):=by
 constructor
 ·rintro rfl
  exact⟨rfl,rfl⟩
 ·rintro⟨h1,h2⟩
  have h3:a.num<0↔b.num<0:=by simpa using h1
  have ha:=a.den_nz
  have hb:=b.den_nz
  have key:a.num*b.den=b.num*a.den→a=b:=fun h=>by
   have:=(Rat.mkRat_eq_iff (n₁:=a.num) (n₂:=b.num) ha hb).2 h
   rwa [Rat.mkRat_self,Rat.mkRat_self] at this
  refine key ?_
  have e1:(a.num.natAbs:Int)*b.den=b.num.natAbs*a.den:=by exact_mod_cast h2
  by_cases hn:a.num<0
  ·have ZA:=h3.1 hn
   have q1:a.num = -(a.num.natAbs:Int):=by omega
   have q2:b.num = -(b.num.natAbs:Int):=by omega
   rw[q1,q2,Int.neg_mul,Int.neg_mul,e1]
  ·have ZA:=mt h3.2 hn
   have q1:a.num=(a.num.natAbs:Int):=by omega
   have q2:b.num=(b.num.natAbs:Int):=by omega
   rw[q1,q2,e1]
set_option maxHeartbeats 1000000 in
theorem Hh (a b:Rat) (NM:cE a≤1099511627776) (JY:cE b≤1099511627776):TC 197 [cG a,cG b] (VB (decide (a=b))):=by
 refine TC.walk ⟨true,false⟩ Hl rfl (Nat.le_of_ble_eq_true rfl) (by simp only[aJ,pB];rfl) rfl ?_
 have b1 := @rR a
 have b2 := @rR b
 have b3 := @pI a
 have b4 := @pI b
 have b5:=lQ a.num.natAbs b.den
 have b6:=lQ b.num.natAbs a.den
 have c1:=fW a.num.natAbs b.den (Nat.le_of_lt (mY (by omega))) (Nat.le_of_lt (mY (by omega)))
 have c2:=fW b.num.natAbs a.den (Nat.le_of_lt (mY (by omega))) (Nat.le_of_lt (mY (by omega)))
 have c3:=sB (a.num.natAbs*b.den) (b.num.natAbs*a.den) (Nat.le_of_lt (mY (by omega))) (Nat.le_of_lt (mY (by omega)))
 by_cases q1:decide (a.num<0)=decide (b.num<0)
 ·have q2:(decide (a.num<0) == decide (b.num<0))=true:=by simpa using q1
  have hz := @uA (a.num.natAbs*b.den) (b.num.natAbs*a.den)
  by_cases q3:dY (a.num.natAbs*b.den) (b.num.natAbs*a.den)=0
  ·rw[decide_eq_true (QC.2 ⟨q1,hz.1 q3⟩)]
   simp only[sG,oS,c1,c2,c3,q2,q3,rB,bP,kB,mW,mJ,aK,iA,Nat.reduceLeDiff,Nat.reduceLT,Nat.reduceSub,mT,cB,cP,gJ,kJ,nW,bne_iff_ne,ne_eq,not_false_eq_true,not_true_eq_false,VX,Nat.reduceEqDiff,Nat.reduceAdd]
   exact aG rfl
  ·rw[decide_eq_false (fun h=>q3 (hz.2 (QC.1 h).2))]
   simp only[sG,oS,c1,c2,c3,q2,q3,rB,bP,kB,mW,mJ,aK,iA,Nat.reduceLeDiff,Nat.reduceLT,Nat.reduceSub,mT,cB,cP,gJ,kJ,nW,bne_iff_ne,ne_eq,not_false_eq_true,not_true_eq_false,VX,Nat.reduceEqDiff,Nat.reduceAdd]
   exact aG rfl
 ·have q2:(decide (a.num<0) == decide (b.num<0))=false:=by simpa using q1
  rw[decide_eq_false (fun h=>q1 (QC.1 h).1)]
  simp only[sG,oS,q2,rB,bP,kB,mW,mJ,aK,iA,Nat.reduceLeDiff,Nat.reduceLT,Nat.reduceSub,mT,cB,cP,gJ,kJ,nW,bne_iff_ne,ne_eq,not_false_eq_true,not_true_eq_false,VX,Nat.reduceEqDiff,Nat.reduceAdd]
  exact aG rfl
theorem Eo (qs:List Rat) (hb:∀q∈qs,cE q≤665) (hl:qs.length≤300):TC 116 [bL cG qs] (VB (jD qs)):=by
 refine TC.walk ⟨true,false⟩ DV rfl (Nat.le_of_ble_eq_true rfl) (by simp[aJ,Dl]) rfl ?_
 have e1:=Dk qs (by omega)
 have e2:=fun(K:aA)=>Hj (lo:=0) (H:=K) (v:=bL cG qs) qs (Rd.tree E4) (Nat.zero_le _) hb (Jm hl) (by omega) (by omega)
 have UP:=Aa hb qs.length
 rw[List.take_length] at UP
 have e3:=CO
 have hsr:=Jm hl
 have e4:=Hh (sU qs) 1 (by omega) (by rw[FH];omega)
 unfold jD
 cases Hv:qs.any (fun q=>decide (q<0)) with
 |
  true =>
  rw[Hv] at e1
  simp only[Bool.not_true,Bool.false_and] at e1 ⊢
  simp only[tA,pY,e1,VX,Nat.reduceEqDiff,Nat.reduceAdd]
  exact aG rfl
 |
  false =>
  rw[Hv] at e1
  simp only[Bool.not_false,Bool.true_and] at e1 ⊢
  simp only[tA,pY,e1,VX,Nat.reduceEqDiff,Nat.reduceAdd]
  refine Di rfl (e2 _) fun r L hr => ?_
  subst hr
  simp only[e3,e4,VX,Nat.reduceEqDiff,Nat.reduceAdd]
  exact aG rfl
set_option maxHeartbeats 1000000 in
theorem Hy (q:Rat) (n:Nat) (hn:n≤1000) (hq:cE q≤100000):TC 198 [cG q,VI n] (cG (q^n)):=by
 refine TC.walk ⟨true,false⟩ Hc rfl (Nat.le_of_ble_eq_true rfl) (by simp only[aJ,pB];rfl) (BZ _) ?_
 have e1:=CO
 simp only[C2,Ay,e1,bP,dE,gW,aK,aT,aP,iA,Nat.reduceLeDiff,Nat.reduceLT,Nat.reduceSub,mT,cB,cP,gJ,kJ,nW,bne_iff_ne,ne_eq,not_false_eq_true,not_true_eq_false,VX,Nat.reduceEqDiff,Nat.reduceAdd]
 refine aY (fun(i:Nat) ρ H=>i≤n∧H=[cell0,.row 0 [cG (q^i)] 3 true]∧ρ 1=VI ((n-i:Nat):Int)∧ρ 2=(cG q).cO 0∧ρ 4 = .ptr 0 0 0 0∧ρ 5 = .ptr 1 0 0 0) (fun i=>n-i) 0 ⟨Nat.zero_le _,?_,rfl,rfl,rfl,rfl⟩ ?_
 ·rw[Rat.pow_zero]
 rintro i ρ H ⟨hi,rfl,g1,g2,g4,g5⟩
 by_cases dA:(0:Int)<((n-i:Nat):Int)
 ·have wi:IntKind.i64.wrap (((n-i:Nat):Int)-1)=((n-(i+1):Nat):Int):=by rw[wrap64 (by omega) (by omega)];omega
  have hb:=Cl q i
  have YS:i*cE q≤1000*100000:=Nat.mul_le_mul (by omega) hq
  have e2:=AJ (q^i) q (by omega) (by omega)
  rw[←Rat.pow_succ] at e2
  simp only[rA,g1,g2,g4,g5,dA,e2,wi,bP,dE,gW,aK,aT,aP,iA,Nat.reduceLeDiff,Nat.reduceLT,Nat.reduceSub,mT,cB,cP,gJ,kJ,nW,bne_iff_ne,ne_eq,not_false_eq_true,not_true_eq_false,VX,Nat.reduceEqDiff,Nat.reduceAdd]
  exact⟨i+1,by omega,by omega,by (repeat' apply And.intro)<;>first | rfl | trivial | assumption⟩
 ·have rS:i=n:=by omega
  subst rS
  simp only[rA,g1,g2,g4,g5,dA,bP,dE,gW,aK,aT,aP,iA,Nat.reduceLeDiff,Nat.reduceLT,Nat.reduceSub,mT,cB,cP,gJ,kJ,nW,bne_iff_ne,ne_eq,not_false_eq_true,not_true_eq_false,VX,Nat.reduceEqDiff,Nat.reduceAdd]
  exact aG (pB _)
set_option maxHeartbeats 1000000 in
theorem FU (qs:List Rat) (n:Nat) (hb:∀q∈qs,cE q≤665) (hl:qs.length≤300) (hn:n≤10):TC 117 [bL cG qs,VI n] (cG (nS qs n qs.length)):=by
 refine TC.walk ⟨true,false⟩ FY rfl (Nat.le_of_ble_eq_true rfl) (by simp only[aJ,Dl];rfl) (BZ _) ?_
 have e1:=BV
 simp only[Bd,yV,e1,bP,dE,gW,aK,aT,aP,iA,Nat.reduceLeDiff,Nat.reduceLT,Nat.reduceSub,mT,cB,cP,gJ,kJ,nW,bne_iff_ne,ne_eq,not_false_eq_true,not_true_eq_false,VX,Nat.reduceEqDiff,Nat.reduceAdd]
 refine aY (fun(i:Nat) ρ H=>i≤qs.length∧H=[cell0,.row 0 [cG (nS qs n i)] 3 true]∧ρ 0=bL cG qs∧ρ 1=VI n∧ρ 4 = .ptr 0 0 0 0∧ρ 5 = .ptr 1 0 0 0∧ρ 9=VI qs.length∧ρ 10=VI i) (fun i=>qs.length-i) 0 ⟨Nat.zero_le _,rfl,rfl,rfl,rfl,rfl,rfl,rfl⟩ ?_
 rintro i ρ H ⟨hi,rfl,g0,g1,g4,g5,g9,g10⟩
 by_cases dA:(i:Int)<(qs.length:Int)
 ·obtain⟨q,hq⟩:∃q,qs[i]? = some q:=⟨_,List.getElem?_eq_getElem (by omega)⟩
  have e2:=fun H=>aM (f:=cG) (t := .op) (H:=H) (size:=3) (k := .i64) hq rfl
  have wi:IntKind.i64.wrap ((i:Int)+1)=((i+1:Nat):Int):=wrapN (i+1) (by omega) (by omega)
  have h1:=BS hb hl hn i hi
  have h2:=hb q (List.mem_of_getElem? hq)
  obtain⟨h3,h4⟩:=Bb (i:=i) (by omega) n hn
  have h5:=Ck q (((i:Int):Rat)^n)
  have e3:=xO (i:Int) (by omega) (by omega)
  have e4:=Hy ((i:Int):Rat) n (by omega) (by omega)
  have e5:=AJ q (((i:Int):Rat)^n) (by omega) (by omega)
  have e6:=C5 (nS qs n i) (q*((i:Int):Rat)^n) (by omega) (by omega)
  have e7:nS qs n i+q*((i:Int):Rat)^n=nS qs n (i+1):=by
   rw[nS,List.getD_eq_getElem?_getD,hq,Option.getD_some]
   rfl
  rw[e7] at e6
  simp only[qR,g0,g1,g4,g5,g9,g10,dA,e2,e3,e4,e5,e6,wi,bP,dE,gW,aK,aT,aP,iA,Nat.reduceLeDiff,Nat.reduceLT,Nat.reduceSub,mT,cB,cP,gJ,kJ,nW,bne_iff_ne,ne_eq,not_false_eq_true,not_true_eq_false,VX,Nat.reduceEqDiff,Nat.reduceAdd]
  exact⟨i+1,by omega,by omega,by (repeat' apply And.intro)<;>first | rfl | trivial | assumption⟩
 ·have rS:i=qs.length:=by omega
  subst rS
  simp only[qR,g0,g1,g4,g5,g9,g10,dA,bP,dE,gW,aK,aT,aP,iA,Nat.reduceLeDiff,Nat.reduceLT,Nat.reduceSub,mT,cB,cP,gJ,kJ,nW,bne_iff_ne,ne_eq,not_false_eq_true,not_true_eq_false,VX,Nat.reduceEqDiff,Nat.reduceAdd]
  exact aG (pB _)
theorem Hg (xs:List ByteArray) (n:Int) (hn:xs.length≤1000000000) (hs:∀s∈xs,s.size≤1000000000):TC 46 [fU xs,VI n] (PK xs n):=by
 refine TC.walk ⟨true,false⟩ Hs rfl (Nat.le_of_ble_eq_true rfl) (by simp only[aJ,eI];rfl) (PD _ _) ?_
 have e1:=I3 xs hn hs
 have e2:=MC n 0 10
 unfold PK
 cases h:AN xs with
 |
  none =>
  rw[h,Ri] at e1
  rw[Gt h]
  simp only[]
  simp only[oH,lG,e1,VX,Nat.reduceEqDiff,Nat.reduceAdd]
  exact aG rfl
 |
  some qs =>
  rw[h] at e1
  obtain⟨hb,hl,_⟩:=DK h
  have e3:=Eo qs hb hl
  rw[Qn] at e1
  rw[G1 h]
  cases hw:jD qs with
  |
   false =>
   rw[hw] at e3
   rw[if_neg (by simp)]
   simp only[]
   simp only[oH,lG,e1,e3,VX,Nat.reduceEqDiff,Nat.reduceAdd]
   exact aG rfl
  |
   true =>
   rw[hw] at e3
   rw[if_pos rfl]
   simp only[]
   by_cases hk:0≤n∧n≤10
   ·obtain⟨m,rfl⟩:∃m:Nat,n=m:=⟨n.toNat,by omega⟩
    rw[decide_eq_true hk] at e2
    rw[if_pos hk,Int.toNat_natCast]
    have e4:=FU qs m hb hl (by omega)
    have h3:=BS (n:=m) hb hl (by omega) qs.length (Nat.le_refl _)
    have e5:=HS (nS qs m qs.length) (by omega)
    obtain⟨s,k,hsk⟩:=Ff (nS qs m qs.length)
    rw[hsk] at e5 ⊢
    simp only[oH,lG,e1,e2,e3,e4,e5,VX,Nat.reduceEqDiff,Nat.reduceAdd]
    exact aG rfl
   ·rw[decide_eq_false hk] at e2
    rw[if_neg hk]
    simp only[oH,lG,e1,e2,e3,VX,Nat.reduceEqDiff,Nat.reduceAdd]
    exact aG rfl
end Go.PM
namespace Go.PM
def kZ:aE:=(LS [LO 4 (.mv LF)] (LS [LO 5 (.mv (LI 1000000))] (LS [LM 13 0,LM 14 5,LO 15 (.call 41 [(LT 13),(LT 14)]),LM 5 15] (.seq (LS [LM 16 5,LO 17 (.bin .lss (LT 16) (LI 0))] (.cond (LT 17) (LS [LO 4 (.mv LG)] .ret) .skip)) (LS [LM 19 0,LO 20 (.call 43 [(LT 19),LF]),LM 21 1,LO 22 (.call 46 [(LT 20),(LT 21)]),LM 18 22,LO 23 (LX 18 0),LO 24 (LX 18 1),LM 6 23,LM 7 24] (LS [LM 25 0,LO 26 (.call 43 [(LT 25),LF]),LM 8 26] (LS [LM 28 8,LM 29 1,LO 30 (.call 47 [(LT 28),(LT 29)]),LM 27 30,LO 31 (LX 27 0),LO 32 (LX 27 1),LM 9 31,LM 10 32] (.seq (LS [LM 33 9,LM 34 6,LO 35 (.bin .neq (LT 33) (LT 34)),LM 36 35,LZ 36 37 (.mv (LT 10)),LZ 36 38 (.mv (LT 7)),LZ 36 39 (.eqb true (LT 37) (LT 38)),LO 40 (.pick (LT 36) LG (LT 39))] (.cond (LT 40) (LS [LO 4 (.mv LF)] .ret) .skip)) (.seq (LS [LM 41 8,LM 42 0,LO 43 (.call 43 [(LT 42),LF]),LO 44 (.call 45 [(LT 41),(LT 43)]),LO 45 (.un .not (LT 44))] (.cond (LT 45) (LS [LO 4 (.mv LF)] .ret) .skip)) (LS [LM 47 0,LO 48 (.call 43 [(LT 47),LG]),LM 49 1,LO 50 (.call 47 [(LT 48),(LT 49)]),LM 46 50,LO 51 (LX 46 0),LO 52 (LX 46 1),LM 11 51,LM 12 52] (.seq (LS [LM 53 11,LM 54 6,LO 55 (.bin .neq (LT 53) (LT 54)),LM 56 55,LZ 56 57 (.mv (LT 12)),LZ 56 58 (.mv (LT 7)),LZ 56 59 (.eqb true (LT 57) (LT 58)),LO 60 (.pick (LT 56) LG (LT 59))] (.cond (LT 60) (LS [LO 4 (.mv LF)] .ret) .skip)) (LS [LO 4 (.mv LG)] .ret))))))))))))
def mV:aV:=⟨61,[(.tmp 4)],kZ⟩
theorem Ah:hJ 8=some mV:=by kernel_rfl
end Go.PM
namespace Go.PM
end Go.PM
namespace Go.PM
def Ho (cs:List eT) (i:Nat):Int:=((cs[i]?).map (·.t)).getD 0
def Uh (cs:List eT) (i:Nat):Int:=((cs[i]?).map (·.w)).getD 0
def klC (cs:List eT) (i:Nat):Int:=((cs[i]?).map (·.k)).getD 0
def DZ (st:List Int) (i:Nat):Int:=(st[i]?).getD 0
theorem QT {cs:List eT} {i:Nat} {x:eT} (h:cs[i]? = some x):Ho cs i=x.t:=by simp[Ho,h]
theorem aaR {cs:List eT} {i:Nat} {x:eT} (h:cs[i]? = some x):Uh cs i=x.w:=by simp[Uh,h]
theorem U2 {st:List Int} {i:Nat} {x:Int} (h:st[i]? = some x):DZ st i=x:=by simp[DZ,h]
def ZE (cs:List eT) (st:List Int) (t:Int) (i:Nat):Bool:=decide (0≤DZ st i)&&decide (DZ st i≤t)&&decide (t<DZ st i+Uh cs i)
def bz (cs:List eT) (st:List Int) (t:Int):Nat:=(List.range cs.length).countP (ZE cs st t)
def isW (cs:List eT) (st:List Int) (t:Int) (i:Nat):Bool:=decide (DZ st i<0)&&decide (Ho cs i≤t)
def wt (cs:List eT) (st:List Int) (t:Int):List Nat:=(List.range cs.length).filter (isW cs st t)
def Hw (bF:Int) (cs:List eT) (i k:Nat):Bool :=
 if bF=1 then true else if bF=2 then decide (Uh cs i<Uh cs k) else if bF=3 then decide (klC cs i<klC cs k) else false
def wR (bF:Int) (cs:List eT) (b:Option Nat) (i:Nat):Option Nat:=match b with
 | none=>some i
 | some k=>if Hw bF cs i k then some i else some k
def Zf (bF:Int) (cs:List eT) (st:List Int) (t:Int):Option Nat:=(wt cs st t).foldl (wR bF cs) none
def fill (bF jY:Int) (cs:List eT) (t:Int):Nat→List Int→List Int
 | 0,st=>st
 |
  n+1,st=>if (bz cs st t:Int)<jY then (match Zf bF cs st t with
  | none=>st
  | some k=>fill bF jY cs t n (st.set k t)) else st
def full (bF jY:Int) (cs:List eT) (st:List Int) (t:Int):Prop:=jY≤(bz cs st t:Int)∨Zf bF cs st t=none
def runT (bF jY:Int) (cs:List eT):Int→Nat→List Int→List Int
 | _,0,st=>st
 | t,n+1,st=>runT bF jY cs (t+1) n (fill bF jY cs t cs.length st)
def stL (bF jY:Int) (cs:List eT):List Int:=runT bF jY cs 0 100000 (List.replicate cs.length (-1))
section
variable {bF jY:Int} {cs:List eT} {st:List Int} {t:Int}
theorem uD (h:full bF jY cs st t) (n:Nat):fill bF jY cs t n st=st:=by
 cases n with
 | zero=>rfl
 |
  succ n =>
  rw[fill]
  rcases h with h | h
  ·rw[if_neg (by omega)]
  ·split
   ·rw[h]
   ·rfl
theorem KU (m:Nat):∀(t:Int) (n:Nat),(∀u,t≤u→u<t+m→full bF jY cs st u)→m≤n→runT bF jY cs t n st=runT bF jY cs (t+m) (n-m) st:=by
 induction m with
 | zero=>intro t n _ _;simp
 |
  succ m ih =>
  intro t n h hm
  obtain⟨n,rfl⟩:∃k,n=k+1:=⟨n-1,by omega⟩
  rw[runT,uD (h t (Int.le_refl _) (by omega)),ih (t+1) n (fun u h1 h2=>h u (by omega) (by omega)) (by omega)]
  congr 1
  ·omega
  ·omega
theorem TY (n:Nat):∀(t:Int),(∀u,t≤u→full bF jY cs st u)→runT bF jY cs t n st=st:=by
 intro t h
 rw[KU n t n (fun u h1 _=>h u h1) (Nat.le_refl _),Nat.sub_self]
 rfl
theorem SV {a b:Int} (ha:0≤a) (DN:a≤b) (hb:b≤100000) (h:∀u,a≤u→u<b→full bF jY cs st u):runT bF jY cs a (100000-a).toNat st=runT bF jY cs b (100000-b).toNat st:=by
 rw[KU (b-a).toNat a _ (fun u h1 h2=>h u h1 (by omega)) (by omega)]
 congr 1
 ·omega
 ·omega
theorem WZ {a:Int} (ha:0≤a) (hb:a<100000):runT bF jY cs a (100000-a).toNat st=runT bF jY cs (a+1) (100000-(a+1)).toNat (fill bF jY cs a cs.length st):=by
 rw[show (100000-a).toNat=(100000-(a+1)).toNat+1 by omega,runT]
theorem KZ {ws:List Nat} {k:Nat}:∃j,(ws.foldl (wR bF cs) (some k))=some j∧(j=k∨j∈ws):=by
 induction ws generalizing k with
 | nil=>exact⟨k,rfl,.inl rfl⟩
 |
  cons i ws ih =>
  rw[List.foldl_cons]
  have:∃q,wR bF cs (some k) i=some q∧(q=k∨q=i):=by
   unfold wR
   simp only
   split
   ·exact⟨i,rfl,.inr rfl⟩
   ·exact⟨k,rfl,.inl rfl⟩
  obtain⟨q,hq,hqq⟩:=this
  rw[hq]
  obtain⟨j,h1,h2⟩:=ih (k:=q)
  refine⟨j,h1,?_⟩
  rcases h2 with rfl | h2
  ·rcases hqq with rfl | rfl
   ·exact .inl rfl
   ·exact .inr List.mem_cons_self
  ·exact .inr (List.mem_cons_of_mem _ h2)
theorem wJ:Zf bF cs st t=none↔wt cs st t=[]:=by
 unfold Zf
 cases h:wt cs st t with
 | nil=>exact⟨fun _=>rfl,fun _=>rfl⟩
 |
  cons i ws =>
  refine⟨fun h2 => ?_,fun h2=>(by cases h2)⟩
  rw[List.foldl_cons] at h2
  obtain⟨j,h3,_⟩:=KZ (bF:=bF) (cs:=cs) (ws:=ws) (k:=i)
  rw[show wR bF cs none i=some i from rfl,h3] at h2
  cases h2
theorem Mt {k:Nat} (h:Zf bF cs st t=some k):k∈wt cs st t:=by
 unfold Zf at h
 cases hw:wt cs st t with
 | nil=>rw[hw] at h;cases h
 |
  cons i ws =>
  rw[hw,List.foldl_cons] at h
  obtain⟨j,h3,h4⟩:=KZ (bF:=bF) (cs:=cs) (ws:=ws) (k:=i)
  rw[show wR bF cs none i=some i from rfl,h3] at h
  injection h with h
  subst h
  rcases h4 with rfl | h4
  ·exact List.mem_cons_self
  ·exact List.mem_cons_of_mem _ h4
theorem FX {k:Nat}:k∈wt cs st t↔k<cs.length∧DZ st k<0∧Ho cs k≤t:=by
 simp[wt,isW]
theorem Vu:(wt cs st t).Nodup:=List.Pairwise.filter _ List.nodup_range
theorem Ef {k i:Nat} (hk:k<st.length):DZ (st.set k t) i=if i=k then t else DZ st i:=by
 unfold DZ
 rw[List.getElem?_set]
 by_cases h:i=k
 ·subst h
  simp[hk]
 ·rw[if_neg (fun h'=>h h'.symm),if_neg h]
theorem MY {p q:Nat→Bool} {k:Nat} (hp:p k=false) (h:∀i,i≠k→q i=p i):∀n,(List.range n).countP q=(List.range n).countP p+if k<n∧q k=true then 1 else 0:=by
 intro n
 induction n with
 | zero=>simp
 |
  succ n ih =>
  rw[List.range_succ,List.countP_append,List.countP_append,ih]
  by_cases hk:n=k
  ·subst hk
   simp only[List.countP_singleton,hp]
   cases hq:q n<;>simp
  ·rw[List.countP_singleton,List.countP_singleton,h n hk]
   have:(k<n+1∧q k=true)↔(k<n∧q k=true):=by
    constructor
    ·rintro⟨h1,h2⟩;exact⟨by omega,h2⟩
    ·rintro⟨h1,h2⟩;exact⟨by omega,h2⟩
   simp only[this]
   omega
theorem acJ {k:Nat} {u:Int} (hk:k<cs.length) (hl:st.length=cs.length) (hs:DZ st k<0) (h0:0≤t):bz cs (st.set k t) u=bz cs st u+if t≤u∧u<t+Uh cs k then 1 else 0:=by
 unfold bz
 rw[MY (p:=ZE cs st u) (q:=ZE cs (st.set k t) u) (k:=k)]
 ·congr 1
  have:(k<cs.length∧ZE cs (st.set k t) u k=true)↔(t≤u∧u<t+Uh cs k):=by
   simp only[ZE,Ef (t:=t) (i:=k) (by omega:k<st.length),if_true,Bool.and_eq_true,decide_eq_true_eq]
   constructor
   ·rintro⟨_,⟨_,h1⟩,h2⟩;exact⟨h1,h2⟩
   ·rintro⟨h1,h2⟩;exact⟨hk,⟨h0,h1⟩,h2⟩
  simp only[this]
 ·simp only[ZE]
  rw[decide_eq_false (by omega)]
  rfl
 ·intro i hi
  simp only[ZE,Ef (t:=t) (i:=i) (by omega:k<st.length),if_neg hi]
theorem abW {k:Nat} {u:Int} (hl:st.length=cs.length) (hk:k<cs.length) (h0:0≤t):wt cs (st.set k t) u=(wt cs st u).filter (· != k):=by
 unfold wt
 rw[List.filter_filter]
 refine List.filter_congr fun i hi => ?_
 simp only[isW,Ef (t:=t) (i:=i) (by omega:k<st.length)]
 by_cases h:i=k
 ·subst h
  simp
  omega
 ·simp[h]
def DC (st:List Int):Nat:=st.countP (fun s=>decide (s<0))
theorem yB {k:Nat} (hk:k<st.length) (hs:DZ st k<0) (h0:0≤t):DC (st.set k t)+1=DC st:=by
 unfold DC
 rw[List.countP_set hk]
 have hx:st[k]=DZ st k:=by
  rw[U2 (x:=st[k]) (List.getElem?_eq_getElem hk)]
 have h1:decide (st[k]<0)=true:=by rw[hx];exact decide_eq_true hs
 have h2:decide (t<0)=false:=decide_eq_false (by omega)
 have h3:0<st.countP (fun s=>decide (s<0)):=by
  rw[List.countP_pos_iff]
  exact⟨st[k],List.getElem_mem hk,h1⟩
 simp only[h1,h2,if_true,Bool.false_eq_true,if_false]
 omega
theorem T7 (hl:st.length=cs.length) (h0:0≤t):∀(n m:Nat),DC st≤n→DC st≤m→fill bF jY cs t n st=fill bF jY cs t m st:=by
 intro n
 induction n generalizing st with
 |
  zero =>
  intro m hn hm
  have hf:full bF jY cs st t:=by
   right
   rw[wJ]
   cases hw:wt cs st t with
   | nil=>rfl
   |
    cons i ws =>
    have h1:i∈wt cs st t:=by rw[hw];exact List.mem_cons_self
    obtain⟨h2,h3,_⟩:=FX.1 h1
    have:=yB (t:=t) (by omega:i<st.length) h3 h0
    omega
  rw[uD hf,uD hf]
 |
  succ n ih =>
  intro m hn hm
  cases m with
  |
   zero =>
   have hf:full bF jY cs st t:=by
    right
    rw[wJ]
    cases hw:wt cs st t with
    | nil=>rfl
    |
     cons i ws =>
     have h1:i∈wt cs st t:=by rw[hw];exact List.mem_cons_self
     obtain⟨h2,h3,_⟩:=FX.1 h1
     have:=yB (t:=t) (by omega:i<st.length) h3 h0
     omega
   rw[uD hf,uD hf]
  |
   succ m =>
   rw[fill,fill]
   split
   ·split
    ·rfl
    ·rename_i k hk
     obtain⟨h2,h3,_⟩:=FX.1 (Mt hk)
     have:=yB (t:=t) (by omega:k<st.length) h3 h0
     exact ih (by simp[hl]) m (by omega) (by omega)
   ·rfl
theorem R6:DC st≤st.length:=List.countP_le_length
theorem TX {k:Nat} (hl:st.length=cs.length) (h0:0≤t) (hb:(bz cs st t:Int)<jY) (hk:Zf bF cs st t=some k):fill bF jY cs t cs.length (st.set k t)=fill bF jY cs t cs.length st:=by
 obtain⟨h2,h3,_⟩:=FX.1 (Mt hk)
 have h4:=yB (t:=t) (by omega:k<st.length) h3 h0
 have h5:=R6 (st:=st)
 rw[T7 (st:=st) hl h0 cs.length (cs.length+1) (by omega) (by omega)]
 conv=>rhs;rw[fill,if_pos hb,hk]
def evT (cs:List eT) (st:List Int) (i:Nat):Int:=if 0≤DZ st i then DZ st i+Uh cs i else Ho cs i
def adH (cs:List eT) (st:List Int) (t:Int) (b:Int) (i:Nat):Int:=if t<evT cs st i∧(b<0∨evT cs st i<b) then evT cs st i else b
def later (cs:List eT) (st:List Int) (t:Int):Int:=(List.range cs.length).foldl (adH cs st t) (-1)
structure Way (cs:List eT) (st:List Int) (t:Int):Prop where
 len:st.length=cs.length
 low:∀i,i<cs.length → -1≤DZ st i
 high:∀i,i<cs.length→DZ st i≤t
 bd:∀i,i<cs.length→DZ st i+1000*(DC st:Int)≤10000+1000*(cs.length:Int)
 tm:0≤t∧t+1000*(DC st:Int)≤11000+1000*(cs.length:Int)
theorem Way.set {k:Nat} (h:Way cs st t) (hk:k<cs.length) (hs:DZ st k<0):Way cs (st.set k t) t:=by
 have hl:=h.len
 have UQ:=h.tm
 have h4:=yB (t:=t) (by omega:k<st.length) hs UQ.1
 refine⟨by simp[hl],fun i hi => ?_,fun i hi => ?_,fun i hi => ?_,UQ.1,by omega⟩
 all_goals rw[Ef (by omega:k<st.length)]
 ·have:=h.low i hi
  split<;>omega
 ·have:=h.high i hi
  split<;>omega
 ·have:=h.bd i hi
  split<;>omega
theorem Way.le (h:Way cs st t) (hc:iW cs):t≤35000∧∀i,i<cs.length→DZ st i≤34000:=by
 have hlen:=hc.2
 have UQ:=h.tm
 refine⟨by omega,fun i hi => ?_⟩
 have:=h.bd i hi
 omega
theorem iW.bnd (hc:iW cs) {i:Nat} (hi:i<cs.length):(0≤Ho cs i∧Ho cs i≤10000)∧(1≤Uh cs i∧Uh cs i≤1000):=by
 have hx:cs[i]? = some cs[i]:=List.getElem?_eq_getElem hi
 have:=hc.at hx
 rw[QT hx,aaR hx]
 exact⟨this.1,this.2.1⟩
def DT (bF:Int) (cs:List eT) (ws:List Nat):Nat :=
 if bF=1 then ws.length-1 else if bF=2∨bF=3 then (List.range ws.length).foldl (fun b k=>if Hw bF cs (ws.getD k 0) (ws.getD b 0) then k else b) 0 else 0
theorem PX {ws:List Nat} {k:Nat} (h:∀i j,Hw bF cs i j=false):ws.foldl (wR bF cs) (some k)=some k:=by
 induction ws with
 | nil=>rfl
 |
  cons i ws ih =>
  rw[List.foldl_cons]
  have:wR bF cs (some k) i=some k:=by
   unfold wR
   simp only[h]
   rfl
  rw[this,ih]
theorem Vt {ws:List Nat} (eW:ws≠[]) (hr:0≤bF∧bF≤3):DT bF cs ws<ws.length∧ws[DT bF cs ws]? = ws.foldl (wR bF cs) none:=by
 have hlen:0<ws.length:=List.length_pos_iff.2 eW
 unfold DT
 by_cases h1:bF=1
 ·rw[if_pos h1]
  rcases List.eq_nil_or_concat ws with rfl | ⟨xs,y,rfl⟩
  ·exact absurd rfl eW
  ·rw[List.concat_eq_append,List.foldl_append]
   refine⟨by simp,?_⟩
   simp only[List.length_append,List.length_cons,List.length_nil,Nat.zero_add,Nat.add_sub_cancel,List.foldl_cons,List.foldl_nil]
   rw[List.getElem?_append_right (Nat.le_refl _),Nat.sub_self]
   unfold wR
   split
   ·rfl
   ·simp only[Hw,if_pos h1,if_true]
    rfl
 ·rw[if_neg h1]
  by_cases h2:bF=2∨bF=3
  ·rw[if_pos h2]
   have anG:∀i,Hw bF cs i i=false:=fun i=>by
    unfold Hw
    rw[if_neg h1]
    split
    ·exact decide_eq_false (by omega)
    ·split
     ·exact decide_eq_false (by omega)
     ·rfl
   have key:∀n,n<ws.length→(List.range (n+1)).foldl (fun b k=>if Hw bF cs (ws.getD k 0) (ws.getD b 0) then k else b) 0<ws.length ∧
     ws[(List.range (n+1)).foldl (fun b k=>if Hw bF cs (ws.getD k 0) (ws.getD b 0) then k else b) 0]? = (ws.take (n+1)).foldl (wR bF cs) none:=by
    intro n
    induction n with
    |
     zero =>
     intro _
     have:(List.range (0+1)).foldl (fun b k=>if Hw bF cs (ws.getD k 0) (ws.getD b 0) then k else b) 0=0:=by
      simp[List.range_succ,anG]
     rw[this]
     refine⟨hlen,?_⟩
     cases ws with
     | nil=>exact absurd rfl eW
     | cons i ws=>rfl
    |
     succ n ih =>
     intro hn
     obtain⟨g1,g2⟩:=ih (by omega)
     rw[List.range_succ,List.foldl_append,List.foldl_cons,List.foldl_nil]
     generalize (List.range (n+1)).foldl (fun b k=>if Hw bF cs (ws.getD k 0) (ws.getD b 0) then k else b) 0=b at *
     obtain⟨x,hx⟩:∃x,ws[n+1]? = some x:=⟨_,List.getElem?_eq_getElem hn⟩
     obtain⟨y,hy⟩:∃y,ws[b]? = some y:=⟨_,List.getElem?_eq_getElem g1⟩
     rw[List.take_add_one,hx,List.foldl_append,←g2,hy]
     simp only[Option.toList_some,List.foldl_cons,List.foldl_nil,List.getD_eq_getElem?_getD,hx,hy,Option.getD_some,wR]
     split
     ·exact⟨hn,hx⟩
     ·exact⟨g1,hy⟩
   have:=key (ws.length-1) (by omega)
   rw[show ws.length-1+1=ws.length by omega,List.take_of_length_le (Nat.le_refl _)] at this
   exact this
  ·rw[if_neg h2]
   refine⟨hlen,?_⟩
   have hb:∀i j,Hw bF cs i j=false:=fun i j=>by
    unfold Hw
    rw[if_neg h1,if_neg (by omega),if_neg (by omega)]
   cases ws with
   | nil=>exact absurd rfl eW
   |
    cons i ws =>
    rw[List.foldl_cons,show wR bF cs none i=some i from rfl,PX hb]
    rfl
end
end Go.PM
namespace Go.PM
def I9 (st:List Int) (i:Nat):Bool:=decide (DZ st i<0)
def YN (u e:Int):Bool:=decide (u<e)
section
variable {bF jY:Int} {cs:List eT} {st:List Int} {t:Int}
theorem iW.sorted (hc:iW cs):∀ {i j:Nat},i≤j→j<cs.length→Ho cs i≤Ho cs j:=by
 intro i j PV hj
 induction j with
 |
  zero =>
  have:i=0:=by omega
  subst this
  exact Int.le_refl _
 |
  succ j ih =>
  rcases Nat.lt_or_ge i (j+1) with h | h
  ·have h1:=ih (by omega) (by omega)
   have hx:cs[j+1]? = some cs[j+1]:=List.getElem?_eq_getElem hj
   have hy:cs[j]? = some cs[j]:=List.getElem?_eq_getElem (by omega)
   have h2:=(hc.1 (j+1) _ hx).2 _ (by omega) (by rw[Nat.add_sub_cancel];exact hy)
   rw[QT hx]
   rw[QT hy] at h1
   omega
  ·have:i=j+1:=by omega
   subst this
   exact Int.le_refl _
theorem Cc {bJ:Nat} (aaG:bJ≤cs.length) (past:∀i,i<bJ→Ho cs i≤t) (Yh:∀i,bJ≤i→i<cs.length→t<Ho cs i):wt cs st t=(List.range bJ).filter (I9 st):=by
 unfold wt
 rw[show cs.length=bJ+(cs.length-bJ) by omega,List.range_add,List.filter_append]
 have h1:(List.range bJ).filter (isW cs st t)=(List.range bJ).filter (I9 st):=by
  refine List.filter_congr fun i hi => ?_
  rw[List.mem_range] at hi
  simp[isW,I9,past i hi]
 have h2:((List.range (cs.length-bJ)).map fun x=>bJ+x).filter (isW cs st t)=[]:=by
  rw[List.filter_eq_nil_iff]
  intro i hi
  obtain⟨j,hj,rfl⟩:=List.mem_map.1 hi
  rw[List.mem_range] at hj
  have:=Yh (bJ+j) (by omega) (by omega)
  simp only[isW,Bool.and_eq_true,decide_eq_true_eq]
  omega
 rw[h1,h2,List.append_nil]
structure Hi (bF jY:Int) (cs:List eT) (st:List Int) (t:Int) (bJ:Nat) (ws:List Nat) (ends:List Int):Prop where
 len:st.length=cs.length
 low:∀i,i<cs.length → -1≤DZ st i
 high:∀i,i<cs.length→DZ st i≤t
 bd:∀i,i<cs.length→DZ st i+1000*(DC st:Int)≤10000+1000*(cs.length:Int)
 tm : -1≤t
 JH:bJ≤cs.length
 past:∀i,i<bJ→Ho cs i≤t
 Yh:∀i,bJ≤i→i<cs.length→t<Ho cs i∧DZ st i<0
 TZ:ws=wt cs st t
 cnt:∀u,t≤u→ends.countP (YN u)=bz cs st u
 ef:∀e∈ends,t<e
 eb:∀e∈ends,e+1000*(DC st:Int)≤11000+1000*(cs.length:Int)
 fl:full bF jY cs st t
 room:ws.length+ends.length≤bJ
 es:(ends.length:Int)≤jY
 run:runT bF jY cs (t+1) (100000-(t+1)).toNat st=stL bF jY cs
theorem DX {n i:Nat} (h:i<n):DZ (List.replicate n (-1)) i = -1:=U2 (by rw[List.getElem?_replicate,if_pos h])
theorem Hi.start (hc:iW cs) (hs:1≤jY):Hi bF jY cs (List.replicate cs.length (-1)) (-1) 0 [] []:=by
 have hw:wt cs (List.replicate cs.length (-1)) (-1)=[]:=by
  rw[Cc (Nat.zero_le _) (fun i hi=>by omega) fun i _ hi=>by have:=hc.bnd hi;omega]
  rfl
 have hu:DC (List.replicate cs.length (-1))=cs.length:=by simp[DC,List.countP_replicate]
 refine⟨by simp,fun i hi=>by rw[DX hi];decide,fun i hi=>by rw[DX hi];decide,fun i hi=>by rw[DX hi,hu];omega,by decide,Nat.zero_le _,fun i hi=>by omega,fun i _ hi=>⟨by have:=hc.bnd hi;omega,by rw[DX hi];decide⟩,hw.symm,fun u _ => ?_,fun e he=>(by cases he),fun e he=>(by cases he),.inr (wJ.2 hw),Nat.le_refl _,by simp;omega,rfl⟩
 unfold bz
 rw[(List.countP_eq_zero (p:=ZE cs (List.replicate cs.length (-1)) u)).2]
 ·rfl
 ·intro i hi
  rw[List.mem_range] at hi
  simp only[ZE,DX hi,Bool.and_eq_true,decide_eq_true_eq]
  omega
def M9 (w:Bool) (b e:Int):Int:=if b<0∨(w=true∧e<b) then e else b
theorem adV {es:List Int} {b:Int} (h:0≤b):es.foldl (M9 false) b=b:=by
 induction es with
 | nil=>rfl
 |
  cons e es ih =>
  rw[List.foldl_cons]
  have:M9 false b e=b:=by
   unfold M9
   rw[if_neg (by simp;omega)]
  rw[this,ih]
theorem ZX:∀ {es:List Int} {b:Int},(∀e∈es,0≤e)→(es.foldl (M9 true) b=b∨es.foldl (M9 true) b∈es)∧(∀e∈es,es.foldl (M9 true) b≤e)∧(0≤b→es.foldl (M9 true) b≤b)∧(es≠[]→0≤es.foldl (M9 true) b)
 | [],b,_=>⟨.inl rfl,fun e he=>(by cases he),fun _=>Int.le_refl _,fun h=>absurd rfl h⟩
 |
  e::es,b,h=>by
  rw[List.foldl_cons]
  have h1:=h e List.mem_cons_self
  have h2:∀e'∈es,0≤e':=fun e' he=>h e' (List.mem_cons_of_mem _ he)
  have hm:(M9 true b e=b∨M9 true b e=e)∧M9 true b e≤e∧(0≤b→M9 true b e≤b)∧0≤M9 true b e:=by
   unfold M9
   by_cases hc:b<0∨(true=true∧e<b)
   ·rw[if_pos hc]
    refine⟨.inr rfl,Int.le_refl _,fun hb => ?_,h1⟩
    rcases hc with hc | hc<;>omega
   ·rw[if_neg hc]
    simp at hc
    exact⟨.inl rfl,hc.2,fun _=>Int.le_refl _,hc.1⟩
  obtain⟨m1,m2,m3,m4⟩:=hm
  obtain⟨g1,g2,g3,g4⟩:=ZX (es:=es) (b:=M9 true b e) h2
  have g3:=g3 m4
  refine⟨?_,?_,fun hb=>by have:=m3 hb;omega,fun _ => ?_⟩
  ·rcases g1 with g1 | g1
   ·rw[g1]
    rcases m1 with m1 | m1
    ·exact .inl m1
    ·rw[m1];exact .inr List.mem_cons_self
   ·exact .inr (List.mem_cons_of_mem _ g1)
  ·intro e' he
   rcases List.mem_cons.1 he with rfl | he
   ·omega
   ·exact g2 e' he
  ·rcases g1 with g1 | g1
   ·rw[g1];exact m4
   ·exact h2 _ g1
def My (cs:List eT) (bJ:Nat):Int:=if bJ<cs.length then Ho cs bJ else -1
def Et (cs:List eT) (bJ:Nat) (ws:List Nat) (ends:List Int):Int:=ends.foldl (M9 (decide (0<ws.length))) (My cs bJ)
theorem Hi.VE {bJ:Nat} {ws:List Nat} {ends:List Int} (h:Hi bF jY cs st t bJ ws ends):ends.length=bz cs st t:=by
 rw[←h.cnt t (Int.le_refl _),List.countP_eq_length.2]
 intro e he
 exact decide_eq_true (h.ef e he)
theorem Hi.time {bJ:Nat} {ws:List Nat} {ends:List Int} (h:Hi bF jY cs st t bJ ws ends) (hc:iW cs) (hs:1≤jY) (hg:bJ<cs.length∨0<ws.length) :
  (t<Et cs bJ ws ends∧Et cs bJ ws ends+1000*(DC st:Int)≤11000+1000*(cs.length:Int))∧(∀i,bJ≤i→i<cs.length→Et cs bJ ws ends≤Ho cs i) ∧
   (bJ<cs.length∧Ho cs bJ=Et cs bJ ws ends∨0<ws.length∧Et cs bJ ws ends∈ends)∧runT bF jY cs (Et cs bJ ws ends) (100000-Et cs bJ ws ends).toNat st=stL bF jY cs:=by
 have UQ:=h.tm
 have M5:=R6 (st:=st)
 have hlen:=h.len
 have he0:∀e∈ends,0≤e:=fun e he=>by have:=h.ef e he;omega
 have amO:=hc.2
 by_cases hw:0<ws.length
 ·have hbz:jY≤(bz cs st t:Int):=by
   rcases h.fl with hf | hf
   ·exact hf
   ·rw[wJ,←h.TZ] at hf
    rw[hf] at hw
    simp at hw
  have eW:ends≠[]:=by
   intro he
   have:=h.VE
   rw[he] at this
   simp at this
   omega
  obtain⟨g1,g2,g3,g4⟩:=ZX (es:=ends) (b:=My cs bJ) he0
  have Tk:Et cs bJ ws ends=ends.foldl (M9 true) (My cs bJ):=by unfold Et;rw[decide_eq_true hw]
  rw[Tk]
  generalize ends.foldl (M9 true) (My cs bJ)=w at *
  have g4:=g4 eW
  have Jz:(bJ<cs.length∧Ho cs bJ=w)∨w∈ends:=by
   rcases g1 with g1 | g1
   ·unfold My at g1
    split at g1
    ·rename_i lO
     exact .inl ⟨lO,g1.symm⟩
    ·omega
   ·exact .inr g1
  have htw:t<w∧w+1000*(DC st:Int)≤11000+1000*(cs.length:Int):=by
   rcases Jz with⟨h1,h2⟩ | h1
   ·have:=h.Yh bJ (Nat.le_refl _) h1
    have:=hc.bnd h1
    omega
   ·exact⟨h.ef _ h1,h.eb _ h1⟩
  refine⟨htw,fun i h1 h2 => ?_,Jz.imp id fun h1=>⟨hw,h1⟩,?_⟩
  ·have h3:=hc.sorted h1 h2
   have h4:=hc.bnd (i:=bJ) (by omega)
   have h5:My cs bJ=Ho cs bJ:=by unfold My;rw[if_pos (by omega)]
   have:=g3 (by rw[h5];omega)
   omega
  ·rw[←h.run]
   refine(SV (by omega) (by omega) (by omega) fun u h1 h2 => .inl ?_).symm
   rw[←h.cnt u (by omega),(List.countP_eq_length (p:=YN u)).2 fun e he=>decide_eq_true (by have:=g2 e he;omega),h.VE]
   exact hbz
 ·have lO:bJ<cs.length:=by omega
  have h5:My cs bJ=Ho cs bJ:=by unfold My;rw[if_pos lO]
  have h4:=hc.bnd lO
  have hf:=(h.Yh bJ (Nat.le_refl _) lO).1
  have Tk:Et cs bJ ws ends=Ho cs bJ:=by unfold Et;rw[decide_eq_false hw,adV (by rw[h5];omega),h5]
  rw[Tk]
  refine⟨⟨hf,by omega⟩,fun i h1 h2=>hc.sorted h1 h2,.inl ⟨lO,rfl⟩,?_⟩
  rw[←h.run]
  refine(SV (by omega) (by omega) (by omega) fun u h1 h2 => .inr ?_).symm
  rw[wJ,Cc h.JH (fun i hi=>by have:=h.past i hi;omega) fun i h3 h4=>by have:=hc.sorted h3 h4;omega]
  have e1:=Cc (st:=st) h.JH h.past fun i h3 h4=>(h.Yh i h3 h4).1
  rw[←e1,←h.TZ]
  exact List.eq_nil_of_length_eq_zero (by omega)
theorem Hi.done {bJ:Nat} {ws:List Nat} {ends:List Int} (h:Hi bF jY cs st t bJ ws ends) (aaG:¬bJ<cs.length) (hw:¬0<ws.length):st=stL bF jY cs:=by
 rw[←h.run]
 refine(TY _ _ fun u hu => .inr ?_).symm
 have lO:=h.JH
 have e1:=Cc (st:=st) h.JH h.past fun i h3 h4=>(h.Yh i h3 h4).1
 rw[wJ,Cc h.JH (fun i hi=>by have:=h.past i hi;omega) fun i h3 h4=>by omega,←e1,←h.TZ]
 exact List.eq_nil_of_length_eq_zero (by omega)
structure Ph4 (bF jY:Int) (cs:List eT) (Yb:List Int) (now:Int) (bJ X4:Nat) (st:List Int) (ws:List Nat) (ends:List Int):Prop where
 Uw:Way cs st now
 TZ:ws=wt cs st now
 cnt:∀u,now≤u→ends.countP (YN u)=bz cs st u
 ef:∀e∈ends,now<e
 eb:∀e∈ends,e+1000*(DC st:Int)≤11000+1000*(cs.length:Int)
 fl:fill bF jY cs now cs.length st=fill bF jY cs now cs.length Yb
 past:∀i,i<bJ→Ho cs i≤now
 Yh:∀i,bJ≤i→i<cs.length→now<Ho cs i∧DZ st i<0
 X4:ws.length+ends.length=X4
 es:(ends.length:Int)≤jY
theorem AM:∀ {l:List Nat} {i k:Nat},l.Nodup→l[i]? = some k→l.eraseIdx i=l.filter (· != k)
 | [],_,_,_,h=>by cases h
 |
  x::l,0,k,hn,h=>by
  injection h with h
  subst h
  rw[List.nodup_cons] at hn
  rw[List.eraseIdx_cons_zero,List.filter_cons_of_neg (by simp),List.filter_eq_self.2]
  intro y hy
  have:y≠x:=fun he=>hn.1 (he▸hy)
  simpa using this
 |
  x::l,i+1,k,hn,h=>by
  rw[List.nodup_cons] at hn
  rw[List.getElem?_cons_succ] at h
  have hx:x≠k:=fun he=>hn.1 (he▸List.mem_of_getElem? h)
  rw[List.eraseIdx_cons_succ,List.filter_cons_of_pos (by simpa using hx),AM hn.2 h]
theorem Ph4.step {now:Int} {Yb:List Int} {bJ X4:Nat} {ws:List Nat} {ends:List Int} (h:Ph4 bF jY cs Yb now bJ X4 st ws ends) (hc:iW cs) (hr:0≤bF∧bF≤3) (hb:(ends.length:Int)<jY) (eW:0<ws.length) :
  ∃k,ws[DT bF cs ws]? = some k∧k<cs.length∧DT bF cs ws<ws.length∧(0≤now∧now≤35000)∧Ph4 bF jY cs Yb now bJ X4 (st.set k now) (ws.eraseIdx (DT bF cs ws)) (ends++[now+Uh cs k]):=by
 have S0:ws≠[]:=fun he=>by rw[he] at eW;simp at eW
 obtain⟨g1,g2⟩:=Vt (cs:=cs) S0 hr
 obtain⟨k,hk⟩:∃k,ws[DT bF cs ws]? = some k:=⟨_,List.getElem?_eq_getElem g1⟩
 have hnx:Zf bF cs st now=some k:=by
  unfold Zf
  rw[←h.TZ,←g2,hk]
 obtain⟨m1,m2,m3⟩:=FX.1 (Mt hnx)
 have UQ:=h.Uw.tm
 have hle:=(h.Uw.le hc).1
 have hbz:(bz cs st now:Int)=ends.length:=by
  rw[←h.cnt now (Int.le_refl _),(List.countP_eq_length (p:=YN now)).2 fun e he=>decide_eq_true (h.ef e he)]
 have Mj:k<st.length:=by rw[h.Uw.len];exact m1
 have hus:=yB (t:=now) Mj m2 UQ.1
 have hwk:=(hc.bnd m1).2
 refine⟨k,hk,m1,g1,⟨UQ.1,hle⟩,h.Uw.set m1 m2,?_,?_,?_,?_,?_,h.past,?_,?_,?_⟩
 ·rw[abW h.Uw.len m1 UQ.1,←h.TZ]
  exact AM (by rw[h.TZ];exact Vu) hk
 ·intro u hu
  rw[List.countP_append,h.cnt u hu,acJ m1 h.Uw.len m2 UQ.1,List.countP_singleton]
  congr 1
  simp only[YN,decide_eq_true_eq]
  by_cases hq:u<now+Uh cs k
  ·rw[if_pos hq,if_pos ⟨hu,hq⟩]
  ·rw[if_neg hq,if_neg fun h'=>hq h'.2]
 ·intro e he
  rcases List.mem_append.1 he with he | he
  ·exact h.ef e he
  ·rw[List.mem_singleton] at he
   omega
 ·intro e he
  rcases List.mem_append.1 he with he | he
  ·have:=h.eb e he
   omega
  ·rw[List.mem_singleton] at he
   omega
 ·rw[TX h.Uw.len UQ.1 (by rw[hbz];exact hb) hnx,h.fl]
 ·intro i h1 h2
  have h3:=h.Yh i h1 h2
  refine⟨h3.1,?_⟩
  rw[Ef Mj,if_neg (fun he=>by subst he;omega)]
  exact h3.2
 ·rw[List.length_eraseIdx_of_lt g1,List.length_append,List.length_cons,List.length_nil]
  have:=h.X4
  omega
 ·rw[List.length_append,List.length_cons,List.length_nil]
  omega
theorem Ph4.done {now:Int} {Yb:List Int} {bJ X4:Nat} {ws:List Nat} {ends:List Int} (h:Ph4 bF jY cs Yb now bJ X4 st ws ends) (hc:iW cs) (lO:bJ≤cs.length) (ht:X4≤bJ) (hf:jY≤(ends.length:Int)∨ws=[])
  (hr:runT bF jY cs now (100000-now).toNat Yb=stL bF jY cs):Hi bF jY cs st now bJ ws ends:=by
 have UQ:=h.Uw.tm
 have hle:=(h.Uw.le hc).1
 have hbz:(bz cs st now:Int)=ends.length:=by
  rw[←h.cnt now (Int.le_refl _),(List.countP_eq_length (p:=YN now)).2 fun e he=>decide_eq_true (h.ef e he)]
 have aaE:full bF jY cs st now:=by
  rcases hf with hf | hf
  ·exact .inl (by rw[hbz];exact hf)
  ·exact .inr (wJ.2 (by rw[←h.TZ];exact hf))
 refine⟨h.Uw.len,h.Uw.low,h.Uw.high,h.Uw.bd,by omega,lO,h.past,h.Yh,h.TZ,h.cnt,h.ef,h.eb,aaE,by rw[h.X4];exact ht,h.es,?_⟩
 have h1:=uD aaE cs.length
 rw[h.fl] at h1
 rw[WZ UQ.1 (by omega),h1] at hr
 exact hr
end
end Go.PM
namespace Go.PM
end Go.PM
namespace Go.PM
section
variable {α:Type} {f:α→VV} {H:aA} {b g e lo:Nat} {X Y:List α}
end
end Go.PM
namespace Go.PM
def TW (N:Nat) (hi:Int) (st:List (Nat×Int)):Prop:=∀p∈st,p.1<N∧1≤p.2∧p.2≤hi
theorem TW.cons {N:Nat} {hi:Int} {p:Nat×Int} {st:List (Nat×Int)} (h:TW N hi (p::st)):(p.1<N∧1≤p.2∧p.2≤hi)∧TW N hi st:=⟨h p List.mem_cons_self,fun q hq=>h q (List.mem_cons_of_mem _ hq)⟩
theorem TW.of {N:Nat} {hi:Int} {p:Nat×Int} {st:List (Nat×Int)} (hp:p.1<N∧1≤p.2∧p.2≤hi) (h:TW N hi st):TW N hi (p::st):=fun q hq=>by
 rcases List.mem_cons.1 hq with rfl | hq
 ·exact hp
 ·exact h q hq
end Go.PM
namespace Go.PM
structure aqH (bF jY room:Int) (cs:List eT) where
 I:Nat→Nat→List Nat→List Int→List Int→Prop
 A:Nat→Int→Nat→List Nat→List Int→List Int→Prop
 S:Nat→Int→Nat→List Nat→List Int→List Int→Prop
 bI:∀ {m bJ ws ends st},I m bJ ws ends st→bJ≤cs.length∧st.length=cs.length∧ws.length≤24∧ends.length≤24
 bA:∀ {m now bJ ws ends st},A m now bJ ws ends st→bJ≤cs.length∧st.length=cs.length∧ws.length≤24∧ends.length≤24
 bS:∀ {m now bJ ws ends st},S m now bJ ws ends st→bJ≤cs.length∧st.length=cs.length∧ws.length≤24∧ends.length≤24∧(∀i∈ws,i<cs.length)∧(0≤now∧now≤100000)
 start:∃m,I m 0 [] [] (List.replicate cs.length (-1))
 toA:∀ {m bJ ws ends st},I m bJ ws ends st→bJ<cs.length∨0<ws.length→A m (Et cs bJ ws ends) bJ ws (ends.filter (YN (Et cs bJ ws ends))) st
 aqM:∀ {m now bJ ws ends st},A m now bJ ws ends st→bJ<cs.length→Ho cs bJ=now→A m now (bJ+1) (if (ws.length:Int)+(ends.length:Int)<room then ws++[bJ] else ws) ends st
 toS:∀ {m now bJ ws ends st},A m now bJ ws ends st→¬(bJ<cs.length∧Ho cs bJ=now)→S m now bJ ws ends st
 arB:∀ {m now bJ ws ends st},S m now bJ ws ends st→(ends.length:Int)<jY→0<ws.length→∃k,ws[DT bF cs ws]? = some k∧S m now bJ (ws.eraseIdx (DT bF cs ws)) (ends++[now+Uh cs k]) (st.set k now)
 toI:∀ {m now bJ ws ends st},S m now bJ ws ends st→¬((ends.length:Int)<jY∧0<ws.length)→∃m',m'<m∧I m' bJ ws ends st
structure StE (bF jY room:Int) (cs:List eT) (n g1 k1 c1 g2 k2 c2 bJ:Nat) (ρ:cR):Prop where
 r0:ρ 0=VI bF
 r1:ρ 1=VI jY
 r2:ρ 2=VI room
 r3:ρ 3=VN cs
 r9:ρ 9 = .ref n 0 0 cs.length cs.length
 r10:ρ 10 = .ref (n+1) g1 0 k1 c1
 r11:ρ 11 = .ref (n+2) g2 0 k2 c2
 ZP:ρ 12=VI bJ
structure Part {α:Type} (all xs:List α):Prop where
 le:xs.length≤all.length
 tk:all.take xs.length=xs
theorem Part.get {α:Type} {all xs:List α} (h:Part all xs) {i:Nat} {x:α} (hx:xs[i]? = some x):all[i]? = some x:=by
 rw[←h.tk,List.getElem?_take] at hx
 split at hx
 ·exact hx
 ·cases hx
theorem Part.fz {α:Type} {f:α→VV} {e b g:Nat} {all xs:List α} {w:Bool} {H:aA} (h:Part all xs) (hp:∀x,aR (f x)=true) (hr:aQ H b g=some (all.map f,e,w)):fz depth H (.ref b g 0 xs.length all.length)=some (bL f xs):=by
 rw[HH hr (by rw[List.length_map];exact h.le) h.le (dQ hp),←List.map_take,h.tk]
theorem StE.C0 {bF jY room:Int} {cs:List eT} {n g1 k1 c1 g2 k2 c2 bJ:Nat} {ρ:cR} (h:StE bF jY room cs n g1 k1 c1 g2 k2 c2 bJ ρ):StE bF jY room cs n g1 k1 c1 g2 k2 c2 bJ (Dz (n+3) ρ):=by
 obtain⟨h0,h1,h2,h3,h9,h10,h11,h12⟩:=h
 refine⟨?_,?_,?_,?_,?_,?_,?_,?_⟩
 ·rw[fD,h0];rfl
 ·rw[fD,h1];rfl
 ·rw[fD,h2];rfl
 ·rw[fD,h3,vP (Nx _)]
 ·rw[fD,h9,yT (by omega)]
 ·rw[fD,h10,yT (by omega)]
 ·rw[fD,h11,yT (by omega)]
 ·rw[fD,h12];rfl
end Go.PM
namespace Go.PM
theorem Wy {p:Nat→Bool} {a b:Nat} (h:a≤b):((List.range b).filter p).length≤((List.range a).filter p).length+(b-a):=by
 obtain⟨d,rfl⟩:∃d,b=a+d:=⟨b-a,by omega⟩
 rw[List.range_add,List.filter_append,List.length_append]
 have:=List.length_filter_le p ((List.range d).map fun x=>a+x)
 simp only[List.length_map,List.length_range] at this
 omega
structure StA (bF jY:Int) (cs:List eT) (m:Nat) (now:Int) (bJ:Nat) (ws:List Nat) (ends st:List Int) (t:Int) (Eb:Nat) (ws0:List Nat) (HZ:List Int):Prop where
 imp:Hi bF jY cs st t Eb ws0 HZ
 gd:Eb<cs.length∨0<ws0.length
 ms:m=2*(cs.length-Eb)+ws0.length
 nw:now=Et cs Eb ws0 HZ
 c0:Eb≤bJ
 c1:bJ≤cs.length
 eq:∀i,Eb≤i→i<bJ→Ho cs i=now
 TZ:ws=(List.range bJ).filter (I9 st)
 enq:ends=HZ.filter (YN now)
theorem StA.bnd {bF jY:Int} {cs:List eT} {m:Nat} {now:Int} {bJ:Nat} {ws:List Nat} {ends st:List Int} {t:Int} {Eb:Nat} {ws0:List Nat} {HZ:List Int} (h:StA bF jY cs m now bJ ws ends st t Eb ws0 HZ):ws.length+ends.length≤bJ∧ws.length≤ws0.length+(bJ-Eb)∧ends.length≤HZ.length:=by
 have h1:=Wy (p:=I9 st) h.c0
 have h2:=Cc (st:=st) h.imp.JH h.imp.past fun i h3 h4=>(h.imp.Yh i h3 h4).1
 rw[←h2,←h.imp.TZ,←h.TZ] at h1
 have h3:=List.length_filter_le (YN now) HZ
 rw[←h.enq] at h3
 have h4:=h.imp.room
 have h5:=h.c0
 omega
structure StS (bF jY:Int) (cs:List eT) (m:Nat) (now:Int) (bJ:Nat) (ws:List Nat) (ends st:List Int) (Yb:List Int) (w2 e2:Nat):Prop where
 ph:Ph4 bF jY cs Yb now bJ (w2+e2) st ws ends
 c1:bJ≤cs.length
 tc:w2+e2≤bJ
 run:runT bF jY cs now (100000-now).toNat Yb=stL bF jY cs
 wle:ws.length≤w2
 ms:2*(cs.length-bJ)+w2<m∨(2*(cs.length-bJ)+w2=m∧0<w2∧(e2:Int)<jY)
def stR (cD:List Int) (n:Nat) (r:VV) (L:aA):Prop:=r = .ref n 0 0 cD.length cD.length∧L[0]? = some (.row 0 (cD.map nV) 1 true)
def aiH (cD:List Int) (n:Nat) (r:VV) (L:aA):Prop:=r = .ref n 0 0 cD.length cD.length∧L=[.row 0 (cD.map nV) 1 true]
theorem aiH.to {cD:List Int} {n:Nat} {r:VV} {L:aA} (h:aiH cD n r L):stR cD n r L:=⟨h.1,by rw[h.2];rfl⟩
end Go.PM
namespace Go.PM
def aoP (bF jY:Int) (cs:List eT):Prop:=(0≤bF∧bF≤3)∧(1≤jY∧jY≤8)∧iW cs
noncomputable instance (bF jY:Int) (cs:List eT):Decidable (aoP bF jY cs):=Classical.propDecidable _
theorem iW.mem {cs:List eT} (h:iW cs) {c:eT} (hc:c∈cs):(0≤c.t∧c.t≤10000)∧(1≤c.w∧c.w≤1000)∧(0≤c.k∧c.k≤9):=by
 obtain⟨i,hi⟩:=List.getElem?_of_mem hc
 exact h.at hi
theorem FC.mono {f:Nat} {args:List VV} {R R':Nat→VV→aA→Prop} (h:FC f args R) (hR:∀n r L,R n r L→R' n r L):FC f args R':=fun n=>(h n).mono fun _ _ ⟨L,h1,h2,h3,h4⟩=>⟨L,h1,h2,h3,hR _ _ _ h4⟩
theorem Hi.all {bF jY:Int} {cs:List eT} {st:List Int} {t:Int} {bJ:Nat} {ws:List Nat} {ends:List Int} (h:Hi bF jY cs st t bJ ws ends) (aaG:¬bJ<cs.length) (hw:¬0<ws.length):∀i,i<cs.length→0≤DZ st i:=by
 intro i hi
 have lO:=h.JH
 rcases Int.lt_or_le (DZ st i) 0 with h1 | h1
 ·have h2:i∈wt cs st t:=FX.2 ⟨hi,h1,h.past i (by omega)⟩
  rw[←h.TZ,List.eq_nil_of_length_eq_zero (by omega:ws.length=0)] at h2
  cases h2
 ·exact h1
end Go.PM
namespace Go.PM
theorem LR.of {cD:List Int} {ok:Bool} {n:Nat} {r:VV} {L:aA} (h:stR cD n r L):LR cD ok n (.eQ [r,.sc (.bool ok)]) L:=⟨r,rfl,.inr ⟨0,0,cD.length,h.1,Nat.le_refl _,h.2⟩⟩
end Go.PM
namespace Go.PM
theorem LR.fz {cD:List Int} {ok:Bool} {n:Nat} {v:VV} {L:aA} (h:(v = .tree [] .nil∧cD=[])∨∃i g c,v = .ref (n+i) g 0 cD.length c∧cD.length≤c∧L[i]? = some (.row g (cD.map nV) 1 true)):PM.fz depth (List.replicate n iY.dead++L) v=some (Z8 cD):=by
 rcases h with⟨rfl,rfl⟩ | ⟨i,g,c,rfl,h2,h3⟩
 ·exact DL
 ·exact R8 (fun _=>rfl) (by rw[Yv];exact cM.2 h3) h2
end Go.PM
namespace Go.PM
open Go.Lib
end Go.PM
namespace Go.PM
theorem MA {f lo:Nat} {args kI:List VV} {r:VV} {H:aA} {K:VV→aA→Prop} (h:TC f kI r) (xU:CC.contains f=false) (Ym:aJ kI=true) (hf:args.mapM (fz depth H)=some kI) (hr:Gf r=true) (hk:K r H):dD f args lo H K:=by
 rw[h.flat xU Ym hf hr]
 exact hk
theorem Es (l:List UInt8):cX .neq (.string ⟨l.toArray⟩) (.string ⟨l.toArray⟩)=some (.bool false):=by rw[LD];simp
end Go.PM
namespace Go.PM
set_option maxHeartbeats 2000000 in
theorem Ab (Tz:List ByteArray) (t1:Int) (Tp:okS Tz):TC 8 [fU Tz,VI t1] (.sc (.bool true)):=by
 refine TC.walk ⟨true,false⟩ Ah rfl (Nat.le_of_ble_eq_true rfl) (by simp only[aJ,eI];rfl) rfl ?_
 have W3:=FG Tz (1000000) Tp (by omega)
 by_cases aiC:Xy Tz (1000000)<0
 ·rw[acV aiC (by omega)] at W3
  simp only[mV,kZ,W3,Int.reduceNeg,Int.reduceLT,VX,Nat.reduceEqDiff,Nat.reduceAdd]
  exact aG rfl
 obtain⟨le0,UT,Yi⟩:=aaY (xs:=Tz) (l:=1000000) (by omega)
 have Yg:Tz.length≤1000000:=by omega
 have Kc:∀s∈Tz,s.size≤1000000000:=fun s h=>by have:=Yi s h;omega
 simp only[mV,kZ,W3,aiC,VX,Nat.reduceEqDiff,Nat.reduceAdd]
 have t0':=fun b=>E1 Tz b (by omega)
 have cs:=Hg Tz t1 (by omega) Kc
 have ci:=Ht Tz t1 (by omega) Kc
 obtain⟨s,k,hsk⟩:=XF Tz t1
 rw[hsk] at cs ci
 have pa:aJ [fU Tz,VI t1]=true:=by simp only[aJ,eI];rfl
 refine WV (t0' false) rfl FV (fun _=>rfl) fun r1 H1 p1 s1 => ?_
 simp only[VX,Nat.reduceEqDiff,Nat.reduceAdd]
 refine MA cs rfl pa (Yq (s1.pre (List.prefix_refl _)).now (aG rfl)) rfl ?_
 simp only[VX,Nat.reduceEqDiff,Nat.reduceAdd]
 refine WU (t0' false) rfl FV (fun _=>rfl) fun b2 H2 p2 lo2 r2 => ?_
 simp only[VX,Nat.reduceEqDiff,Nat.reduceAdd]
 refine MA ci rfl pa (Yq (Lq (fun _=>rfl) (lI (List.prefix_refl _) r2)) (aG rfl)) rfl ?_
 simp only[Es,OA,VX,Nat.reduceEqDiff,Nat.reduceAdd]
 refine WU (t0' false) rfl FV (fun _=>rfl) fun b3 H3 p3 lo3 r3 => ?_
 simp only[VX,Nat.reduceEqDiff,Nat.reduceAdd]
 refine Bw Tz (by omega) (lI p3 r2) r3 ?_
 simp only[VX,Nat.reduceEqDiff,Nat.reduceAdd]
 refine WV (t0' true) rfl FV (fun _=>rfl) fun r4 H4 p4 s4 => ?_
 simp only[VX,Nat.reduceEqDiff,Nat.reduceAdd]
 refine MA ci rfl pa (Yq (s4.pre (List.prefix_refl _)).now (aG rfl)) rfl ?_
 simp only[Es,OA,VX,Nat.reduceEqDiff,Nat.reduceAdd]
 exact aG rfl
end Go.PM
namespace Go.PM
open Go.Proofs
theorem C6 {P:Program} {w:World} {name:String} {d:DataW Unit}:∀ {l:List (String×DataW Unit)} {ps:List MemPlace},DataW.LaidVars P w l ps→(name,d)∈l →
  ∃g t cs fuel p,P.globalNamed name=some g∧(P.globals[g]?).map (·.type)=some t∧w.var? P name=some cs∧DataW.trod (fun _=>()) P w 0 (fun _=>true) false fuel t cs.toList=some (d,p)
 | [],_,_,hm=>by cases hm
 |
  (n,e)::r,ps,h,hm=>by
  obtain⟨g,t,cs,fuel,p,q,h1,h2,h3,h4,h5,_⟩:=h
  rcases List.mem_cons.1 hm with he | hm
  ·cases he
   exact⟨g,t,cs,fuel,p,h1,h2,h3,h4⟩
  ·exact C6 h5 hm
theorem IG {W:World} {l:List (String×DataW Unit)} (hl:laidMetH Tryz.prog l W) (hp:(l.all fun x=>x.2.handleName?.isNone)=true) (hm:("internal/strconv.uint64pow10",Lib.tabData .u64 Lib.pow10Tab)∈l)
  {t e:TypeId} {n:Nat} (hty:(Tryz.prog.globals[1]?).map (·.type)=some t) (ht:Tryz.prog.underlying t=some (.array n e)) (he:Tryz.prog.underlying e=some (.int .u64)) (hce:Tryz.prog.cellsOf e=1) (hct:Tryz.prog.cellsOf t=n):LJ W:=by
 rw[MakeChecks.laidMetH_plain _ _ _ hp] at hl
 obtain⟨ps,h1,_⟩:=hl
 obtain⟨g',t',cs,fuel,p,VP,YG,XZ,hd⟩:=C6 h1 hm
 have hg:Tryz.prog.globalNamed "internal/strconv.uint64pow10"=some 1:=by kernel_rfl
 obtain rfl:=Option.some.inj (hg.symm.trans VP)
 obtain rfl:=Option.some.inj (hty.symm.trans YG)
 have Lo:=Lib.cells_of_tab ht he hce hct hd
 intro x hx
 have Ud:x=(1,(Lib.pow10Tab.map fun z=>Value.int .u64 z).toArray):=by simpa[Zr] using hx
 subst Ud
 unfold World.var? at XZ
 rw[hg,Option.bind_some] at XZ
 split at XZ
 ·rename_i xW e' fz' hh
  cases XZ
  refine⟨e',fz',?_⟩
  rw[←Lo]
  simpa using hh
 ·cases XZ
end Go.PM