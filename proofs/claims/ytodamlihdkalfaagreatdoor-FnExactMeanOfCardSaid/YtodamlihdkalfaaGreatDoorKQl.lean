/- Texts of a claim, in one: part 12. -/
import Derived.KernelRfl
import Derived.Lib.LaidTab
import Derived.LaidLaws
import Derived.LaidMore
import Derived.MakeChecks
import Derived.Handed
import Derived.Test.YtodamlihdkalfaaGreatDoorKQk
set_option linter.unusedSimpArgs false
set_option linter.unusedVariables false
namespace Go.PM
open Go.Lib
def OS (o:Option (List Rat)):VV:=match o with
 | some qs => .eO [bK cF qs,VB true]
 | none => .eO [bK cF [],VB false]
theorem Q7:OS none = .eO [bK cF [],VB false]:=rfl
theorem Rm (qs:List Rat):OS (some qs) = .eO [bK cF qs,VB true]:=rfl
theorem EY (q:Rat):(aB (cF q)).length=3:=rfl
theorem De (qs:List Rat):aR (bK cF qs)=true:=jD EY oU
theorem TU (q:Rat):xP (cF q)=true:=by simp[xP,cF,bM,gC]
theorem K7 (qs:List Rat):gJ (bK cF qs)=true:=Bs EY Cf TU
theorem Tf (o:Option (List Rat)):gJ (OS o)=true:=by
 unfold OS
 split
 ·exact DV (K7 _) rfl
 ·exact DV (K7 []) rfl
set_option maxHeartbeats 1000000 in
theorem Jq (xs:List ByteArray) (hn:xs.length≤1000000000) (hs:∀s∈xs,s.size≤1000000000):TC 115 [fP xs] (OS (Ax xs)):=by
 refine TC.walk ⟨true,false⟩ IJ rfl (Nat.le_of_ble_eq_true rfl) (by simp[aJ,dR]) (Tf _) ?_
 unfold Ax
 by_cases Rf:(300:Int)<(xs.length:Int)
 ·rw[if_neg (by omega)]
  simp only[Ai,uT,Rf,VX,Nat.reduceEqDiff,Nat.reduceAdd]
  exact DJ
 rw[if_pos (by omega)]
 have e0:=fun H=>oC (H:=H) (lr:=false) (z:=[.bool false,.slice none 0 0,.slice none 0 0]) rfl
 simp only[Ai,uT,Rf,e0,VX,Nat.reduceEqDiff,Nat.reduceAdd]
 refine HY (fun(s:Nat×List Rat) ρ H=>s.1≤xs.length∧(xs.take s.1).mapM pQ=some s.2∧H=[.row s.1 (s.2.map cF) 3 true]∧ρ 4 = .ref 0 s.1 0 s.1 s.1∧ρ 0=fP xs∧ρ 13=VI xs.length∧ρ 14=VI s.1) (fun s=>xs.length-s.1) (0,[]) ⟨Nat.zero_le _,rfl,rfl,rfl,rfl,rfl,rfl⟩ ?_
 rintro⟨i,out⟩ ρ H ⟨hi,IM,rfl,g4,g13,g14,g15⟩
 simp only at hi IM g4 g15
 have iF:out.length=i:=by rw[vR IM,List.length_take];omega
 by_cases dA:(i:Int)<(xs.length:Int)
 ·obtain⟨x,hx⟩:∃x,xs[i]? = some x:=⟨_,List.getElem?_eq_getElem (by omega)⟩
  have hxm:=List.mem_of_getElem? hx
  have e1:=fun H=>aM (f:=sV) (t := .op) (H:=H) (size:=1) (k := .i64) hx rfl
  have wi:IntKind.i64.wrap ((i:Int)+1)=((i+1:Nat):Int):=wrapN (i+1) (by omega) (by omega)
  have e2:=Hb x.data.toList (by have:=hs x hxm;rw[Array.length_toList];show x.size≤_;omega)
  rw[←VY] at e2
  cases hp:pQ x with
  |
   none =>
   rw[Ow hp] at e2
   rw[mapM_none hp hxm]
   simp only[oN,g4,g13,g14,g15,dA,e1,e2,G8,Je,O5,aN,aO,aI,iA,Nat.reduceLeDiff,Nat.reduceLT,Nat.reduceSub,mH,cB,cN,gN,kG,nT,bne_iff_ne,ne_eq,not_false_eq_true,not_true_eq_false,VX,Nat.reduceEqDiff,Nat.reduceAdd]
   exact DJ
  |
   some q =>
   rw[Oh hp] at e2
   have eL:∀H,rC false [.bool false,.slice none 0 0,.slice none 0 0] 1 [(0,cF q)] H=some (.tree [cF q] (.cl 3),H):=fun H=>sS rfl rfl rfl
   have eS:∀H,eW 3 (.tree [cF q] (.cl 3)) H=some [cF q]:=fun H=>pE rfl rfl
   have eP:gE 0 3 56 (.ref 0 i 0 i i) [cF q] [.row i (out.map cF) 3 true,.row 0 [cF q] 3 true]=some (.ref 0 (i+1) 0 (i+1) (i+1),[.row (i+1) ((out++[q]).map cF) 3 true,.row 0 [cF q] 3 true]):=by
    rw[pH (f:=cF) (xs:=out) (by rw[bT]) iF.symm (Nat.le_refl _) (by decide) (by decide) (by omega),List.set_cons_zero]
   simp only[oN,g4,g13,g14,g15,dA,e1,e2,eL,eS,eP,wi,bP,dF,gT,aK,aT,aP,iA,Nat.reduceLeDiff,Nat.reduceLT,Nat.reduceSub,mH,cB,cN,gN,kG,nT,bne_iff_ne,ne_eq,not_false_eq_true,not_true_eq_false,VX,Nat.reduceEqDiff,Nat.reduceAdd]
   refine⟨(i+1,out++[q]),by simp only;omega,?_,by simp only;omega,by simp only[E5 hx];exact Ky IM hp,rfl,?_⟩
   ·rw[uA (kI _ (dQ oU)),FW]
   ·simp only[fG,g13,g14,vG (dR _),yN (Nat.lt_succ_self 0),VX,Nat.reduceEqDiff,Nat.reduceAdd,List.take_zero,gA,List.all_nil,List.length_nil,fG,Jj,vG]
 ·have rI:i=xs.length:=by omega
  subst rI
  rw[List.take_length] at IM
  rw[IM]
  simp only[oN,g4,g13,g14,g15,dA,VX,Nat.reduceEqDiff,Nat.reduceAdd]
  refine bG (d:=6) ?_ (aG (v:=VB true) rfl)
  have:=Nl (d:=5) (w:=true) (f:=cF) (e:=3) (b:=0) (g:=xs.length) (c:=xs.length) (xs:=out) (H:=[.row xs.length (out.map cF) 3 true]) oU (by rw[bT]) (by omega)
  rw[iF] at this
  exact this
set_option maxHeartbeats 1000000 in
theorem UH {lo:Nat} {H:aA} {q:Rat} (h:lo≤H.length):cQ lo 3 (.ptr H.length 0 0 0) (cF q) (H++[cell0])=some (H++[.row 0 [cF q] 3 true]):=by
 rw[kP (g:=0) (e:=3) (j:=0) Ku (by exact Nat.zero_lt_one) h rfl rfl,OU]
 rfl
theorem Hu {lo:Nat} {H:aA} {v:VV} (qs:List Rat) {B:Nat} (hv:Rd cF 3 qs H v) (gF:lo≤H.length) (hb:∀q∈qs,cE q≤B) (hk:qs.length*(B+1)+1≤1099511627776) (hB:B≤1099511627776) (hn:qs.length≤1000000000) :
  qT 142 [v] lo H (WL (fun _ _ _ r=>r=cF (sJ qs)) H):=by
 refine qT.walk ⟨true,false⟩ Hx (Nat.le_of_ble_eq_true rfl) ?_
 have e1:=Bx
 have e2:=hv.len (H++[cell0,.row 0 [cF 0] 3 true]) (List.prefix_append _ _)
 have s0:cQ lo 3 (.ptr (H.length+1) 0 0 0) (cF 0) (H++[cell0,cell0])=some (H++[cell0,.row 0 [cF 0] 3 true]):=by
  have:=UH (lo:=lo) (H:=H++[cell0]) (q:=0) (by rw[List.length_append];omega)
  simpa only[List.length_append,List.length_cons,List.length_nil,Nat.zero_add,List.append_assoc,List.cons_append,List.nil_append] using this
 simp only[Da,Au,e1,e2,s0,List.length_append,List.length_cons,List.length_nil,List.append_assoc,List.cons_append,List.nil_append,VEX,VX,Nat.reduceEqDiff,Nat.reduceAdd,Nat.reduceLeDiff,Nat.reduceLT,Nat.reduceSub]
 refine aY (fun(i:Nat) ρ H1=>i≤qs.length∧H <+: H1∧aQ H1 H.length 0=some ([rz],3,true)∧aQ H1 (H.length+1) 0=some ([cF (sJ (qs.take i))],3,true)∧ρ 2 = .ptr H.length 0 0 0∧ρ 3 = .ptr (H.length+1) 0 0 0∧ρ 0=v∧ρ 7=VI qs.length∧ρ 8=VI i) (fun i=>qs.length-i) 0 ⟨Nat.zero_le _,List.prefix_append _ _,MF.trans bT,RT.trans (B5.trans bT),rfl,rfl,rfl,rfl,rfl⟩ ?_
 rintro i ρ H1 ⟨hi,hp,M8,M7,g2,g3,g0,g7,g8⟩
 have DC:=MR M7
 have s3:dV true 3 (.ptr (H.length+1) 0 0 0) H1=some (cF (sJ (qs.take i))):=by
  rw[kU,M7]
  exact gT _
 by_cases dA:(i:Int)<(qs.length:Int)
 ·obtain⟨q,hq⟩:∃q,qs[i]? = some q:=⟨_,List.getElem?_eq_getElem (by omega)⟩
  obtain⟨p,a1,a2⟩:=hv.get H1 hp i q hq
  have a2':=(a2 true).trans (gT _)
  have wi:IntKind.i64.wrap ((i:Int)+1)=((i+1:Nat):Int):=wrapN (i+1) (by omega) (by omega)
  have h1:=zZ hb i
  have h2:=hb q (List.mem_of_getElem? hq)
  have h3:(i+1)*(B+1)≤qs.length*(B+1):=Nat.mul_le_mul_right _ (by omega)
  have e3:=CO (sJ (qs.take i)) q (by omega) (by omega)
  rw[←Lg hq] at e3
  have s4:=kP (lo:=lo) (v:=cF (sJ (qs.take (i+1)))) (j:=0) M7 (by exact Nat.zero_lt_one) (by omega) rfl rfl
  rw[List.set_cons_zero] at s4
  simp only[rS,g2,g3,g0,g7,g8,dA,a1,a2',e3,s3,s4,wi,VEX,VX,Nat.reduceEqDiff,Nat.reduceAdd,Nat.reduceLeDiff,Nat.reduceLT,Nat.reduceSub]
  exact⟨i+1,by omega,by omega,Ed hp (by omega),mU (by omega) M8,sO M7,by (repeat' apply And.intro)<;>first | rfl | trivial | assumption⟩
 ·have rI:i=qs.length:=by omega
  subst rI
  rw[List.take_length] at s3
  have s4:=kP (lo:=lo) (v:=cF (sJ qs)) (j:=0) M8 (by exact Nat.zero_lt_one) gF rfl rfl
  rw[List.set_cons_zero] at s4
  have s5:dV true 3 (.ptr H.length 0 0 0) (H1.set H.length (.row 0 [cF (sJ qs)] 3 true))=some (cF (sJ qs)):=by
   rw[kU,sO M8]
   exact gT _
  simp only[rS,g2,g3,g7,g8,dA,s3,s4,s5,VEX,VX,Nat.reduceEqDiff,Nat.reduceAdd,Nat.reduceLeDiff,Nat.reduceLT,Nat.reduceSub]
  exact⟨Ed hp (Nat.le_refl _),rfl⟩
theorem Sj {q:Rat}:q.num<0↔q<0:=by rw[←Int.not_le,Rat.num_nonneg];constructor<;>intro h<;>grind
theorem Dj (qs:List Rat) (hn:qs.length≤1000000000):TC 140 [bK cF qs] (VB (!(qs.any fun q=>decide (q<0)))):=by
 refine TC.walk ⟨true,false⟩ Dn rfl (Nat.le_of_ble_eq_true rfl) (by simp[aJ,De]) rfl ?_
 simp only[zI,vC,VX,Nat.reduceEqDiff,Nat.reduceAdd]
 refine aY (fun(i:Nat) ρ H=>i≤qs.length∧H=[]∧(∀j x,j<i→qs[j]? = some x→¬x<0)∧ρ 0=bK cF qs∧ρ 5=VI qs.length∧ρ 6=VI i) (fun i=>qs.length-i) 0 ⟨Nat.zero_le _,rfl,fun j x h=>by omega,rfl,rfl,rfl⟩ ?_
 rintro i ρ H ⟨hi,rfl,kA,g0,g5,g6⟩
 by_cases dA:(i:Int)<(qs.length:Int)
 ·obtain⟨q,hq⟩:∃q,qs[i]? = some q:=⟨_,List.getElem?_eq_getElem (by omega)⟩
  have e2:=fun H=>aM (f:=cF) (t := .op) (H:=H) (size:=3) (k := .i64) hq rfl
  have wi:IntKind.i64.wrap ((i:Int)+1)=((i+1:Nat):Int):=wrapN (i+1) (by omega) (by omega)
  by_cases lQ:q.num<0
  ·have Hi:qs.any (fun q=>decide (q<0))=true:=List.any_eq_true.2 ⟨q,List.mem_of_getElem? hq,decide_eq_true (Sj.1 lQ)⟩
   rw[Hi]
   simp only[jT,g0,g5,g6,dA,e2,lQ,jV,bP,dF,gT,aK,aT,aP,iA,Nat.reduceLeDiff,Nat.reduceLT,Nat.reduceSub,mH,cB,cN,gN,kG,nT,bne_iff_ne,ne_eq,not_false_eq_true,not_true_eq_false,VX,Nat.reduceEqDiff,Nat.reduceAdd]
   exact aH rfl
  ·simp only[jT,g0,g5,g6,dA,e2,lQ,wi,jV,bP,dF,gT,aK,aT,aP,iA,Nat.reduceLeDiff,Nat.reduceLT,Nat.reduceSub,mH,cB,cN,gN,kG,nT,bne_iff_ne,ne_eq,not_false_eq_true,not_true_eq_false,VX,Nat.reduceEqDiff,Nat.reduceAdd]
   refine⟨i+1,by omega,by omega,fun j y hj hy => ?_,rfl⟩
   rcases Nat.lt_or_ge j i with J0 | J0
   ·exact kA j y J0 hy
   ·have:j=i:=by omega
    subst this
    rw[hq] at hy
    cases hy
    exact mt Sj.2 lQ
 ·have rI:i=qs.length:=by omega
  subst rI
  have Hi:qs.any (fun q=>decide (q<0))=false:=by
   rw[List.any_eq_false]
   intro x hx
   obtain⟨j,hj⟩:=List.getElem?_of_mem hx
   simpa using kA j x (List.getElem?_eq_some_iff.1 hj).1 hj
  rw[Hi]
  simp only[jT,g0,g5,g6,dA,VX,Nat.reduceEqDiff,Nat.reduceAdd]
  exact aH rfl
theorem Qf {a b:Rat}:a=b↔(decide (a.num<0)=decide (b.num<0)∧a.num.natAbs*b.den=b.num.natAbs*a.den):=by
 constructor
 ·rintro rfl
  exact⟨rfl,rfl⟩
 ·rintro⟨h1,h2⟩
  have h3:a.num<0↔b.num<0:=by simpa using h1
  have ha:=a.den_nz
  have hb:=b.den_nz
  have key:a.num*b.den=b.num*a.den→a=b:=fun h=>by
   have:=(Rat.mkRat_eq_iff (n₁:=a.num) (n₂:=b.num) ha hb).2 h
   rwa [Rat.mkRat_self,Rat.mkRat_self] at this
  refine key ?_
  have e1:(a.num.natAbs:Int)*b.den=b.num.natAbs*a.den:=by exact_mod_cast h2
  by_cases hn:a.num<0
  ·have Yv:=h3.1 hn
   have q1:a.num = -(a.num.natAbs:Int):=by omega
   have q2:b.num = -(b.num.natAbs:Int):=by omega
   rw[q1,q2,Int.neg_mul,Int.neg_mul,e1]
  ·have Yv:=mt h3.2 hn
   have q1:a.num=(a.num.natAbs:Int):=by omega
   have q2:b.num=(b.num.natAbs:Int):=by omega
   rw[q1,q2,e1]
set_option maxHeartbeats 1000000 in
theorem Hf (a b:Rat) (Oq:cE a≤1099511627776) (Kc:cE b≤1099511627776):TC 197 [cF a,cF b] (VB (decide (a=b))):=by
 refine TC.walk ⟨true,false⟩ Hs rfl (Nat.le_of_ble_eq_true rfl) (by simp only[aJ,oU];rfl) rfl ?_
 have b1 := @rH a
 have b2 := @rH b
 have b3 := @pF a
 have b4 := @pF b
 have b5:=lO a.num.natAbs b.den
 have b6:=lO b.num.natAbs a.den
 have c1:=fX a.num.natAbs b.den (Nat.le_of_lt (mM (by omega))) (Nat.le_of_lt (mM (by omega)))
 have c2:=fX b.num.natAbs a.den (Nat.le_of_lt (mM (by omega))) (Nat.le_of_lt (mM (by omega)))
 have c3:=sD (a.num.natAbs*b.den) (b.num.natAbs*a.den) (Nat.le_of_lt (mM (by omega))) (Nat.le_of_lt (mM (by omega)))
 by_cases q1:decide (a.num<0)=decide (b.num<0)
 ·have q2:(decide (a.num<0) == decide (b.num<0))=true:=by simpa using q1
  have hz := @uH (a.num.natAbs*b.den) (b.num.natAbs*a.den)
  by_cases q3:eE (a.num.natAbs*b.den) (b.num.natAbs*a.den)=0
  ·rw[decide_eq_true (Qf.2 ⟨q1,hz.1 q3⟩)]
   simp only[sB,oH,c1,c2,c3,q2,q3,rA,bP,jV,mR,mO,aK,iA,Nat.reduceLeDiff,Nat.reduceLT,Nat.reduceSub,mH,cB,cN,gN,kG,nT,bne_iff_ne,ne_eq,not_false_eq_true,not_true_eq_false,VX,Nat.reduceEqDiff,Nat.reduceAdd]
   exact aH rfl
  ·rw[decide_eq_false (fun h=>q3 (hz.2 (Qf.1 h).2))]
   simp only[sB,oH,c1,c2,c3,q2,q3,rA,bP,jV,mR,mO,aK,iA,Nat.reduceLeDiff,Nat.reduceLT,Nat.reduceSub,mH,cB,cN,gN,kG,nT,bne_iff_ne,ne_eq,not_false_eq_true,not_true_eq_false,VX,Nat.reduceEqDiff,Nat.reduceAdd]
   exact aH rfl
 ·have q2:(decide (a.num<0) == decide (b.num<0))=false:=by simpa using q1
  rw[decide_eq_false (fun h=>q1 (Qf.1 h).1)]
  simp only[sB,oH,q2,rA,bP,jV,mR,mO,aK,iA,Nat.reduceLeDiff,Nat.reduceLT,Nat.reduceSub,mH,cB,cN,gN,kG,nT,bne_iff_ne,ne_eq,not_false_eq_true,not_true_eq_false,VX,Nat.reduceEqDiff,Nat.reduceAdd]
  exact aH rfl
theorem Eg (qs:List Rat) (hb:∀q∈qs,cE q≤665) (hl:qs.length≤300):TC 116 [bK cF qs] (VB (jE qs)):=by
 refine TC.walk ⟨true,false⟩ Ei rfl (Nat.le_of_ble_eq_true rfl) (by simp[aJ,De]) rfl ?_
 have e1:=Dj qs (by omega)
 have e2:=fun(K:aA)=>Hu (lo:=0) (H:=K) (v:=bK cF qs) qs (Rd.tree EY) (Nat.zero_le _) hb (JD hl) (by omega) (by omega)
 have UY:=zZ hb qs.length
 rw[List.take_length] at UY
 have e3:=C9
 have hsr:=JD hl
 have e4:=Hf (sJ qs) 1 (by omega) (by rw[F7];omega)
 unfold jE
 cases Hi:qs.any (fun q=>decide (q<0)) with
 |
  true =>
  rw[Hi] at e1
  simp only[Bool.not_true,Bool.false_and] at e1 ⊢
  simp only[tC,qM,e1,VX,Nat.reduceEqDiff,Nat.reduceAdd]
  exact aH rfl
 |
  false =>
  rw[Hi] at e1
  simp only[Bool.not_false,Bool.true_and] at e1 ⊢
  simp only[tC,qM,e1,VX,Nat.reduceEqDiff,Nat.reduceAdd]
  refine DE rfl (e2 _) fun r L hr => ?_
  subst hr
  simp only[e3,e4,VX,Nat.reduceEqDiff,Nat.reduceAdd]
  exact aH rfl
set_option maxHeartbeats 1000000 in
theorem Hj (q:Rat) (n:Nat) (hn:n≤1000) (hq:cE q≤100000):TC 198 [cF q,VI n] (cF (q^n)):=by
 refine TC.walk ⟨true,false⟩ Hz rfl (Nat.le_of_ble_eq_true rfl) (by simp only[aJ,oU];rfl) (Cf _) ?_
 have e1:=C9
 simp only[CU,Aw,e1,bP,dF,gT,aK,aT,aP,iA,Nat.reduceLeDiff,Nat.reduceLT,Nat.reduceSub,mH,cB,cN,gN,kG,nT,bne_iff_ne,ne_eq,not_false_eq_true,not_true_eq_false,VX,Nat.reduceEqDiff,Nat.reduceAdd]
 refine aY (fun(i:Nat) ρ H=>i≤n∧H=[cell0,.row 0 [cF (q^i)] 3 true]∧ρ 1=VI ((n-i:Nat):Int)∧ρ 2=(cF q).cO 0∧ρ 4 = .ptr 0 0 0 0∧ρ 5 = .ptr 1 0 0 0) (fun i=>n-i) 0 ⟨Nat.zero_le _,?_,rfl,rfl,rfl,rfl⟩ ?_
 ·rw[Rat.pow_zero]
 rintro i ρ H ⟨hi,rfl,g1,g2,g4,g5⟩
 by_cases dA:(0:Int)<((n-i:Nat):Int)
 ·have wi:IntKind.i64.wrap (((n-i:Nat):Int)-1)=((n-(i+1):Nat):Int):=by rw[wrap64 (by omega) (by omega)];omega
  have hb:=Cn q i
  have Y2:i*cE q≤1000*100000:=Nat.mul_le_mul (by omega) hq
  have e2:=As (q^i) q (by omega) (by omega)
  rw[←Rat.pow_succ] at e2
  simp only[rQ,g1,g2,g4,g5,dA,e2,wi,bP,dF,gT,aK,aT,aP,iA,Nat.reduceLeDiff,Nat.reduceLT,Nat.reduceSub,mH,cB,cN,gN,kG,nT,bne_iff_ne,ne_eq,not_false_eq_true,not_true_eq_false,VX,Nat.reduceEqDiff,Nat.reduceAdd]
  exact⟨i+1,by omega,by omega,by (repeat' apply And.intro)<;>first | rfl | trivial | assumption⟩
 ·have rI:i=n:=by omega
  subst rI
  simp only[rQ,g1,g2,g4,g5,dA,bP,dF,gT,aK,aT,aP,iA,Nat.reduceLeDiff,Nat.reduceLT,Nat.reduceSub,mH,cB,cN,gN,kG,nT,bne_iff_ne,ne_eq,not_false_eq_true,not_true_eq_false,VX,Nat.reduceEqDiff,Nat.reduceAdd]
  exact aH (oU _)
set_option maxHeartbeats 1000000 in
theorem F1 (qs:List Rat) (n:Nat) (hb:∀q∈qs,cE q≤665) (hl:qs.length≤300) (hn:n≤10):TC 117 [bK cF qs,VI n] (cF (mY qs n qs.length)):=by
 refine TC.walk ⟨true,false⟩ F5 rfl (Nat.le_of_ble_eq_true rfl) (by simp only[aJ,De];rfl) (Cf _) ?_
 have e1:=Bx
 simp only[BF,yJ,e1,bP,dF,gT,aK,aT,aP,iA,Nat.reduceLeDiff,Nat.reduceLT,Nat.reduceSub,mH,cB,cN,gN,kG,nT,bne_iff_ne,ne_eq,not_false_eq_true,not_true_eq_false,VX,Nat.reduceEqDiff,Nat.reduceAdd]
 refine aY (fun(i:Nat) ρ H=>i≤qs.length∧H=[cell0,.row 0 [cF (mY qs n i)] 3 true]∧ρ 0=bK cF qs∧ρ 1=VI n∧ρ 4 = .ptr 0 0 0 0∧ρ 5 = .ptr 1 0 0 0∧ρ 9=VI qs.length∧ρ 10=VI i) (fun i=>qs.length-i) 0 ⟨Nat.zero_le _,rfl,rfl,rfl,rfl,rfl,rfl,rfl⟩ ?_
 rintro i ρ H ⟨hi,rfl,g0,g1,g4,g5,g9,g10⟩
 by_cases dA:(i:Int)<(qs.length:Int)
 ·obtain⟨q,hq⟩:∃q,qs[i]? = some q:=⟨_,List.getElem?_eq_getElem (by omega)⟩
  have e2:=fun H=>aM (f:=cF) (t := .op) (H:=H) (size:=3) (k := .i64) hq rfl
  have wi:IntKind.i64.wrap ((i:Int)+1)=((i+1:Nat):Int):=wrapN (i+1) (by omega) (by omega)
  have h1:=Ba hb hl hn i hi
  have h2:=hb q (List.mem_of_getElem? hq)
  obtain⟨h3,h4⟩:=BR (i:=i) (by omega) n hn
  have h5:=Cq q (((i:Int):Rat)^n)
  have e3:=xR (i:Int) (by omega) (by omega)
  have e4:=Hj ((i:Int):Rat) n (by omega) (by omega)
  have e5:=As q (((i:Int):Rat)^n) (by omega) (by omega)
  have e6:=CO (mY qs n i) (q*((i:Int):Rat)^n) (by omega) (by omega)
  have e7:mY qs n i+q*((i:Int):Rat)^n=mY qs n (i+1):=by
   rw[mY,List.getD_eq_getElem?_getD,hq,Option.getD_some]
   rfl
  rw[e7] at e6
  simp only[pV,g0,g1,g4,g5,g9,g10,dA,e2,e3,e4,e5,e6,wi,bP,dF,gT,aK,aT,aP,iA,Nat.reduceLeDiff,Nat.reduceLT,Nat.reduceSub,mH,cB,cN,gN,kG,nT,bne_iff_ne,ne_eq,not_false_eq_true,not_true_eq_false,VX,Nat.reduceEqDiff,Nat.reduceAdd]
  exact⟨i+1,by omega,by omega,by (repeat' apply And.intro)<;>first | rfl | trivial | assumption⟩
 ·have rI:i=qs.length:=by omega
  subst rI
  simp only[pV,g0,g1,g4,g5,g9,g10,dA,bP,dF,gT,aK,aT,aP,iA,Nat.reduceLeDiff,Nat.reduceLT,Nat.reduceSub,mH,cB,cN,gN,kG,nT,bne_iff_ne,ne_eq,not_false_eq_true,not_true_eq_false,VX,Nat.reduceEqDiff,Nat.reduceAdd]
  exact aH (oU _)
theorem JO (xs:List ByteArray) (hn:xs.length≤1000000000) (hs:∀s∈xs,s.size≤1000000000):TC 42 [fP xs] (J6 xs 1):=by
 refine TC.walk ⟨true,false⟩ JQ rfl (Nat.le_of_ble_eq_true rfl) (by simp only[aJ,dR];rfl) (JA _ _) ?_
 have e1:=Jq xs hn hs
 unfold J6
 cases h:Ax xs with
 |
  none =>
  rw[h,Q7] at e1
  rw[GD h]
  simp only[]
  simp only[xG,rX,e1,VX,Nat.reduceEqDiff,Nat.reduceAdd]
  exact aH rfl
 |
  some qs =>
  rw[h] at e1
  obtain⟨hb,hl,_⟩:=DH h
  have e3:=Eg qs hb hl
  rw[Rm] at e1
  rw[GR h]
  cases hw:jE qs with
  |
   false =>
   rw[hw] at e3
   rw[if_neg (by simp)]
   simp only[]
   simp only[xG,rX,e1,e3,VX,Nat.reduceEqDiff,Nat.reduceAdd]
   exact aH rfl
  |
   true =>
   rw[hw] at e3
   rw[if_pos rfl]
   simp only[]
   rw[if_pos (by decide),show (1:Int).toNat=1 from rfl]
   have e4:=F1 qs 1 hb hl (by omega)
   have h3:=Ba (n:=1) hb hl (by omega) qs.length (Nat.le_refl _)
   have e5:=Ii (mY qs 1 qs.length) (by omega)
   obtain⟨s,k,hsk⟩:=E9 (mY qs 1 qs.length)
   rw[hsk] at e5 ⊢
   have e4':TC 117 [bK cF qs,VI 1] (cF (mY qs 1 qs.length)):=e4
   simp only[xG,rX,e1,e3,e4',e5,VX,Nat.reduceEqDiff,Nat.reduceAdd]
   exact aH rfl
end Go.PM
namespace Go.PM
def mN:aE:=(LS [LO 2 (.mv LF)] (LS [LO 3 (.mv (LI 1000000))] (LS [LM 11 0,LM 12 3,LO 13 (.call 41 [(LT 11),(LT 12)]),LM 3 13] (.seq (LS [LM 14 3,LO 15 (.bin .lss (LT 14) (LI 0))] (.cond (LT 15) (LS [LO 2 (.mv LG)] .ret) .skip)) (LS [LM 17 0,LO 18 (.call 43 [(LT 17),LF]),LO 19 (.call 42 [(LT 18)]),LM 16 19,LO 20 (LX 16 0),LO 21 (LX 16 1),LM 4 20,LM 5 21] (LS [LM 22 0,LO 23 (.call 43 [(LT 22),LF]),LM 6 23] (LS [LM 25 6,LO 26 (.call 44 [(LT 25)]),LM 24 26,LO 27 (LX 24 0),LO 28 (LX 24 1),LM 7 27,LM 8 28] (.seq (LS [LM 29 7,LM 30 4,LO 31 (.bin .neq (LT 29) (LT 30)),LM 32 31,LZ 32 33 (.mv (LT 8)),LZ 32 34 (.mv (LT 5)),LZ 32 35 (.eqb true (LT 33) (LT 34)),LO 36 (.pick (LT 32) LG (LT 35))] (.cond (LT 36) (LS [LO 2 (.mv LF)] .ret) .skip)) (.seq (LS [LM 37 6,LM 38 0,LO 39 (.call 43 [(LT 38),LF]),LO 40 (.call 45 [(LT 37),(LT 39)]),LO 41 (.un .not (LT 40))] (.cond (LT 41) (LS [LO 2 (.mv LF)] .ret) .skip)) (LS [LM 43 0,LO 44 (.call 43 [(LT 43),LG]),LO 45 (.call 44 [(LT 44)]),LM 42 45,LO 46 (LX 42 0),LO 47 (LX 42 1),LM 9 46,LM 10 47] (.seq (LS [LM 48 9,LM 49 4,LO 50 (.bin .neq (LT 48) (LT 49)),LM 51 50,LZ 51 52 (.mv (LT 10)),LZ 51 53 (.mv (LT 5)),LZ 51 54 (.eqb true (LT 52) (LT 53)),LO 55 (.pick (LT 51) LG (LT 54))] (.cond (LT 55) (LS [LO 2 (.mv LF)] .ret) .skip)) (LS [LO 2 (.mv LG)] .ret))))))))))))
def pC:aV:=⟨56,[(.tmp 2)],mN⟩
theorem A2:hJ 7=some pC:=by kernel_rfl
end Go.PM
namespace Go.PM
end Go.PM
namespace Go.PM
def Ha (cs:List eR) (i:Nat):Int:=((cs[i]?).map (·.t)).getD 0
def Ur (cs:List eR) (i:Nat):Int:=((cs[i]?).map (·.w)).getD 0
def klC (cs:List eR) (i:Nat):Int:=((cs[i]?).map (·.k)).getD 0
def DZ (st:List Int) (i:Nat):Int:=(st[i]?).getD 0
theorem Rr {cs:List eR} {i:Nat} {x:eR} (h:cs[i]? = some x):Ha cs i=x.t:=by simp[Ha,h]
theorem aaT {cs:List eR} {i:Nat} {x:eR} (h:cs[i]? = some x):Ur cs i=x.w:=by simp[Ur,h]
theorem Wx {st:List Int} {i:Nat} {x:Int} (h:st[i]? = some x):DZ st i=x:=by simp[DZ,h]
def Za (cs:List eR) (st:List Int) (t:Int) (i:Nat):Bool:=decide (0≤DZ st i)&&decide (DZ st i≤t)&&decide (t<DZ st i+Ur cs i)
def bz (cs:List eR) (st:List Int) (t:Int):Nat:=(List.range cs.length).countP (Za cs st t)
def isW (cs:List eR) (st:List Int) (t:Int) (i:Nat):Bool:=decide (DZ st i<0)&&decide (Ha cs i≤t)
def wt (cs:List eR) (st:List Int) (t:Int):List Nat:=(List.range cs.length).filter (isW cs st t)
def Hl (bF:Int) (cs:List eR) (i k:Nat):Bool :=
 if bF=1 then true else if bF=2 then decide (Ur cs i<Ur cs k) else if bF=3 then decide (klC cs i<klC cs k) else false
def xH (bF:Int) (cs:List eR) (b:Option Nat) (i:Nat):Option Nat:=match b with
 | none=>some i
 | some k=>if Hl bF cs i k then some i else some k
def Zw (bF:Int) (cs:List eR) (st:List Int) (t:Int):Option Nat:=(wt cs st t).foldl (xH bF cs) none
def fill (bF kC:Int) (cs:List eR) (t:Int):Nat→List Int→List Int
 | 0,st=>st
 |
  n+1,st=>if (bz cs st t:Int)<kC then (match Zw bF cs st t with
  | none=>st
  | some k=>fill bF kC cs t n (st.set k t)) else st
def full (bF kC:Int) (cs:List eR) (st:List Int) (t:Int):Prop:=kC≤(bz cs st t:Int)∨Zw bF cs st t=none
def runT (bF kC:Int) (cs:List eR):Int→Nat→List Int→List Int
 | _,0,st=>st
 | t,n+1,st=>runT bF kC cs (t+1) n (fill bF kC cs t cs.length st)
def stL (bF kC:Int) (cs:List eR):List Int:=runT bF kC cs 0 100000 (List.replicate cs.length (-1))
section
variable {bF kC:Int} {cs:List eR} {st:List Int} {t:Int}
theorem uI (h:full bF kC cs st t) (n:Nat):fill bF kC cs t n st=st:=by
 cases n with
 | zero=>rfl
 |
  succ n =>
  rw[fill]
  rcases h with h | h
  ·rw[if_neg (by omega)]
  ·split
   ·rw[h]
   ·rfl
theorem KL (m:Nat):∀(t:Int) (n:Nat),(∀u,t≤u→u<t+m→full bF kC cs st u)→m≤n→runT bF kC cs t n st=runT bF kC cs (t+m) (n-m) st:=by
 induction m with
 | zero=>intro t n _ _;simp
 |
  succ m ih =>
  intro t n h hm
  obtain⟨n,rfl⟩:∃k,n=k+1:=⟨n-1,by omega⟩
  rw[runT,uI (h t (Int.le_refl _) (by omega)),ih (t+1) n (fun u h1 h2=>h u (by omega) (by omega)) (by omega)]
  congr 1
  ·omega
  ·omega
theorem UJ (n:Nat):∀(t:Int),(∀u,t≤u→full bF kC cs st u)→runT bF kC cs t n st=st:=by
 intro t h
 rw[KL n t n (fun u h1 _=>h u h1) (Nat.le_refl _),Nat.sub_self]
 rfl
theorem SH {a b:Int} (ha:0≤a) (DO:a≤b) (hb:b≤100000) (h:∀u,a≤u→u<b→full bF kC cs st u):runT bF kC cs a (100000-a).toNat st=runT bF kC cs b (100000-b).toNat st:=by
 rw[KL (b-a).toNat a _ (fun u h1 h2=>h u h1 (by omega)) (by omega)]
 congr 1
 ·omega
 ·omega
theorem Wu {a:Int} (ha:0≤a) (hb:a<100000):runT bF kC cs a (100000-a).toNat st=runT bF kC cs (a+1) (100000-(a+1)).toNat (fill bF kC cs a cs.length st):=by
 rw[show (100000-a).toNat=(100000-(a+1)).toNat+1 by omega,runT]
theorem Li {ws:List Nat} {k:Nat}:∃j,(ws.foldl (xH bF cs) (some k))=some j∧(j=k∨j∈ws):=by
 induction ws generalizing k with
 | nil=>exact⟨k,rfl,.inl rfl⟩
 |
  cons i ws ih =>
  rw[List.foldl_cons]
  have:∃q,xH bF cs (some k) i=some q∧(q=k∨q=i):=by
   unfold xH
   simp only
   split
   ·exact⟨i,rfl,.inr rfl⟩
   ·exact⟨k,rfl,.inl rfl⟩
  obtain⟨q,hq,hqq⟩:=this
  rw[hq]
  obtain⟨j,h1,h2⟩:=ih (k:=q)
  refine⟨j,h1,?_⟩
  rcases h2 with rfl | h2
  ·rcases hqq with rfl | rfl
   ·exact .inl rfl
   ·exact .inr List.mem_cons_self
  ·exact .inr (List.mem_cons_of_mem _ h2)
theorem uW:Zw bF cs st t=none↔wt cs st t=[]:=by
 unfold Zw
 cases h:wt cs st t with
 | nil=>exact⟨fun _=>rfl,fun _=>rfl⟩
 |
  cons i ws =>
  refine⟨fun h2 => ?_,fun h2=>(by cases h2)⟩
  rw[List.foldl_cons] at h2
  obtain⟨j,h3,_⟩:=Li (bF:=bF) (cs:=cs) (ws:=ws) (k:=i)
  rw[show xH bF cs none i=some i from rfl,h3] at h2
  cases h2
theorem Mh {k:Nat} (h:Zw bF cs st t=some k):k∈wt cs st t:=by
 unfold Zw at h
 cases hw:wt cs st t with
 | nil=>rw[hw] at h;cases h
 |
  cons i ws =>
  rw[hw,List.foldl_cons] at h
  obtain⟨j,h3,h4⟩:=Li (bF:=bF) (cs:=cs) (ws:=ws) (k:=i)
  rw[show xH bF cs none i=some i from rfl,h3] at h
  injection h with h
  subst h
  rcases h4 with rfl | h4
  ·exact List.mem_cons_self
  ·exact List.mem_cons_of_mem _ h4
theorem FI {k:Nat}:k∈wt cs st t↔k<cs.length∧DZ st k<0∧Ha cs k≤t:=by
 simp[wt,isW]
theorem XG:(wt cs st t).Nodup:=List.Pairwise.filter _ List.nodup_range
theorem Eb {k i:Nat} (hk:k<st.length):DZ (st.set k t) i=if i=k then t else DZ st i:=by
 unfold DZ
 rw[List.getElem?_set]
 by_cases h:i=k
 ·subst h
  simp[hk]
 ·rw[if_neg (fun h'=>h h'.symm),if_neg h]
theorem M1 {p q:Nat→Bool} {k:Nat} (hp:p k=false) (h:∀i,i≠k→q i=p i):∀n,(List.range n).countP q=(List.range n).countP p+if k<n∧q k=true then 1 else 0:=by
 intro n
 induction n with
 | zero=>simp
 |
  succ n ih =>
  rw[List.range_succ,List.countP_append,List.countP_append,ih]
  by_cases hk:n=k
  ·subst hk
   simp only[List.countP_singleton,hp]
   cases hq:q n<;>simp
  ·rw[List.countP_singleton,List.countP_singleton,h n hk]
   have:(k<n+1∧q k=true)↔(k<n∧q k=true):=by
    constructor
    ·rintro⟨h1,h2⟩;exact⟨by omega,h2⟩
    ·rintro⟨h1,h2⟩;exact⟨by omega,h2⟩
   simp only[this]
   omega
theorem acI {k:Nat} {u:Int} (hk:k<cs.length) (hl:st.length=cs.length) (hs:DZ st k<0) (h0:0≤t):bz cs (st.set k t) u=bz cs st u+if t≤u∧u<t+Ur cs k then 1 else 0:=by
 unfold bz
 rw[M1 (p:=Za cs st u) (q:=Za cs (st.set k t) u) (k:=k)]
 ·congr 1
  have:(k<cs.length∧Za cs (st.set k t) u k=true)↔(t≤u∧u<t+Ur cs k):=by
   simp only[Za,Eb (t:=t) (i:=k) (by omega:k<st.length),if_true,Bool.and_eq_true,decide_eq_true_eq]
   constructor
   ·rintro⟨_,⟨_,h1⟩,h2⟩;exact⟨h1,h2⟩
   ·rintro⟨h1,h2⟩;exact⟨hk,⟨h0,h1⟩,h2⟩
  simp only[this]
 ·simp only[Za]
  rw[decide_eq_false (by omega)]
  rfl
 ·intro i hi
  simp only[Za,Eb (t:=t) (i:=i) (by omega:k<st.length),if_neg hi]
theorem aaO {k:Nat} {u:Int} (hl:st.length=cs.length) (hk:k<cs.length) (h0:0≤t):wt cs (st.set k t) u=(wt cs st u).filter (· != k):=by
 unfold wt
 rw[List.filter_filter]
 refine List.filter_congr fun i hi => ?_
 simp only[isW,Eb (t:=t) (i:=i) (by omega:k<st.length)]
 by_cases h:i=k
 ·subst h
  simp
  omega
 ·simp[h]
def Dg (st:List Int):Nat:=st.countP (fun s=>decide (s<0))
theorem yA {k:Nat} (hk:k<st.length) (hs:DZ st k<0) (h0:0≤t):Dg (st.set k t)+1=Dg st:=by
 unfold Dg
 rw[List.countP_set hk]
 have hx:st[k]=DZ st k:=by
  rw[Wx (x:=st[k]) (List.getElem?_eq_getElem hk)]
 have h1:decide (st[k]<0)=true:=by rw[hx];exact decide_eq_true hs
 have h2:decide (t<0)=false:=decide_eq_false (by omega)
 have h3:0<st.countP (fun s=>decide (s<0)):=by
  rw[List.countP_pos_iff]
  exact⟨st[k],List.getElem_mem hk,h1⟩
 simp only[h1,h2,if_true,Bool.false_eq_true,if_false]
 omega
theorem TV (hl:st.length=cs.length) (h0:0≤t):∀(n m:Nat),Dg st≤n→Dg st≤m→fill bF kC cs t n st=fill bF kC cs t m st:=by
 intro n
 induction n generalizing st with
 |
  zero =>
  intro m hn hm
  have hf:full bF kC cs st t:=by
   right
   rw[uW]
   cases hw:wt cs st t with
   | nil=>rfl
   |
    cons i ws =>
    have h1:i∈wt cs st t:=by rw[hw];exact List.mem_cons_self
    obtain⟨h2,h3,_⟩:=FI.1 h1
    have:=yA (t:=t) (by omega:i<st.length) h3 h0
    omega
  rw[uI hf,uI hf]
 |
  succ n ih =>
  intro m hn hm
  cases m with
  |
   zero =>
   have hf:full bF kC cs st t:=by
    right
    rw[uW]
    cases hw:wt cs st t with
    | nil=>rfl
    |
     cons i ws =>
     have h1:i∈wt cs st t:=by rw[hw];exact List.mem_cons_self
     obtain⟨h2,h3,_⟩:=FI.1 h1
     have:=yA (t:=t) (by omega:i<st.length) h3 h0
     omega
   rw[uI hf,uI hf]
  |
   succ m =>
   rw[fill,fill]
   split
   ·split
    ·rfl
    ·rename_i k hk
     obtain⟨h2,h3,_⟩:=FI.1 (Mh hk)
     have:=yA (t:=t) (by omega:k<st.length) h3 h0
     exact ih (by simp[hl]) m (by omega) (by omega)
   ·rfl
theorem RC:Dg st≤st.length:=List.countP_le_length
theorem S8 {k:Nat} (hl:st.length=cs.length) (h0:0≤t) (hb:(bz cs st t:Int)<kC) (hk:Zw bF cs st t=some k):fill bF kC cs t cs.length (st.set k t)=fill bF kC cs t cs.length st:=by
 obtain⟨h2,h3,_⟩:=FI.1 (Mh hk)
 have h4:=yA (t:=t) (by omega:k<st.length) h3 h0
 have h5:=RC (st:=st)
 rw[TV (st:=st) hl h0 cs.length (cs.length+1) (by omega) (by omega)]
 conv=>rhs;rw[fill,if_pos hb,hk]
def evT (cs:List eR) (st:List Int) (i:Nat):Int:=if 0≤DZ st i then DZ st i+Ur cs i else Ha cs i
def abD (cs:List eR) (st:List Int) (t:Int) (b:Int) (i:Nat):Int:=if t<evT cs st i∧(b<0∨evT cs st i<b) then evT cs st i else b
def later (cs:List eR) (st:List Int) (t:Int):Int:=(List.range cs.length).foldl (abD cs st t) (-1)
structure Way (cs:List eR) (st:List Int) (t:Int):Prop where
 len:st.length=cs.length
 low:∀i,i<cs.length → -1≤DZ st i
 high:∀i,i<cs.length→DZ st i≤t
 bd:∀i,i<cs.length→DZ st i+1000*(Dg st:Int)≤10000+1000*(cs.length:Int)
 tm:0≤t∧t+1000*(Dg st:Int)≤11000+1000*(cs.length:Int)
theorem Way.set {k:Nat} (h:Way cs st t) (hk:k<cs.length) (hs:DZ st k<0):Way cs (st.set k t) t:=by
 have hl:=h.len
 have UZ:=h.tm
 have h4:=yA (t:=t) (by omega:k<st.length) hs UZ.1
 refine⟨by simp[hl],fun i hi => ?_,fun i hi => ?_,fun i hi => ?_,UZ.1,by omega⟩
 all_goals rw[Eb (by omega:k<st.length)]
 ·have:=h.low i hi
  split<;>omega
 ·have:=h.high i hi
  split<;>omega
 ·have:=h.bd i hi
  split<;>omega
theorem Way.le (h:Way cs st t) (hc:iW cs):t≤35000∧∀i,i<cs.length→DZ st i≤34000:=by
 have hlen:=hc.2
 have UZ:=h.tm
 refine⟨by omega,fun i hi => ?_⟩
 have:=h.bd i hi
 omega
theorem iW.bnd (hc:iW cs) {i:Nat} (hi:i<cs.length):(0≤Ha cs i∧Ha cs i≤10000)∧(1≤Ur cs i∧Ur cs i≤1000):=by
 have hx:cs[i]? = some cs[i]:=List.getElem?_eq_getElem hi
 have:=hc.at hx
 rw[Rr hx,aaT hx]
 exact⟨this.1,this.2.1⟩
def D9 (bF:Int) (cs:List eR) (ws:List Nat):Nat :=
 if bF=1 then ws.length-1 else if bF=2∨bF=3 then (List.range ws.length).foldl (fun b k=>if Hl bF cs (ws.getD k 0) (ws.getD b 0) then k else b) 0 else 0
theorem Q2 {ws:List Nat} {k:Nat} (h:∀i j,Hl bF cs i j=false):ws.foldl (xH bF cs) (some k)=some k:=by
 induction ws with
 | nil=>rfl
 |
  cons i ws ih =>
  rw[List.foldl_cons]
  have:xH bF cs (some k) i=some k:=by
   unfold xH
   simp only[h]
   rfl
  rw[this,ih]
theorem Xw {ws:List Nat} (eX:ws≠[]) (hr:0≤bF∧bF≤3):D9 bF cs ws<ws.length∧ws[D9 bF cs ws]? = ws.foldl (xH bF cs) none:=by
 have hlen:0<ws.length:=List.length_pos_iff.2 eX
 unfold D9
 by_cases h1:bF=1
 ·rw[if_pos h1]
  rcases List.eq_nil_or_concat ws with rfl | ⟨xs,y,rfl⟩
  ·exact absurd rfl eX
  ·rw[List.concat_eq_append,List.foldl_append]
   refine⟨by simp,?_⟩
   simp only[List.length_append,List.length_cons,List.length_nil,Nat.zero_add,Nat.add_sub_cancel,List.foldl_cons,List.foldl_nil]
   rw[List.getElem?_append_right (Nat.le_refl _),Nat.sub_self]
   unfold xH
   split
   ·rfl
   ·simp only[Hl,if_pos h1,if_true]
    rfl
 ·rw[if_neg h1]
  by_cases h2:bF=2∨bF=3
  ·rw[if_pos h2]
   have aoM:∀i,Hl bF cs i i=false:=fun i=>by
    unfold Hl
    rw[if_neg h1]
    split
    ·exact decide_eq_false (by omega)
    ·split
     ·exact decide_eq_false (by omega)
     ·rfl
   have key:∀n,n<ws.length→(List.range (n+1)).foldl (fun b k=>if Hl bF cs (ws.getD k 0) (ws.getD b 0) then k else b) 0<ws.length ∧
     ws[(List.range (n+1)).foldl (fun b k=>if Hl bF cs (ws.getD k 0) (ws.getD b 0) then k else b) 0]? = (ws.take (n+1)).foldl (xH bF cs) none:=by
    intro n
    induction n with
    |
     zero =>
     intro _
     have:(List.range (0+1)).foldl (fun b k=>if Hl bF cs (ws.getD k 0) (ws.getD b 0) then k else b) 0=0:=by
      simp[List.range_succ,aoM]
     rw[this]
     refine⟨hlen,?_⟩
     cases ws with
     | nil=>exact absurd rfl eX
     | cons i ws=>rfl
    |
     succ n ih =>
     intro hn
     obtain⟨g1,g2⟩:=ih (by omega)
     rw[List.range_succ,List.foldl_append,List.foldl_cons,List.foldl_nil]
     generalize (List.range (n+1)).foldl (fun b k=>if Hl bF cs (ws.getD k 0) (ws.getD b 0) then k else b) 0=b at *
     obtain⟨x,hx⟩:∃x,ws[n+1]? = some x:=⟨_,List.getElem?_eq_getElem hn⟩
     obtain⟨y,hy⟩:∃y,ws[b]? = some y:=⟨_,List.getElem?_eq_getElem g1⟩
     rw[List.take_add_one,hx,List.foldl_append,←g2,hy]
     simp only[Option.toList_some,List.foldl_cons,List.foldl_nil,List.getD_eq_getElem?_getD,hx,hy,Option.getD_some,xH]
     split
     ·exact⟨hn,hx⟩
     ·exact⟨g1,hy⟩
   have:=key (ws.length-1) (by omega)
   rw[show ws.length-1+1=ws.length by omega,List.take_of_length_le (Nat.le_refl _)] at this
   exact this
  ·rw[if_neg h2]
   refine⟨hlen,?_⟩
   have hb:∀i j,Hl bF cs i j=false:=fun i j=>by
    unfold Hl
    rw[if_neg h1,if_neg (by omega),if_neg (by omega)]
   cases ws with
   | nil=>exact absurd rfl eX
   |
    cons i ws =>
    rw[List.foldl_cons,show xH bF cs none i=some i from rfl,Q2 hb]
    rfl
end
end Go.PM
namespace Go.PM
def HV (st:List Int) (i:Nat):Bool:=decide (DZ st i<0)
def ZE (u e:Int):Bool:=decide (u<e)
section
variable {bF kC:Int} {cs:List eR} {st:List Int} {t:Int}
theorem iW.sorted (hc:iW cs):∀ {i j:Nat},i≤j→j<cs.length→Ha cs i≤Ha cs j:=by
 intro i j Q0 hj
 induction j with
 |
  zero =>
  have:i=0:=by omega
  subst this
  exact Int.le_refl _
 |
  succ j ih =>
  rcases Nat.lt_or_ge i (j+1) with h | h
  ·have h1:=ih (by omega) (by omega)
   have hx:cs[j+1]? = some cs[j+1]:=List.getElem?_eq_getElem hj
   have hy:cs[j]? = some cs[j]:=List.getElem?_eq_getElem (by omega)
   have h2:=(hc.1 (j+1) _ hx).2 _ (by omega) (by rw[Nat.add_sub_cancel];exact hy)
   rw[Rr hx]
   rw[Rr hy] at h1
   omega
  ·have:i=j+1:=by omega
   subst this
   exact Int.le_refl _
theorem Cm {bJ:Nat} (ZS:bJ≤cs.length) (past:∀i,i<bJ→Ha cs i≤t) (Yf:∀i,bJ≤i→i<cs.length→t<Ha cs i):wt cs st t=(List.range bJ).filter (HV st):=by
 unfold wt
 rw[show cs.length=bJ+(cs.length-bJ) by omega,List.range_add,List.filter_append]
 have h1:(List.range bJ).filter (isW cs st t)=(List.range bJ).filter (HV st):=by
  refine List.filter_congr fun i hi => ?_
  rw[List.mem_range] at hi
  simp[isW,HV,past i hi]
 have h2:((List.range (cs.length-bJ)).map fun x=>bJ+x).filter (isW cs st t)=[]:=by
  rw[List.filter_eq_nil_iff]
  intro i hi
  obtain⟨j,hj,rfl⟩:=List.mem_map.1 hi
  rw[List.mem_range] at hj
  have:=Yf (bJ+j) (by omega) (by omega)
  simp only[isW,Bool.and_eq_true,decide_eq_true_eq]
  omega
 rw[h1,h2,List.append_nil]
structure Hk (bF kC:Int) (cs:List eR) (st:List Int) (t:Int) (bJ:Nat) (ws:List Nat) (ends:List Int):Prop where
 len:st.length=cs.length
 low:∀i,i<cs.length → -1≤DZ st i
 high:∀i,i<cs.length→DZ st i≤t
 bd:∀i,i<cs.length→DZ st i+1000*(Dg st:Int)≤10000+1000*(cs.length:Int)
 tm : -1≤t
 JG:bJ≤cs.length
 past:∀i,i<bJ→Ha cs i≤t
 Yf:∀i,bJ≤i→i<cs.length→t<Ha cs i∧DZ st i<0
 S4:ws=wt cs st t
 cnt:∀u,t≤u→ends.countP (ZE u)=bz cs st u
 ef:∀e∈ends,t<e
 eb:∀e∈ends,e+1000*(Dg st:Int)≤11000+1000*(cs.length:Int)
 fl:full bF kC cs st t
 room:ws.length+ends.length≤bJ
 es:(ends.length:Int)≤kC
 run:runT bF kC cs (t+1) (100000-(t+1)).toNat st=stL bF kC cs
theorem Er {n i:Nat} (h:i<n):DZ (List.replicate n (-1)) i = -1:=Wx (by rw[List.getElem?_replicate,if_pos h])
theorem Hk.start (hc:iW cs) (hs:1≤kC):Hk bF kC cs (List.replicate cs.length (-1)) (-1) 0 [] []:=by
 have hw:wt cs (List.replicate cs.length (-1)) (-1)=[]:=by
  rw[Cm (Nat.zero_le _) (fun i hi=>by omega) fun i _ hi=>by have:=hc.bnd hi;omega]
  rfl
 have hu:Dg (List.replicate cs.length (-1))=cs.length:=by simp[Dg,List.countP_replicate]
 refine⟨by simp,fun i hi=>by rw[Er hi];decide,fun i hi=>by rw[Er hi];decide,fun i hi=>by rw[Er hi,hu];omega,by decide,Nat.zero_le _,fun i hi=>by omega,fun i _ hi=>⟨by have:=hc.bnd hi;omega,by rw[Er hi];decide⟩,hw.symm,fun u _ => ?_,fun e he=>(by cases he),fun e he=>(by cases he),.inr (uW.2 hw),Nat.le_refl _,by simp;omega,rfl⟩
 unfold bz
 rw[(List.countP_eq_zero (p:=Za cs (List.replicate cs.length (-1)) u)).2]
 ·rfl
 ·intro i hi
  rw[List.mem_range] at hi
  simp only[Za,Er hi,Bool.and_eq_true,decide_eq_true_eq]
  omega
def Nc (w:Bool) (b e:Int):Int:=if b<0∨(w=true∧e<b) then e else b
theorem adQ {es:List Int} {b:Int} (h:0≤b):es.foldl (Nc false) b=b:=by
 induction es with
 | nil=>rfl
 |
  cons e es ih =>
  rw[List.foldl_cons]
  have:Nc false b e=b:=by
   unfold Nc
   rw[if_neg (by simp;omega)]
  rw[this,ih]
theorem ZW:∀ {es:List Int} {b:Int},(∀e∈es,0≤e)→(es.foldl (Nc true) b=b∨es.foldl (Nc true) b∈es)∧(∀e∈es,es.foldl (Nc true) b≤e)∧(0≤b→es.foldl (Nc true) b≤b)∧(es≠[]→0≤es.foldl (Nc true) b)
 | [],b,_=>⟨.inl rfl,fun e he=>(by cases he),fun _=>Int.le_refl _,fun h=>absurd rfl h⟩
 |
  e::es,b,h=>by
  rw[List.foldl_cons]
  have h1:=h e List.mem_cons_self
  have h2:∀e'∈es,0≤e':=fun e' he=>h e' (List.mem_cons_of_mem _ he)
  have hm:(Nc true b e=b∨Nc true b e=e)∧Nc true b e≤e∧(0≤b→Nc true b e≤b)∧0≤Nc true b e:=by
   unfold Nc
   by_cases hc:b<0∨(true=true∧e<b)
   ·rw[if_pos hc]
    refine⟨.inr rfl,Int.le_refl _,fun hb => ?_,h1⟩
    rcases hc with hc | hc<;>omega
   ·rw[if_neg hc]
    simp at hc
    exact⟨.inl rfl,hc.2,fun _=>Int.le_refl _,hc.1⟩
  obtain⟨m1,m2,m3,m4⟩:=hm
  obtain⟨g1,g2,g3,g4⟩:=ZW (es:=es) (b:=Nc true b e) h2
  have g3:=g3 m4
  refine⟨?_,?_,fun hb=>by have:=m3 hb;omega,fun _ => ?_⟩
  ·rcases g1 with g1 | g1
   ·rw[g1]
    rcases m1 with m1 | m1
    ·exact .inl m1
    ·rw[m1];exact .inr List.mem_cons_self
   ·exact .inr (List.mem_cons_of_mem _ g1)
  ·intro e' he
   rcases List.mem_cons.1 he with rfl | he
   ·omega
   ·exact g2 e' he
  ·rcases g1 with g1 | g1
   ·rw[g1];exact m4
   ·exact h2 _ g1
def L9 (cs:List eR) (bJ:Nat):Int:=if bJ<cs.length then Ha cs bJ else -1
def DY (cs:List eR) (bJ:Nat) (ws:List Nat) (ends:List Int):Int:=ends.foldl (Nc (decide (0<ws.length))) (L9 cs bJ)
theorem Hk.Vp {bJ:Nat} {ws:List Nat} {ends:List Int} (h:Hk bF kC cs st t bJ ws ends):ends.length=bz cs st t:=by
 rw[←h.cnt t (Int.le_refl _),List.countP_eq_length.2]
 intro e he
 exact decide_eq_true (h.ef e he)
theorem Hk.time {bJ:Nat} {ws:List Nat} {ends:List Int} (h:Hk bF kC cs st t bJ ws ends) (hc:iW cs) (hs:1≤kC) (hg:bJ<cs.length∨0<ws.length) :
  (t<DY cs bJ ws ends∧DY cs bJ ws ends+1000*(Dg st:Int)≤11000+1000*(cs.length:Int))∧(∀i,bJ≤i→i<cs.length→DY cs bJ ws ends≤Ha cs i) ∧
   (bJ<cs.length∧Ha cs bJ=DY cs bJ ws ends∨0<ws.length∧DY cs bJ ws ends∈ends)∧runT bF kC cs (DY cs bJ ws ends) (100000-DY cs bJ ws ends).toNat st=stL bF kC cs:=by
 have UZ:=h.tm
 have Nb:=RC (st:=st)
 have hlen:=h.len
 have he0:∀e∈ends,0≤e:=fun e he=>by have:=h.ef e he;omega
 have akP:=hc.2
 by_cases hw:0<ws.length
 ·have hbz:kC≤(bz cs st t:Int):=by
   rcases h.fl with hf | hf
   ·exact hf
   ·rw[uW,←h.S4] at hf
    rw[hf] at hw
    simp at hw
  have eX:ends≠[]:=by
   intro he
   have:=h.Vp
   rw[he] at this
   simp at this
   omega
  obtain⟨g1,g2,g3,g4⟩:=ZW (es:=ends) (b:=L9 cs bJ) he0
  have TN:DY cs bJ ws ends=ends.foldl (Nc true) (L9 cs bJ):=by unfold DY;rw[decide_eq_true hw]
  rw[TN]
  generalize ends.foldl (Nc true) (L9 cs bJ)=w at *
  have g4:=g4 eX
  have Ih:(bJ<cs.length∧Ha cs bJ=w)∨w∈ends:=by
   rcases g1 with g1 | g1
   ·unfold L9 at g1
    split at g1
    ·rename_i lI
     exact .inl ⟨lI,g1.symm⟩
    ·omega
   ·exact .inr g1
  have htw:t<w∧w+1000*(Dg st:Int)≤11000+1000*(cs.length:Int):=by
   rcases Ih with⟨h1,h2⟩ | h1
   ·have:=h.Yf bJ (Nat.le_refl _) h1
    have:=hc.bnd h1
    omega
   ·exact⟨h.ef _ h1,h.eb _ h1⟩
  refine⟨htw,fun i h1 h2 => ?_,Ih.imp id fun h1=>⟨hw,h1⟩,?_⟩
  ·have h3:=hc.sorted h1 h2
   have h4:=hc.bnd (i:=bJ) (by omega)
   have h5:L9 cs bJ=Ha cs bJ:=by unfold L9;rw[if_pos (by omega)]
   have:=g3 (by rw[h5];omega)
   omega
  ·rw[←h.run]
   refine(SH (by omega) (by omega) (by omega) fun u h1 h2 => .inl ?_).symm
   rw[←h.cnt u (by omega),(List.countP_eq_length (p:=ZE u)).2 fun e he=>decide_eq_true (by have:=g2 e he;omega),h.Vp]
   exact hbz
 ·have lI:bJ<cs.length:=by omega
  have h5:L9 cs bJ=Ha cs bJ:=by unfold L9;rw[if_pos lI]
  have h4:=hc.bnd lI
  have hf:=(h.Yf bJ (Nat.le_refl _) lI).1
  have TN:DY cs bJ ws ends=Ha cs bJ:=by unfold DY;rw[decide_eq_false hw,adQ (by rw[h5];omega),h5]
  rw[TN]
  refine⟨⟨hf,by omega⟩,fun i h1 h2=>hc.sorted h1 h2,.inl ⟨lI,rfl⟩,?_⟩
  rw[←h.run]
  refine(SH (by omega) (by omega) (by omega) fun u h1 h2 => .inr ?_).symm
  rw[uW,Cm h.JG (fun i hi=>by have:=h.past i hi;omega) fun i h3 h4=>by have:=hc.sorted h3 h4;omega]
  have e1:=Cm (st:=st) h.JG h.past fun i h3 h4=>(h.Yf i h3 h4).1
  rw[←e1,←h.S4]
  exact List.eq_nil_of_length_eq_zero (by omega)
theorem Hk.done {bJ:Nat} {ws:List Nat} {ends:List Int} (h:Hk bF kC cs st t bJ ws ends) (ZS:¬bJ<cs.length) (hw:¬0<ws.length):st=stL bF kC cs:=by
 rw[←h.run]
 refine(UJ _ _ fun u hu => .inr ?_).symm
 have lI:=h.JG
 have e1:=Cm (st:=st) h.JG h.past fun i h3 h4=>(h.Yf i h3 h4).1
 rw[uW,Cm h.JG (fun i hi=>by have:=h.past i hi;omega) fun i h3 h4=>by omega,←e1,←h.S4]
 exact List.eq_nil_of_length_eq_zero (by omega)
structure Ph4 (bF kC:Int) (cs:List eR) (X8:List Int) (now:Int) (bJ Yg:Nat) (st:List Int) (ws:List Nat) (ends:List Int):Prop where
 S3:Way cs st now
 S4:ws=wt cs st now
 cnt:∀u,now≤u→ends.countP (ZE u)=bz cs st u
 ef:∀e∈ends,now<e
 eb:∀e∈ends,e+1000*(Dg st:Int)≤11000+1000*(cs.length:Int)
 fl:fill bF kC cs now cs.length st=fill bF kC cs now cs.length X8
 past:∀i,i<bJ→Ha cs i≤now
 Yf:∀i,bJ≤i→i<cs.length→now<Ha cs i∧DZ st i<0
 Yg:ws.length+ends.length=Yg
 es:(ends.length:Int)≤kC
theorem Av:∀ {l:List Nat} {i k:Nat},l.Nodup→l[i]? = some k→l.eraseIdx i=l.filter (· != k)
 | [],_,_,_,h=>by cases h
 |
  x::l,0,k,hn,h=>by
  injection h with h
  subst h
  rw[List.nodup_cons] at hn
  rw[List.eraseIdx_cons_zero,List.filter_cons_of_neg (by simp),List.filter_eq_self.2]
  intro y hy
  have:y≠x:=fun he=>hn.1 (he▸hy)
  simpa using this
 |
  x::l,i+1,k,hn,h=>by
  rw[List.nodup_cons] at hn
  rw[List.getElem?_cons_succ] at h
  have hx:x≠k:=fun he=>hn.1 (he▸List.mem_of_getElem? h)
  rw[List.eraseIdx_cons_succ,List.filter_cons_of_pos (by simpa using hx),Av hn.2 h]
theorem Ph4.step {now:Int} {X8:List Int} {bJ Yg:Nat} {ws:List Nat} {ends:List Int} (h:Ph4 bF kC cs X8 now bJ Yg st ws ends) (hc:iW cs) (hr:0≤bF∧bF≤3) (hb:(ends.length:Int)<kC) (eX:0<ws.length) :
  ∃k,ws[D9 bF cs ws]? = some k∧k<cs.length∧D9 bF cs ws<ws.length∧(0≤now∧now≤35000)∧Ph4 bF kC cs X8 now bJ Yg (st.set k now) (ws.eraseIdx (D9 bF cs ws)) (ends++[now+Ur cs k]):=by
 have T6:ws≠[]:=fun he=>by rw[he] at eX;simp at eX
 obtain⟨g1,g2⟩:=Xw (cs:=cs) T6 hr
 obtain⟨k,hk⟩:∃k,ws[D9 bF cs ws]? = some k:=⟨_,List.getElem?_eq_getElem g1⟩
 have hnx:Zw bF cs st now=some k:=by
  unfold Zw
  rw[←h.S4,←g2,hk]
 obtain⟨m1,m2,m3⟩:=FI.1 (Mh hnx)
 have UZ:=h.S3.tm
 have hle:=(h.S3.le hc).1
 have hbz:(bz cs st now:Int)=ends.length:=by
  rw[←h.cnt now (Int.le_refl _),(List.countP_eq_length (p:=ZE now)).2 fun e he=>decide_eq_true (h.ef e he)]
 have L8:k<st.length:=by rw[h.S3.len];exact m1
 have hus:=yA (t:=now) L8 m2 UZ.1
 have hwk:=(hc.bnd m1).2
 refine⟨k,hk,m1,g1,⟨UZ.1,hle⟩,h.S3.set m1 m2,?_,?_,?_,?_,?_,h.past,?_,?_,?_⟩
 ·rw[aaO h.S3.len m1 UZ.1,←h.S4]
  exact Av (by rw[h.S4];exact XG) hk
 ·intro u hu
  rw[List.countP_append,h.cnt u hu,acI m1 h.S3.len m2 UZ.1,List.countP_singleton]
  congr 1
  simp only[ZE,decide_eq_true_eq]
  by_cases hq:u<now+Ur cs k
  ·rw[if_pos hq,if_pos ⟨hu,hq⟩]
  ·rw[if_neg hq,if_neg fun h'=>hq h'.2]
 ·intro e he
  rcases List.mem_append.1 he with he | he
  ·exact h.ef e he
  ·rw[List.mem_singleton] at he
   omega
 ·intro e he
  rcases List.mem_append.1 he with he | he
  ·have:=h.eb e he
   omega
  ·rw[List.mem_singleton] at he
   omega
 ·rw[S8 h.S3.len UZ.1 (by rw[hbz];exact hb) hnx,h.fl]
 ·intro i h1 h2
  have h3:=h.Yf i h1 h2
  refine⟨h3.1,?_⟩
  rw[Eb L8,if_neg (fun he=>by subst he;omega)]
  exact h3.2
 ·rw[List.length_eraseIdx_of_lt g1,List.length_append,List.length_cons,List.length_nil]
  have:=h.Yg
  omega
 ·rw[List.length_append,List.length_cons,List.length_nil]
  omega
theorem Ph4.done {now:Int} {X8:List Int} {bJ Yg:Nat} {ws:List Nat} {ends:List Int} (h:Ph4 bF kC cs X8 now bJ Yg st ws ends) (hc:iW cs) (lI:bJ≤cs.length) (ht:Yg≤bJ) (hf:kC≤(ends.length:Int)∨ws=[])
  (hr:runT bF kC cs now (100000-now).toNat X8=stL bF kC cs):Hk bF kC cs st now bJ ws ends:=by
 have UZ:=h.S3.tm
 have hle:=(h.S3.le hc).1
 have hbz:(bz cs st now:Int)=ends.length:=by
  rw[←h.cnt now (Int.le_refl _),(List.countP_eq_length (p:=ZE now)).2 fun e he=>decide_eq_true (h.ef e he)]
 have aaB:full bF kC cs st now:=by
  rcases hf with hf | hf
  ·exact .inl (by rw[hbz];exact hf)
  ·exact .inr (uW.2 (by rw[←h.S4];exact hf))
 refine⟨h.S3.len,h.S3.low,h.S3.high,h.S3.bd,by omega,lI,h.past,h.Yf,h.S4,h.cnt,h.ef,h.eb,aaB,by rw[h.Yg];exact ht,h.es,?_⟩
 have h1:=uI aaB cs.length
 rw[h.fl] at h1
 rw[Wu UZ.1 (by omega),h1] at hr
 exact hr
end
end Go.PM
namespace Go.PM
end Go.PM
namespace Go.PM
section
variable {α:Type} {f:α→VV} {H:aA} {b g e lo:Nat} {X Y:List α}
end
end Go.PM
namespace Go.PM
def Ta (N:Nat) (hi:Int) (st:List (Nat×Int)):Prop:=∀p∈st,p.1<N∧1≤p.2∧p.2≤hi
theorem Ta.cons {N:Nat} {hi:Int} {p:Nat×Int} {st:List (Nat×Int)} (h:Ta N hi (p::st)):(p.1<N∧1≤p.2∧p.2≤hi)∧Ta N hi st:=⟨h p List.mem_cons_self,fun q hq=>h q (List.mem_cons_of_mem _ hq)⟩
theorem Ta.of {N:Nat} {hi:Int} {p:Nat×Int} {st:List (Nat×Int)} (hp:p.1<N∧1≤p.2∧p.2≤hi) (h:Ta N hi st):Ta N hi (p::st):=fun q hq=>by
 rcases List.mem_cons.1 hq with rfl | hq
 ·exact hp
 ·exact h q hq
end Go.PM
namespace Go.PM
structure aqD (bF kC room:Int) (cs:List eR) where
 I:Nat→Nat→List Nat→List Int→List Int→Prop
 A:Nat→Int→Nat→List Nat→List Int→List Int→Prop
 S:Nat→Int→Nat→List Nat→List Int→List Int→Prop
 bI:∀ {m bJ ws ends st},I m bJ ws ends st→bJ≤cs.length∧st.length=cs.length∧ws.length≤24∧ends.length≤24
 bA:∀ {m now bJ ws ends st},A m now bJ ws ends st→bJ≤cs.length∧st.length=cs.length∧ws.length≤24∧ends.length≤24
 bS:∀ {m now bJ ws ends st},S m now bJ ws ends st→bJ≤cs.length∧st.length=cs.length∧ws.length≤24∧ends.length≤24∧(∀i∈ws,i<cs.length)∧(0≤now∧now≤100000)
 start:∃m,I m 0 [] [] (List.replicate cs.length (-1))
 toA:∀ {m bJ ws ends st},I m bJ ws ends st→bJ<cs.length∨0<ws.length→A m (DY cs bJ ws ends) bJ ws (ends.filter (ZE (DY cs bJ ws ends))) st
 apM:∀ {m now bJ ws ends st},A m now bJ ws ends st→bJ<cs.length→Ha cs bJ=now→A m now (bJ+1) (if (ws.length:Int)+(ends.length:Int)<room then ws++[bJ] else ws) ends st
 toS:∀ {m now bJ ws ends st},A m now bJ ws ends st→¬(bJ<cs.length∧Ha cs bJ=now)→S m now bJ ws ends st
 aqQ:∀ {m now bJ ws ends st},S m now bJ ws ends st→(ends.length:Int)<kC→0<ws.length→∃k,ws[D9 bF cs ws]? = some k∧S m now bJ (ws.eraseIdx (D9 bF cs ws)) (ends++[now+Ur cs k]) (st.set k now)
 toI:∀ {m now bJ ws ends st},S m now bJ ws ends st→¬((ends.length:Int)<kC∧0<ws.length)→∃m',m'<m∧I m' bJ ws ends st
structure StE (bF kC room:Int) (cs:List eR) (n g1 k1 c1 g2 k2 c2 bJ:Nat) (ρ:cR):Prop where
 r0:ρ 0=VI bF
 r1:ρ 1=VI kC
 r2:ρ 2=VI room
 r3:ρ 3=V7 cs
 r9:ρ 9 = .ref n 0 0 cs.length cs.length
 r10:ρ 10 = .ref (n+1) g1 0 k1 c1
 r11:ρ 11 = .ref (n+2) g2 0 k2 c2
 ZY:ρ 12=VI bJ
structure Part {α:Type} (all xs:List α):Prop where
 le:xs.length≤all.length
 tk:all.take xs.length=xs
theorem Part.get {α:Type} {all xs:List α} (h:Part all xs) {i:Nat} {x:α} (hx:xs[i]? = some x):all[i]? = some x:=by
 rw[←h.tk,List.getElem?_take] at hx
 split at hx
 ·exact hx
 ·cases hx
theorem Part.fz {α:Type} {f:α→VV} {e b g:Nat} {all xs:List α} {w:Bool} {H:aA} (h:Part all xs) (hp:∀x,aR (f x)=true) (hr:aQ H b g=some (all.map f,e,w)):fz depth H (.ref b g 0 xs.length all.length)=some (bK f xs):=by
 rw[HK hr (by rw[List.length_map];exact h.le) h.le (dQ hp),←List.map_take,h.tk]
theorem StE.C7 {bF kC room:Int} {cs:List eR} {n g1 k1 c1 g2 k2 c2 bJ:Nat} {ρ:cR} (h:StE bF kC room cs n g1 k1 c1 g2 k2 c2 bJ ρ):StE bF kC room cs n g1 k1 c1 g2 k2 c2 bJ (Dh (n+3) ρ):=by
 obtain⟨h0,h1,h2,h3,h9,h10,h11,h12⟩:=h
 refine⟨?_,?_,?_,?_,?_,?_,?_,?_⟩
 ·rw[fG,h0];rfl
 ·rw[fG,h1];rfl
 ·rw[fG,h2];rfl
 ·rw[fG,h3,vG (OL _)]
 ·rw[fG,h9,yN (by omega)]
 ·rw[fG,h10,yN (by omega)]
 ·rw[fG,h11,yN (by omega)]
 ·rw[fG,h12];rfl
end Go.PM
namespace Go.PM
theorem XB {p:Nat→Bool} {a b:Nat} (h:a≤b):((List.range b).filter p).length≤((List.range a).filter p).length+(b-a):=by
 obtain⟨d,rfl⟩:∃d,b=a+d:=⟨b-a,by omega⟩
 rw[List.range_add,List.filter_append,List.length_append]
 have:=List.length_filter_le p ((List.range d).map fun x=>a+x)
 simp only[List.length_map,List.length_range] at this
 omega
structure StA (bF kC:Int) (cs:List eR) (m:Nat) (now:Int) (bJ:Nat) (ws:List Nat) (ends st:List Int) (t:Int) (Eu:Nat) (ws0:List Nat) (IF:List Int):Prop where
 imp:Hk bF kC cs st t Eu ws0 IF
 gd:Eu<cs.length∨0<ws0.length
 ms:m=2*(cs.length-Eu)+ws0.length
 nw:now=DY cs Eu ws0 IF
 c0:Eu≤bJ
 c1:bJ≤cs.length
 eq:∀i,Eu≤i→i<bJ→Ha cs i=now
 S4:ws=(List.range bJ).filter (HV st)
 enq:ends=IF.filter (ZE now)
theorem StA.bnd {bF kC:Int} {cs:List eR} {m:Nat} {now:Int} {bJ:Nat} {ws:List Nat} {ends st:List Int} {t:Int} {Eu:Nat} {ws0:List Nat} {IF:List Int} (h:StA bF kC cs m now bJ ws ends st t Eu ws0 IF):ws.length+ends.length≤bJ∧ws.length≤ws0.length+(bJ-Eu)∧ends.length≤IF.length:=by
 have h1:=XB (p:=HV st) h.c0
 have h2:=Cm (st:=st) h.imp.JG h.imp.past fun i h3 h4=>(h.imp.Yf i h3 h4).1
 rw[←h2,←h.imp.S4,←h.S4] at h1
 have h3:=List.length_filter_le (ZE now) IF
 rw[←h.enq] at h3
 have h4:=h.imp.room
 have h5:=h.c0
 omega
structure StS (bF kC:Int) (cs:List eR) (m:Nat) (now:Int) (bJ:Nat) (ws:List Nat) (ends st:List Int) (X8:List Int) (w2 e2:Nat):Prop where
 ph:Ph4 bF kC cs X8 now bJ (w2+e2) st ws ends
 c1:bJ≤cs.length
 tc:w2+e2≤bJ
 run:runT bF kC cs now (100000-now).toNat X8=stL bF kC cs
 wle:ws.length≤w2
 ms:2*(cs.length-bJ)+w2<m∨(2*(cs.length-bJ)+w2=m∧0<w2∧(e2:Int)<kC)
def stR (cD:List Int) (n:Nat) (r:VV) (L:aA):Prop:=r = .ref n 0 0 cD.length cD.length∧L[0]? = some (.row 0 (cD.map nV) 1 true)
def afF (cD:List Int) (n:Nat) (r:VV) (L:aA):Prop:=r = .ref n 0 0 cD.length cD.length∧L=[.row 0 (cD.map nV) 1 true]
theorem afF.to {cD:List Int} {n:Nat} {r:VV} {L:aA} (h:afF cD n r L):stR cD n r L:=⟨h.1,by rw[h.2];rfl⟩
end Go.PM
namespace Go.PM
def apE (bF kC:Int) (cs:List eR):Prop:=(0≤bF∧bF≤3)∧(1≤kC∧kC≤8)∧iW cs
noncomputable instance (bF kC:Int) (cs:List eR):Decidable (apE bF kC cs):=Classical.propDecidable _
theorem iW.mem {cs:List eR} (h:iW cs) {c:eR} (hc:c∈cs):(0≤c.t∧c.t≤10000)∧(1≤c.w∧c.w≤1000)∧(0≤c.k∧c.k≤9):=by
 obtain⟨i,hi⟩:=List.getElem?_of_mem hc
 exact h.at hi
theorem FC.mono {f:Nat} {args:List VV} {R R':Nat→VV→aA→Prop} (h:FC f args R) (hR:∀n r L,R n r L→R' n r L):FC f args R':=fun n=>(h n).mono fun _ _ ⟨L,h1,h2,h3,h4⟩=>⟨L,h1,h2,h3,hR _ _ _ h4⟩
theorem Hk.all {bF kC:Int} {cs:List eR} {st:List Int} {t:Int} {bJ:Nat} {ws:List Nat} {ends:List Int} (h:Hk bF kC cs st t bJ ws ends) (ZS:¬bJ<cs.length) (hw:¬0<ws.length):∀i,i<cs.length→0≤DZ st i:=by
 intro i hi
 have lI:=h.JG
 rcases Int.lt_or_le (DZ st i) 0 with h1 | h1
 ·have h2:i∈wt cs st t:=FI.2 ⟨hi,h1,h.past i (by omega)⟩
  rw[←h.S4,List.eq_nil_of_length_eq_zero (by omega:ws.length=0)] at h2
  cases h2
 ·exact h1
end Go.PM
namespace Go.PM
theorem LR.of {cD:List Int} {ok:Bool} {n:Nat} {r:VV} {L:aA} (h:stR cD n r L):LR cD ok n (.eO [r,.sc (.bool ok)]) L:=⟨r,rfl,.inr ⟨0,0,cD.length,h.1,Nat.le_refl _,h.2⟩⟩
end Go.PM
namespace Go.PM
theorem LR.fz {cD:List Int} {ok:Bool} {n:Nat} {v:VV} {L:aA} (h:(v = .tree [] .nil∧cD=[])∨∃i g c,v = .ref (n+i) g 0 cD.length c∧cD.length≤c∧L[i]? = some (.row g (cD.map nV) 1 true)):PM.fz depth (List.replicate n iY.dead++L) v=some (ZL cD):=by
 rcases h with⟨rfl,rfl⟩ | ⟨i,g,c,rfl,h2,h3⟩
 ·exact Dp
 ·exact Sv (fun _=>rfl) (by rw[ZD];exact cP.2 h3) h2
end Go.PM
namespace Go.PM
open Go.Lib
end Go.PM
namespace Go.PM
theorem Mw {f lo:Nat} {args kO:List VV} {r:VV} {H:aA} {K:VV→aA→Prop} (h:TC f kO r) (xL:CA.contains f=false) (Zc:aJ kO=true) (hf:args.mapM (fz depth H)=some kO) (hr:Gw r=true) (hk:K r H):dE f args lo H K:=by
 rw[h.flat xL Zc hf hr]
 exact hk
theorem D0 (l:List UInt8):cX .neq (.string ⟨l.toArray⟩) (.string ⟨l.toArray⟩)=some (.bool false):=by rw[Mf];simp
end Go.PM
namespace Go.PM
set_option maxHeartbeats 2000000 in
theorem BH (Sx:List ByteArray) (UM:okS Sx):TC 7 [fP Sx] (.sc (.bool true)):=by
 refine TC.walk ⟨true,false⟩ A2 rfl (Nat.le_of_ble_eq_true rfl) (by simp only[aJ,dR];rfl) rfl ?_
 have WD:=FG Sx (1000000) UM (by omega)
 by_cases afH:Wi Sx (1000000)<0
 ·rw[acE afH (by omega)] at WD
  simp only[pC,mN,WD,Int.reduceNeg,Int.reduceLT,VX,Nat.reduceEqDiff,Nat.reduceAdd]
  exact aH rfl
 obtain⟨le0,UW,Yb⟩:=adD (xs:=Sx) (l:=1000000) (by omega)
 have X5:Sx.length≤1000000:=by omega
 have JJ:∀s∈Sx,s.size≤1000000000:=fun s h=>by have:=Yb s h;omega
 simp only[pC,mN,WD,afH,VX,Nat.reduceEqDiff,Nat.reduceAdd]
 have t0':=fun b=>Fv Sx b (by omega)
 have cs:=JO Sx (by omega) JJ
 have ci:=JK Sx (by omega) JJ
 obtain⟨s,k,hsk⟩:=Tj Sx
 change TC _ _ (aaG Sx) at cs ci
 rw[hsk] at cs ci
 have pa:aJ [fP Sx]=true:=by simp only[aJ,dR];rfl
 refine Xn (t0' false) rfl FL (fun _=>rfl) fun r1 H1 p1 s1 => ?_
 simp only[VX,Nat.reduceEqDiff,Nat.reduceAdd]
 refine Mw cs rfl pa (ZH (s1.pre (List.prefix_refl _)).now) rfl ?_
 simp only[VX,Nat.reduceEqDiff,Nat.reduceAdd]
 refine Wy (t0' false) rfl FL (fun _=>rfl) fun b2 H2 p2 lo2 r2 => ?_
 simp only[VX,Nat.reduceEqDiff,Nat.reduceAdd]
 refine Mw ci rfl pa (ZH (KZ (fun _=>rfl) (lG (List.prefix_refl _) r2))) rfl ?_
 simp only[D0,OQ,VX,Nat.reduceEqDiff,Nat.reduceAdd]
 refine Wy (t0' false) rfl FL (fun _=>rfl) fun b3 H3 p3 lo3 r3 => ?_
 simp only[VX,Nat.reduceEqDiff,Nat.reduceAdd]
 refine Bj Sx (by omega) (lG p3 r2) r3 ?_
 simp only[VX,Nat.reduceEqDiff,Nat.reduceAdd]
 refine Xn (t0' true) rfl FL (fun _=>rfl) fun r4 H4 p4 s4 => ?_
 simp only[VX,Nat.reduceEqDiff,Nat.reduceAdd]
 refine Mw ci rfl pa (ZH (s4.pre (List.prefix_refl _)).now) rfl ?_
 simp only[D0,OQ,VX,Nat.reduceEqDiff,Nat.reduceAdd]
 exact aH rfl
end Go.PM
namespace Go.PM
open Go.Proofs
theorem C0 {P:Program} {w:World} {name:String} {d:DataW Unit}:∀ {l:List (String×DataW Unit)} {ps:List MemPlace},DataW.LaidVars P w l ps→(name,d)∈l →
  ∃g t cs fuel p,P.globalNamed name=some g∧(P.globals[g]?).map (·.type)=some t∧w.var? P name=some cs∧DataW.trod (fun _=>()) P w 0 (fun _=>true) false fuel t cs.toList=some (d,p)
 | [],_,_,hm=>by cases hm
 |
  (n,e)::r,ps,h,hm=>by
  obtain⟨g,t,cs,fuel,p,q,h1,h2,h3,h4,h5,_⟩:=h
  rcases List.mem_cons.1 hm with he | hm
  ·cases he
   exact⟨g,t,cs,fuel,p,h1,h2,h3,h4⟩
  ·exact C0 h5 hm
theorem Ip {W:World} {l:List (String×DataW Unit)} (hl:laidMetH Tryz.prog l W) (hp:(l.all fun x=>x.2.handleName?.isNone)=true) (hm:("internal/strconv.uint64pow10",Lib.tabData .u64 Lib.pow10Tab)∈l)
  {t e:TypeId} {n:Nat} (hty:(Tryz.prog.globals[1]?).map (·.type)=some t) (ht:Tryz.prog.underlying t=some (.array n e)) (he:Tryz.prog.underlying e=some (.int .u64)) (hce:Tryz.prog.cellsOf e=1) (hct:Tryz.prog.cellsOf t=n):LH W:=by
 rw[MakeChecks.laidMetH_plain _ _ _ hp] at hl
 obtain⟨ps,h1,_⟩:=hl
 obtain⟨g',t',cs,fuel,p,XS,YA,Wm,hd⟩:=C0 h1 hm
 have hg:Tryz.prog.globalNamed "internal/strconv.uint64pow10"=some 1:=by kernel_rfl
 obtain rfl:=Option.some.inj (hg.symm.trans XS)
 obtain rfl:=Option.some.inj (hty.symm.trans YA)
 have Lp:=Lib.cells_of_tab ht he hce hct hd
 intro x hx
 have TB:x=(1,(Lib.pow10Tab.map fun z=>Value.int .u64 z).toArray):=by simpa[Zy] using hx
 subst TB
 unfold World.var? at Wm
 rw[hg,Option.bind_some] at Wm
 split at Wm
 ·rename_i xX e' fz' hh
  cases Wm
  refine⟨e',fz',?_⟩
  rw[←Lp]
  simpa using hh
 ·cases Wm
end Go.PM