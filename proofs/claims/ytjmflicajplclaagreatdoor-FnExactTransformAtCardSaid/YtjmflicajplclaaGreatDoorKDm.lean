/- Texts of a claim, in one: part 13. -/
import Derived.KernelRfl
import Derived.Test.YtjmflicajplclaaGreatDoorKDl
open And renaming intro → aL1
open Bool renaming and_self → aLJ,true_and → aNX
open Int renaming toNat_natCast → aLH
open List renaming all_eq_true → aKz,append_assoc → aL7,cons_append → aLL,findIdx?_eq_none_iff → aNB,findIdx?_eq_some_iff_getElem → aNC,getD_eq_getElem?_getD → aKi,getElem?_cons_succ → aL5,getElem?_cons_zero → aKF,getElem?_eq_getElem → aKs,getElem?_eq_some_iff → aKk,length_append → aKw,length_cons → aKv,length_drop → aMK,length_eq_zero_iff → aNg,length_nil → aLY,length_pos_iff → aNi,length_take → aLU,mapM_cons → aLI,mem_append → aLh,mem_of_getElem? → aLf,mem_of_mem_drop → aLj,mem_of_mem_take → aLi,mem_singleton → aLr,nil_append → aLD,set_cons_zero → aLZ,take_add_one → aMb,take_append_drop → aLu,take_length → aLy,take_of_length_le → aLe,take_zero → aNz
open Nat renaming gcd → aM1,le_of_ble_eq_true → aL9,le_of_lt → aK2,le_refl → aKl,pow_le_pow_right → aMp,sub_zero → aNY,zero_add → aLT,zero_le → aKP,zero_lt_one → aNA
set_option linter.unusedSimpArgs false
set_option linter.unusedVariables false
namespace Go.PM
open Go.Lib
def eI (s:tA):Option (List Rat×List (List Rat)×List Rat):=if (1≤s.b.length∧s.b.length≤6)∧s.g.length=s.b.length∧s.e.length=s.b.length then
  match mR s.b,sY s.e with
  | some w,some r=>if (r.any fun q=>decide (q<0))=false then (iR s.g s.b.length).map fun m=>(w,m,r) else none
  | _,_=>none
 else none
def BR (x:List Rat×List (List Rat)×List Rat):Bool:=(qG x.2.1 x.2.2 x.2.2.length x.2.2.length).all id
def ZM:VV := .agg [.tree [] .op,.tree [] .op,.tree [] .op]
def Qs (s:tA):VV:=match eI s with
 | some x => .dU [Cr aF x.1 x.2.1 x.2.2,VB (BR x)]
 | none => .dU [ZM,VB false]
theorem RC (b:List Rat) (g:List (List Rat)) (e:List Rat):aX (Cr aF b g e)=true:=by
 show aO [aC aF b,aC (aC aF) g,aC aF e]=true
 simp only[aO,gL,Jv,aLJ]
theorem alT (b:List Rat) (g:List (List Rat)) (e:List Rat):gW (Cr aF b g e)=true:=by
 show sO [aC aF b,aC (aC aF) g,aC aF e]=true
 simp only[sO,Gw,asQ,aLJ]
theorem aiP (s:tA):gW (Qs s)=true:=by
 unfold Qs
 split
 ·exact zK (alT _ _ _) rfl
 ·exact zK (by decide) rfl
theorem Sj {s:tA} {x:List Rat×List (List Rat)×List Rat} (h:eI s=some x):(1≤x.1.length∧x.1.length≤6)∧x.2.1.length=x.1.length∧x.2.2.length=x.1.length∧kG x.1=true∧(∀q∈x.1,aM q≤665)∧(∀r∈x.2.1,r.length=x.1.length∧∀q∈r,0≤q∧aM q≤665)∧(∀q∈x.2.2,0≤q∧aM q≤665):=by
 unfold eI at h
 split at h
 ·rename_i hl
  split at h
  ·rename_i w r h1 h2
   split at h
   ·rename_i jV
    obtain⟨m,hm,rfl⟩:=Option.map_eq_some_iff.1 h
    obtain⟨k1,k2⟩:=Qc h1
    obtain⟨b1,_,b3⟩:=nD k1
    obtain⟨c1,_,c3⟩:=nD h2
    obtain⟨d1,d2⟩:=tW hm
    refine⟨by simp only;omega,by simp only;omega,by simp only;omega,k2,b1,fun r hr=>⟨by have:=(d2 r hr).1;simp only;omega,(d2 r hr).2⟩,fun q hq=>⟨?_,c1 q hq⟩⟩
    have:=List.any_eq_false.1 jV q hq
    exact Rat.not_lt.1 (by simpa using this)
   ·cases h
  ·cases h
 ·cases h
theorem GV (bs:List Bool) (b:Bool) (hn:bs.length≤1000000):TC 213 [aC (fun b=>VB b) bs,VB b] (VI (match bs.findIdx? (· == b) with | some i=>(i:Int) | none => -1)):=by
 refine TC.walk ⟨true,false⟩ AA rfl (aL9 rfl) (vL (Mz _) rfl) rfl ?_
 simp only[sZ,qP,eH,VX,Nat.reduceEqDiff,Nat.reduceAdd,Nat.reduceLeDiff,Nat.reduceLT,Nat.reduceSub]
 refine aR (fun(i:Nat) ρ H=>i≤bs.length∧H=[]∧(∀x∈bs.take i,(x == b)=false)∧ρ 0=aC (fun b=>VB b) bs∧ρ 1=VB b∧ρ 7=VI bs.length∧ρ 8=VI i) (fun i=>bs.length-i) 0 ⟨aKP _,rfl,by simp,rfl,rfl,rfl,rfl⟩ ?_
 rintro i ρ H ⟨hi,rfl,ht,g0,g1,g7,g8⟩
 by_cases bX:(i:Int)<(bs.length:Int)
 ·obtain⟨x,hx⟩:∃x,bs[i]? = some x:=⟨_,aKs (by omega)⟩
  have a1:=fun H=>aI (f:=fun b=>VB b) (t := .op) (H:=H) (size:=1) (k := .i64) hx rfl
  have wi:IntKind.i64.wrap ((i:Int)+1)=((i+1:Nat):Int):=wrapN (i+1) (by omega) (by omega)
  by_cases hxb:(x == b)=true
  ·have hf:bs.findIdx? (· == b)=some i:=by
    rw[aNC]
    refine⟨by omega,by rw[aKk] at hx;obtain⟨h1,h2⟩:=hx;rw[h2];exact hxb,fun j hj => ?_⟩
    have:=ht bs[j] (List.mem_take_iff_getElem.2 ⟨j,by omega,rfl⟩)
    simpa using this
   have e1:PT false (.bool b) (.bool x)=some (.bool true):=by
    have:x=b:=by simpa using hxb
    subst this
    cases x<;>rfl
   rw[hf]
   simp only[gH,g0,g1,g7,g8,bX,a1,e1,eH,VX,Nat.reduceEqDiff,Nat.reduceAdd,Nat.reduceLeDiff,Nat.reduceLT,Nat.reduceSub]
   exact aH rfl
  ·have e1:PT false (.bool b) (.bool x)=some (.bool false):=by
    cases x<;>cases b<;>first | rfl | exact absurd rfl hxb
   simp only[gH,g0,g1,g7,g8,bX,a1,e1,wi,eH,VX,Nat.reduceEqDiff,Nat.reduceAdd,Nat.reduceLeDiff,Nat.reduceLT,Nat.reduceSub]
   refine⟨i+1,by omega,by omega,fun y hy => ?_,by (repeat' apply aL1)<;>first | rfl | trivial | assumption⟩
   rw[sG hx] at hy
   rcases aLh.1 hy with h | h
   ·exact ht y h
   ·rw[aLr] at h
    subst h
    simpa using hxb
 ·have nC:i=bs.length:=by omega
  subst nC
  rw[aLy] at ht
  have hf:bs.findIdx? (· == b)=none:=by
   rw[aNB]
   exact ht
  rw[hf]
  simp only[gH,g7,g8,bX,eH,VX,Nat.reduceEqDiff,Nat.reduceAdd,Nat.reduceLeDiff,Nat.reduceLT,Nat.reduceSub]
  exact aH rfl
theorem DS (bs:List Bool) (hn:bs.length≤1000000):TC 194 [aC (fun b=>VB b) bs,VB false] (VB (!bs.all id)):=by
 refine TC.walk ⟨true,false⟩ yH rfl (aL9 rfl) (vL (Mz _) rfl) rfl ?_
 have e1:=GV bs false hn
 cases hf:bs.findIdx? (· == false) with
 |
  none =>
  rw[hf] at e1
  have ha:bs.all id=true:=by
   rw[aNB] at hf
   rw[aKz]
   intro x hx
   have:=hf x hx
   cases x<;>first | rfl | cases this
  have g:¬(0:Int) ≤ -1:=by decide
  rw[ha]
  simp only[kM,jF,e1,g,ge_iff_le,Int.reduceNeg,Bool.not_true,eH,VX,Nat.reduceEqDiff,Nat.reduceAdd,Nat.reduceLeDiff,Nat.reduceLT,Nat.reduceSub]
  exact aH rfl
 |
  some i =>
  rw[hf] at e1
  have ha:bs.all id=false:=by
   rw[aNC] at hf
   obtain⟨h1,h2,_⟩:=hf
   cases jN:bs.all id with
   | false=>rfl
   |
    true =>
    have:=aKz.1 jN bs[i] (List.getElem_mem h1)
    simp only[id] at this
    rw[this] at h2
    cases h2
  have g:(0:Int)≤(i:Int):=by omega
  rw[ha]
  simp only[kM,jF,e1,g,ge_iff_le,Bool.not_false,eH,VX,Nat.reduceEqDiff,Nat.reduceAdd,Nat.reduceLeDiff,Nat.reduceLT,Nat.reduceSub]
  exact aH rfl
def WT (B E:VV) (i:Nat) (out:List (List Rat)):aA:=match i with
 | 0=>[kS,.row 0 [.agg [B,.tree [] .nil,E]] 3 true]
 | i+1=>[kS,.row 0 [.agg [B,.ref 2 i 0 (i+1) (i+1),E]] 3 true,.row i (out.map (aC aF)) 1 true]
theorem asH {H:aA}:PM.fz depth H (.dU [.agg [.tree [] .nil,.tree [] .nil,.tree [] .nil],VB false])=some (.dU [ZM,VB false]):=by
 refine bO (d:=6) (Gh (d:=5) ?_) (aL (v:=VB false) rfl)
 rw[aLI,BX,aLI,BX,aLI,BX]
 rfl
set_option maxHeartbeats 4000000 in
theorem KI (s:tA) (hb:N5 s):TC 176 [tR s] (Qs s):=by
 refine TC.walk ⟨true,false⟩ KJ rfl (aL9 rfl) (FR (mT _)) (aiP _) ?_
 have yW:=hb.b4
 have hel:=hb.e4
 have bad:eI s=none→∀K,PM.fz depth K (.dU [.agg [.tree [] .nil,.tree [] .nil,.tree [] .nil],VB false])=some (Qs s):=fun h K=>by
  have:Qs s = .dU [ZM,VB false]:=by unfold Qs;rw[h]
  rw[this]
  exact asH
 have IM:∀K:aA,bK 0 3 (.ptr 0 0 0 0) (.agg [.tree [] .nil,.tree [] .nil,.tree [] .nil]) (kS::K)=some (kS::K):=fun K=>by
  unfold kS
  rw[bR (e:=3) aT (by exact aNA) (aKl _) rfl rfl]
  rfl
 have Sm:∀K:aA,bI true 3 (.ptr 0 0 0 0) (kS::K)=some (.agg [.tree [] .nil,.tree [] .nil,.tree [] .nil]):=fun K=>by
  rw[bS,aT]
  rfl
 by_cases h1:(s.b.length:Int)<1
 ·have bad:=bad (by unfold eI;exact if_neg (by omega))
  simp only[gC,dX,tR,h1,IM,Sm,dT,aKF,aL5,aLT,aLD,aLY,eH,VX,Nat.reduceEqDiff,Nat.reduceAdd,Nat.reduceLeDiff,Nat.reduceLT,Nat.reduceSub]
  exact bad _
 by_cases h6:(6:Int)<(s.b.length:Int)
 ·have bad:=bad (by unfold eI;exact if_neg (by omega))
  simp only[gC,dX,tR,h1,h6,IM,Sm,dT,aKF,aL5,aLT,aLD,aLY,eH,VX,Nat.reduceEqDiff,Nat.reduceAdd,Nat.reduceLeDiff,Nat.reduceLT,Nat.reduceSub]
  exact bad _
 by_cases hg:(s.g.length:Int)=(s.b.length:Int)
 case neg =>
  have bad:=bad (by unfold eI;exact if_neg (by omega))
  simp only[gC,dX,tR,h1,h6,hg,IM,Sm,dT,aKF,aL5,aLT,aLD,aLY,ne_eq,not_false_eq_true,decide_true,eH,VX,Nat.reduceEqDiff,Nat.reduceAdd,Nat.reduceLeDiff,Nat.reduceLT,Nat.reduceSub]
  exact bad _
 by_cases he:(s.e.length:Int)=(s.b.length:Int)
 case neg =>
  have bad:=bad (by unfold eI;exact if_neg (by omega))
  simp only[gC,dX,tR,h1,h6,hg,he,IM,Sm,dT,aKF,aL5,aLT,aLD,aLY,ne_eq,not_false_eq_true,not_true_eq_false,decide_true,decide_false,eH,VX,Nat.reduceEqDiff,Nat.reduceAdd,Nat.reduceLeDiff,Nat.reduceLT,Nat.reduceSub]
  exact bad _
 have uW:(1≤s.b.length∧s.b.length≤6)∧s.g.length=s.b.length∧s.e.length=s.b.length:=by omega
 have e1:=KW s.b (by omega) hb.bs
 have e2:=Fs s.e (by omega) hb.es
 cases hw:mR s.b with
 |
  none =>
  rw[hw,rZ] at e1
  have bad:=bad (by unfold eI;rw[if_pos uW,hw])
  cases hr:sY s.e with
  |
   none =>
   rw[hr,rZ] at e2
   simp only[gC,dX,tR,h1,h6,hg,he,e1,e2,IM,Sm,dT,aKF,aL5,aLT,aLD,aLY,ne_eq,not_true_eq_false,decide_false,eH,VX,Nat.reduceEqDiff,Nat.reduceAdd,Nat.reduceLeDiff,Nat.reduceLT,Nat.reduceSub]
   exact bad _
  |
   some r =>
   rw[hr,xN] at e2
   simp only[gC,dX,tR,h1,h6,hg,he,e1,e2,IM,Sm,dT,aKF,aL5,aLT,aLD,aLY,ne_eq,not_true_eq_false,decide_false,eH,VX,Nat.reduceEqDiff,Nat.reduceAdd,Nat.reduceLeDiff,Nat.reduceLT,Nat.reduceSub]
   exact bad _
 |
  some w =>
  rw[hw,xN] at e1
  cases hr:sY s.e with
  |
   none =>
   rw[hr,rZ] at e2
   have bad:=bad (by unfold eI;rw[if_pos uW,hw,hr])
   simp only[gC,dX,tR,h1,h6,hg,he,e1,e2,IM,Sm,dT,aKF,aL5,aLT,aLD,aLY,ne_eq,not_true_eq_false,decide_false,eH,VX,Nat.reduceEqDiff,Nat.reduceAdd,Nat.reduceLeDiff,Nat.reduceLT,Nat.reduceSub]
   exact bad _
  |
   some r =>
   rw[hr,xN] at e2
   obtain⟨AX,AU,aeA⟩:=nD hr
   have e3:=mG r 67 (fun q=>decide (q<0)) (fun q _=>BG q) (by omega)
   cases Ad:r.any (fun q=>decide (q<0)) with
   |
    true =>
    rw[Ad] at e3
    have bad:=bad (by unfold eI;rw[if_pos uW,hw,hr];exact if_neg (by rw[Ad];decide))
    simp only[gC,dX,tR,h1,h6,hg,he,e1,e2,e3,IM,Sm,dT,aKF,aL5,aLT,aLD,aLY,ne_eq,not_true_eq_false,decide_false,eH,VX,Nat.reduceEqDiff,Nat.reduceAdd,Nat.reduceLeDiff,Nat.reduceLT,Nat.reduceSub]
    exact bad _
   |
    false =>
    rw[Ad] at e3
    have EX:eI s=(iR s.g s.b.length).map fun m=>(w,m,r):=by unfold eI;rw[if_pos uW,hw,hr];exact if_pos Ad
    have s1:bK 0 3 (.ptr 1 0 0 0) (.agg [aC aF w,.tree [] .nil,aC aF r]) [kS,kS]=some [kS,.row 0 [.agg [aC aF w,.tree [] .nil,aC aF r]] 3 true]:=by
     rw[bR (e:=3) (g:=0) (j:=0) (dZ.trans aT) (by exact aNA) (by omega) rfl rfl]
     rfl
    simp only[gC,dX,tR,h1,h6,hg,he,e1,e2,e3,s1,dT,aKF,aL5,aLT,aLD,aLY,aKv,aLL,ne_eq,not_true_eq_false,decide_false,eH,VX,Nat.reduceEqDiff,Nat.reduceAdd,Nat.reduceLeDiff,Nat.reduceLT,Nat.reduceSub]
    refine aR (fun(i:Nat) ρ H=>i≤s.b.length∧(∃out,iR s.g i=some out∧H=WT (aC aF w) (aC aF r) i out)∧ρ 2 = .ptr 0 0 0 0∧ρ 4=VI s.b.length∧ρ 7=aC aF r∧ρ 9 = .ptr 1 0 0 0∧ρ 65=aC gB s.g∧ρ 66=VI s.b.length∧ρ 67=VI i) (fun i=>s.b.length-i) 0
     ⟨aKP _,⟨[],rfl,rfl⟩,by (repeat' apply aL1)<;>first | rfl | trivial | assumption⟩ ?_
    rintro i ρ H ⟨hi,⟨out,wQ,rfl⟩,g2,g4,g7,g9,g65,g66,g67⟩
    obtain⟨iA,hof⟩:=tW wQ
    by_cases bX:(i:Int)<(s.b.length:Int)
    ·obtain⟨x,hx⟩:∃x,s.g[i]? = some x:=⟨_,aKs (by omega)⟩
     have hxm:=aLf hx
     have hgd:s.g.getD i []=x:=by rw[aKi,hx];rfl
     have a1:=fun H=>aI (f:=gB) (t := .op) (H:=H) (size:=1) (k := .i64) hx rfl
     have wi:IntKind.i64.wrap ((i:Int)+1)=((i+1:Nat):Int):=wrapN (i+1) (by omega) (by omega)
     have e4:=Fs x (hb.g9.2 x hxm) (hb.gs x hxm)
     have xA:iR s.g (i+1)=match iE s.g.length i x with | some q=>some (out++[q]) | none=>none:=by
      rw[iR,wQ,hgd]
      cases iE s.g.length i x<;>rfl
     have bad:iE s.g.length i x=none→∀K,PM.fz depth K (.dU [.agg [.tree [] .nil,.tree [] .nil,.tree [] .nil],VB false])=some (Qs s):=fun h=>by
      rw[h] at xA
      exact bad (by rw[EX,DR xA s.b.length (by omega)];rfl)
     have apJ:∀i,bK 0 3 (.ptr 0 0 0 0) (.agg [.tree [] .nil,.tree [] .nil,.tree [] .nil]) (WT (aC aF w) (aC aF r) i out)=some (WT (aC aF w) (aC aF r) i out):=fun i=>by cases i<;>exact IM _
     have arH:∀i,bI true 3 (.ptr 0 0 0 0) (WT (aC aF w) (aC aF r) i out)=some (.agg [.tree [] .nil,.tree [] .nil,.tree [] .nil]):=fun i=>by cases i<;>exact Sm _
     cases Hm:sY x with
     |
      none =>
      rw[Hm,rZ] at e4
      have bad:=bad (by unfold iE;rw[Hm])
      simp only[fO,g2,g4,g65,g66,g67,bX,a1,e4,apJ,arH,eH,VX,Nat.reduceEqDiff,Nat.reduceAdd,Nat.reduceLeDiff,Nat.reduceLT,Nat.reduceSub]
      exact bad _
     |
      some y =>
      rw[Hm,xN] at e4
      obtain⟨hyb,hyl,_⟩:=nD Hm
      by_cases hl:(y.length:Int)=(s.b.length:Int)
      case neg =>
       have bad:=bad (by unfold iE;rw[Hm];exact if_neg (fun h=>hl (by omega)))
       simp only[fO,g2,g4,g65,g66,g67,bX,a1,e4,hl,apJ,arH,ne_eq,not_false_eq_true,decide_true,eH,VX,Nat.reduceEqDiff,Nat.reduceAdd,Nat.reduceLeDiff,Nat.reduceLT,Nat.reduceSub]
       exact bad _
      have e5:=mG y 67 (fun q=>decide (q<0)) (fun q _=>BG q) (by omega)
      cases Jk:y.any (fun q=>decide (q<0)) with
      |
       true =>
       rw[Jk] at e5
       have bad:=bad (by unfold iE;rw[Hm];exact if_neg (fun h=>by rw[Jk] at h;cases h.2.1))
       simp only[fO,g2,g4,g65,g66,g67,bX,a1,e4,e5,hl,apJ,arH,ne_eq,not_true_eq_false,decide_false,eH,VX,Nat.reduceEqDiff,Nat.reduceAdd,Nat.reduceLeDiff,Nat.reduceLT,Nat.reduceSub]
       exact bad _
      |
       false =>
       rw[Jk] at e5
       obtain⟨q,hq⟩:∃q,y[i]? = some q:=⟨_,aKs (by omega)⟩
       have hqd:y.getD i 0=q:=by rw[aKi,hq];rfl
       have a2:=fun H=>aI (f:=aF) (t := .op) (H:=H) (size:=3) (k := .i64) hq rfl
       have e6:=dD q
       by_cases hz:iY q=0
       case neg =>
        have bad:=bad (by unfold iE;rw[Hm];exact if_neg (fun h=>hz (zG.2 (by rw[←hqd];exact h.2.2))))
        simp only[fO,g2,g4,g65,g66,g67,bX,a1,a2,e4,e5,e6,hl,hz,apJ,arH,bH,ne_eq,not_true_eq_false,not_false_eq_true,decide_false,decide_true,eH,VX,Nat.reduceEqDiff,Nat.reduceAdd,Nat.reduceLeDiff,Nat.reduceLT,Nat.reduceSub]
        exact bad _
       have lX:iE s.g.length i x=some y:=by unfold iE;rw[Hm];exact if_pos ⟨by omega,Jk,by rw[hqd,zG.1 hz]⟩
       rw[lX] at xA
       have eL:∀K,oD false [.slice none 0 0] 1 [(0,aC aF y)] K=some (.tree [aC aF y] (.cl 1),K):=fun K=>lS rfl rfl rfl
       have eS:∀K,dF 1 (.tree [aC aF y] (.cl 1)) K=some [aC aF y]:=fun K=>gS rfl rfl
       cases i with
       |
        zero =>
        have ho:out=[]:=aNg.1 iA
        subst ho
        have eP:∀K:aA,dI 0 1 24 (.tree [] .nil) [aC aF y] K=some (.ref K.length 0 0 1 1,K++[.row 0 [aC aF y] 1 true]):=fun K=>by simp[dI]
        simp only[fO,WT,g2,g4,g9,g65,g66,g67,bX,a1,a2,e4,e5,e6,hl,hz,eL,eS,eP,wi,bH,ne_eq,not_true_eq_false,decide_false,aKv,aLY,aLL,aLD,fT,Nat.reduceLeDiff,Nat.reduceLT,Nat.reduceSub,nH,cB,cN,gO,lQ,pT,bne_iff_ne,ne_eq,not_false_eq_true,not_true_eq_false,VX,Nat.reduceEqDiff,Nat.reduceAdd]
        exact⟨1,by omega,by omega,⟨[y],xA,rfl⟩,by (repeat' apply aL1)<;>first | rfl | trivial | assumption⟩
       |
        succ i =>
        have eP:dI 0 1 24 (.ref 2 i 0 (i+1) (i+1)) [aC aF y] (WT (aC aF w) (aC aF r) (i+1) out)=some (.ref 2 (i+1) 0 (i+2) (i+2),[kS,.row 0 [.agg [aC aF w,.ref 2 i 0 (i+1) (i+1),aC aF r]] 3 true,.row (i+1) ((out++[y]).map (aC aF)) 1 true]):=by
         rw[WT,jU (f:=aC aF) (xs:=out) (by rw[dZ,dZ,aT]) iA.symm (aKP _) (by decide) (by decide) (by omega)]
         rfl
        simp only[WT] at eP
        simp only[fO,WT,g2,g4,g9,g65,g66,g67,bX,a1,a2,e4,e5,e6,hl,hz,eL,eS,eP,wi,bH,ne_eq,not_true_eq_false,decide_false,fT,Nat.reduceLeDiff,Nat.reduceLT,Nat.reduceSub,nH,cB,cN,gO,lQ,pT,bne_iff_ne,ne_eq,not_false_eq_true,not_true_eq_false,VX,Nat.reduceEqDiff,Nat.reduceAdd]
        exact⟨i+2,by omega,by omega,⟨out++[y],xA,rfl⟩,by (repeat' apply aL1)<;>first | rfl | trivial | assumption⟩
    ·have nC:i=s.b.length:=by omega
     rw[nC] at wQ iA
     obtain⟨k,hk⟩:∃k,s.b.length=k+1:=⟨s.b.length-1,by omega⟩
     have amA:Qs s = .dU [Cr aF w out r,VB (BR (w,out,r))]:=by unfold Qs;rw[EX,wQ];rfl
     rw[amA]
     have aA3:r.length=s.b.length:=by omega
     have Wp:i=k+1:=by omega
     subst Wp
     have hE:=SW (g:=out) (e:=r) (n:=r.length) (by omega) (by omega) (fun z hz=>by have:=(hof z hz).1;omega) rfl
     have Ra:aG (WT (aC aF w) (aC aF r) (k+1) out) 2 k=some (out.map (aC aF),1,true):=by rw[WT,dZ,dZ,aT]
     have ajL:=Gn (d:=6) (c:=k+1) (gL ·) Ra (by omega)
     rw[iA,hk] at ajL
     have hE2:=fun lo K=>TC.Dg (lo:=lo) (k:=K) (H:=WT (aC aF w) (aC aF r) (k+1) out) (args:=[.ref 2 k 0 (k+1) (k+1),aC aF r]) hE rfl (vL (Jv _) (gL _)) (fz2 ajL (aH (gL _))) rfl
     have aD2:[VV.ref 2 k 0 (k+1) (k+1),aC aF r].flatMap (iX depth (WT (aC aF w) (aC aF r) (k+1) out))=[2]:=by
      rw[List.flatMap_cons,List.flatMap_cons,KH Ra (by rw[List.length_map];omega) (fM gL),D2 (gL _)]
      rfl
     have aBH:Hn (aC (fun b=>VB b) (qG out r r.length r.length))=false:=rfl
     rw[aD2] at hE2
     simp only[aBH,Bool.false_eq_true,if_false] at hE2
     have hfr:cZ (WT (aC aF w) (aC aF r) (k+1) out) [2]=[kS,.row 0 [.agg [aC aF w,.ref 2 k 0 (k+1) (k+1),aC aF r]] 3 true,.row k (out.map (aC aF)) 1 false]:=rfl
     rw[hfr] at hE2
     have hC:=DS (qG out r r.length r.length) (by rw[D7];omega)
     simp only[fO,WT,g2,g7,g9,g66,g67,bX,dT,fT,Nat.reduceLeDiff,Nat.reduceLT,Nat.reduceSub,nH,cB,cN,gO,lQ,pT,bne_iff_ne,ne_eq,not_false_eq_true,not_true_eq_false,VX,Nat.reduceEqDiff,Nat.reduceAdd]
     simp only[WT] at hE2
     have st3:∀K:aA,bK 0 3 (.ptr 0 0 0 0) (.agg [aC aF w,.ref 2 k 0 (k+1) (k+1),aC aF r]) (kS::K)=some (.row 0 [.agg [aC aF w,.ref 2 k 0 (k+1) (k+1),aC aF r]] 3 true::K):=fun K=>by
      unfold kS
      rw[bR (e:=3) aT (by exact aNA) (aKl _) rfl rfl]
      rfl
     have ld3:∀K:aA,bI true 3 (.ptr 0 0 0 0) (.row 0 [.agg [aC aF w,.ref 2 k 0 (k+1) (k+1),aC aF r]] 3 true::K)=some (.agg [aC aF w,.ref 2 k 0 (k+1) (k+1),aC aF r]):=fun K=>by
      rw[bS,aT]
      rfl
     simp only[hE2,hC,g2,st3,ld3,Bool.not_not,fT,Nat.reduceLeDiff,Nat.reduceLT,Nat.reduceSub,nH,cB,cN,gO,lQ,pT,bne_iff_ne,ne_eq,not_false_eq_true,not_true_eq_false,VX,Nat.reduceEqDiff,Nat.reduceAdd]
     refine bO (d:=6) (Gh (d:=5) ?_) (aL (v:=VB _) rfl)
     have hf3:=Gn (d:=4) (c:=k+1) (b:=2) (g:=k) (w:=false) (H:=[.row 0 [.agg [aC aF w,.ref 2 k 0 (k+1) (k+1),aC aF r]] 3 true,.row 0 [.agg [aC aF w,.ref 2 k 0 (k+1) (k+1),aC aF r]] 3 true,.row k (out.map (aC aF)) 1 false]) (gL ·) (by rw[dZ,dZ,aT]) (by omega)
     rw[iA,hk] at hf3
     rw[aLI,aL (gL w),aLI,hf3,aLI,aL (gL r)]
     rfl
end Go.PM
namespace Go.PM
end Go.PM
namespace Go.PM
open Go.Lib
theorem ahM (d:Nat) (h:d≤9223372036854775807):TC 219 [VI (d:Int)] (bD (decDigits d)):=by
 have:=Qm (d:Int) (by omega) (by omega)
 rw[if_neg (by omega),aLD,Int.natAbs_natCast] at this
 exact this
theorem aoE {n i:Nat} (hi:i+1=(aD 1000000000 n).length):n / 1000000000^i=n / 1000000000^i % 1000000000:=by
 have h1:=abW (b:=1000000000) (by decide) n (i+1)
 rw[List.drop_of_length_le (by omega)] at h1
 have h2:=(oF (b:=1000000000) (by decide)).1 h1.symm
 rw[wJ] at h2
 rcases Nat.div_eq_zero_iff.1 h2 with h | h
 ·exact absurd h (by decide)
 ·exact(Nat.mod_eq_of_lt h).symm
theorem L7 (l:List UInt8) (a b:Nat):(⟨l.toArray⟩:ByteArray).extract a b=⟨((l.drop a).take (b-a)).toArray⟩:=by
 rw[ByteArray.ext_iff,ByteArray.data_extract]
 simp[List.extract_toArray,List.extract_eq_take_drop]
theorem amE (l:List UInt8) {a b:Nat} (h:a≤b) (hb:b≤l.length):zB (bD l) (some (VI (a:Int))) (some (VI (b:Int)))=some (bD ((l.drop a).take (b-a))):=by
 have hs:(⟨l.toArray⟩:ByteArray).size=l.length:=by simp[ByteArray.size]
 have e1:(0:Int)≤b∧(b:Int)≤(l.length:Int):=by omega
 have e2:(0:Int)≤a∧(a:Int)≤(b:Int):=by omega
 simp only[zB,Ig,B2,hs,fD,e1,e2,and_self,if_true,aLH,L7]
theorem Rx (l:List UInt8) {a:Nat} (h:a≤l.length):zB (bD l) (some (VI (a:Int))) none=some (bD (l.drop a)):=by
 have hs:(⟨l.toArray⟩:ByteArray).size=l.length:=by simp[ByteArray.size]
 have e2:(0:Int)≤a∧(a:Int)≤(l.length:Int):=by omega
 simp only[zB,Ig,B2,hs,fD,e2,and_self,if_true,aLH,L7]
 rw[aLe (by simp)]
theorem aB7 (l:List UInt8) (h:1≤l.length):zB (bD l) (some (VI 1)) none=some (bD (l.drop 1)):=Rx l h
theorem acB {a:Nat} (h:a<1000000000):IntKind.i64.wrap ((a:Int)+1000000000)=((a+1000000000:Nat):Int):=wrapN _ (by omega) (by omega)
theorem qI (n:Nat) (hn:bl n≤2199023255552):TC 208 [bW n] (bD (decDigits n)):=by
 refine TC.walk ⟨true,false⟩ Jg rfl (aL9 rfl) (by simp[aO,cG]) rfl ?_
 by_cases h0:n=0
 ·subst h0
  have hl:(((aD 1000000000 0).length:Nat):Int)=0:=by rw[cD];rfl
  simp only[zW,wW,cL,hl,VX,Nat.reduceEqDiff,Nat.reduceAdd]
  rw[kH (by decide)]
  exact aH rfl
 have hl:¬(((aD 1000000000 n).length:Nat):Int)=0:=by have:=(tZ (n:=n)).2 h0;omega
 obtain⟨L,hL⟩:∃L,(aD 1000000000 n).length=L+1:=⟨(aD 1000000000 n).length-1,by omega⟩
 have F1:=oR (n:=n) (by omega)
 have hlT:=atY n
 have hdl:=Dj n
 have w1:IntKind.i64.wrap (((L+1:Nat):Int)-1)=(L:Int):=wrapN _ (by omega) (by omega)
 have w2:IntKind.i64.wrap (((L+1:Nat):Int)-2)=(L:Int)-1:=by rw[wrap64 (by omega) (by omega)];omega
 have at':∀i,i≤L→bJ 1 (bW n) (VI (i:Int)) []=some (.cF (tV (n / 1000000000^i % 1000000000)) 0):=fun i hi=>aI (f:=tV) (t := .op) (H:=[]) (size:=1) (k := .i64) (OZ (b:=1000000000) (by decide) (n:=n) (i:=i) (by omega)) rfl
 have eL:=at' L (aKl _)
 have anJ:=aoE (n:=n) (i:=L) (by omega)
 rw[←anJ] at eL
 have TJ:n / 1000000000^L≠0:=(GM (b:=1000000000) (by decide)).1 (by omega)
 have hqT:n / 1000000000^L<1000000000:=by rw[anJ];exact Nat.mod_lt _ (by decide)
 have c1:=ahM (n / 1000000000^L) (by omega)
 rw[hL] at hl
 simp only[zW,wW,cL,hL,hl,w1,w2,eL,c1,VX,Nat.reduceEqDiff,Nat.reduceAdd]
 refine aR (fun(j:Nat) ρ H=>j≤L∧H=[]∧ρ 0=bW n∧ρ 3=bD (decDigits (n / 1000000000^j))∧ρ 4=VI ((j:Int)-1)) (fun j=>j) L ⟨aKl _,rfl,rfl,rfl,rfl⟩ ?_
 rintro j ρ H ⟨hj,rfl,g0,g3,g4⟩
 by_cases hz:(0:Int)≤(j:Int)-1
 ·obtain⟨i,rfl⟩:∃i,j=i+1:=⟨j-1,by omega⟩
  have DV:((i+1:Nat):Int)-1=(i:Int):=by omega
  rw[DV] at g4 hz
  have e1:=at' i (by omega)
  have hm:=Nat.mod_lt (n / 1000000000^i) (show 0<1000000000 by decide)
  have hq1:n / 1000000000^(i+1)≠0:=(GM (b:=1000000000) (by decide)).1 (by omega)
  have hdm:=Nat.mod_add_div (n / 1000000000^i) 1000000000
  rw[←wJ] at hdm
  have hch:=KM (Nat.pos_of_ne_zero hq1) hm
  have hle:n / 1000000000^i≤n:=Nat.div_le_self _ _
  have hdi:=Dj (n / 1000000000^i)
  have hbi:=mA hle
  rw[show n / 1000000000^(i+1)*1000000000+n / 1000000000^i % 1000000000=n / 1000000000^i by omega] at hch
  generalize hAA:n / 1000000000^i=A at *
  generalize n / 1000000000^(i+1)=B at *
  have w4:IntKind.i64.wrap ((i:Int)-1)=(i:Int)-1:=wrap64 (by omega) (by omega)
  have c2:=ahM (A % 1000000000+1000000000) (by omega)
  rw[asX hm] at c2
  have e2:=aB7 (d10 1::EM 9 (A % 1000000000)) (by simp)
  rw[List.drop_succ_cons,List.drop_zero] at e2
  have hlen:=congrArg List.length hch
  rw[aKw] at hlen
  have a1:=yV (decDigits B) (EM 9 (A % 1000000000)) (by omega)
  rw[←hch] at a1
  have aE7:i≤L:=by omega
  have hmu:i<i+1:=by omega
  have w3:=acB hm
  simp only[vA,g0,g3,g4,hz,e1,w3,w4,c2,e2,a1,VX,Nat.reduceEqDiff,Nat.reduceAdd]
  refine⟨i,hmu,aE7,?_⟩
  rw[hAA]
  exact⟨rfl,rfl⟩
 ·have XU:j=0:=by omega
  subst XU
  rw[Nat.pow_zero,Nat.div_one] at g3
  simp only[vA,g0,g3,g4,hz,VX,Nat.reduceEqDiff,Nat.reduceAdd]
  exact aH rfl
theorem OI (q:Rat) (hk:aM q≤1099511627776):TC 188 [aN q] (VB (C2 q)):=by
 refine TC.walk ⟨true,false⟩ Pr rfl (aL9 rfl) (by simp[aO,nZ]) rfl ?_
 have la:=uQ hk
 have lb:=uY hk
 have t1:=qI q.num.natAbs (by omega)
 have t2:=qI q.den (by omega)
 have hf:C2 q=(decide (((decDigits q.num.natAbs).length:Int)≤200)&&decide (((decDigits q.den).length:Int)≤200)):=by
  unfold C2
  congr 1<;>exact decide_eq_decide.2 (by omega)
 rw[hf]
 by_cases hl:((decDigits q.num.natAbs).length:Int)≤200
 ·simp only[D1,Bn,t1,t2,hl,bP,bQ,gU,jP,jR,aQ,fT,Nat.reduceLeDiff,Nat.reduceLT,Nat.reduceSub,VX,Nat.reduceEqDiff,Nat.reduceAdd]
  exact aH rfl
 ·simp only[D1,Bn,t1,t2,hl,bP,bQ,gU,jP,jR,aQ,fT,Nat.reduceLeDiff,Nat.reduceLT,Nat.reduceSub,VX,Nat.reduceEqDiff,Nat.reduceAdd]
  exact aH rfl
theorem N8 (q:Rat) (hk:aM q≤1099511627776):TC 189 [aN q] (bD (OW q)):=by
 refine TC.walk ⟨true,false⟩ NW rfl (aL9 rfl) (by simp[aO,nZ]) rfl ?_
 have la:=uQ hk
 have lb:=uY hk
 have t1:=qI q.num.natAbs (by omega)
 have t2:=qI q.den (by omega)
 have d1:=Dj q.num.natAbs
 have d2:=Dj q.den
 have c1:∀lo H K,_:=fun lo H K=>Ng (n:=q.den) (lo:=lo) (H:=H) (K:=K) (aK2 (oR (by omega)))
 have a1:dK .add (.string ⟨#[45]⟩) (.string ⟨(decDigits q.num.natAbs).toArray⟩)=some (.string ⟨(45::decDigits q.num.natAbs).toArray⟩):=yV [45] _ (by simp only[aKv,aLY];omega)
 have a2:dK .add (.string ⟨#[47]⟩) (.string ⟨(decDigits q.den).toArray⟩)=some (.string ⟨(47::decDigits q.den).toArray⟩):=yV [47] (decDigits q.den) (by simp only[aKv,aLY];omega)
 have a3:=yV (45::decDigits q.num.natAbs) (47::decDigits q.den) (by simp only[aKv];omega)
 have a4:=yV (decDigits q.num.natAbs) (47::decDigits q.den) (by simp only[aKv];omega)
 have hs:OW q=(if q.num<0 then (45::decDigits q.num.natAbs) else decDigits q.num.natAbs)++(if q.den=1 then [] else 47::decDigits q.den):=by
  unfold OW
  by_cases hn:q.num<0
  ·rw[if_pos hn,if_pos hn];rfl
  ·rw[if_neg hn,if_neg hn];rfl
 rw[hs]
 by_cases hd:fW q.den 1=0
 ·rw[if_pos (AJ.1 hd),List.append_nil]
  by_cases hn:q.num<0
  all_goals
   simp only[Ea,BA,t1,t2,a1,a2,a3,a4,c1,hd,hn,eQ,bQ,gU,jP,jR,aQ,fT,Nat.reduceLeDiff,Nat.reduceLT,Nat.reduceSub,VX,Nat.reduceEqDiff,Nat.reduceAdd]
   exact aH rfl
 ·rw[if_neg (mt AJ.2 hd)]
  by_cases hn:q.num<0
  all_goals
   simp only[Ea,BA,t1,t2,a1,a2,a3,a4,c1,hd,hn,eQ,bQ,gU,jP,jR,aQ,fT,Nat.reduceLeDiff,Nat.reduceLT,Nat.reduceSub,VX,Nat.reduceEqDiff,Nat.reduceAdd]
   exact aH rfl
theorem OD (q:Rat) (hk:aM q≤1099511627776):TC 171 [aN q] (Am q):=by
 refine TC.walk ⟨true,false⟩ NJ rfl (aL9 rfl) (by simp[aO,nZ]) (Gy q) ?_
 have t1:=OI q hk
 have t2:=N8 q hk
 unfold Am
 by_cases h:C2 q=true
 ·rw[h] at t1
  rw[if_pos h]
  simp only[D3,A1,t1,t2,bQ,cJ,gM,aQ,fT,Nat.reduceLeDiff,Nat.reduceLT,Nat.reduceSub,VX,Nat.reduceEqDiff,Nat.reduceAdd]
  exact aH rfl
 ·have h':C2 q=false:=by simpa using h
  rw[h'] at t1
  rw[if_neg h]
  simp only[D3,A1,t1,bQ,cJ,gM,aQ,fT,Nat.reduceLeDiff,Nat.reduceLT,Nat.reduceSub,VX,Nat.reduceEqDiff,Nat.reduceAdd]
  exact aH rfl
end Go.PM
namespace Go.PM
open Go.Lib
def iZ (c:UInt8):List UInt8→List (List UInt8)
 | []=>[[]]
 |
  x::r=>if x=c then []::iZ c r else match iZ c r with
  | []=>[[x]]
  | a::t=>(x::a)::t
theorem Ow {c:UInt8} {r:List UInt8}:∀ {a:List UInt8},c∉a→iZ c (a++c::r)=a::iZ c r:=by
 intro a
 induction a with
 | nil=>intro _;rw[aLD,iZ,if_pos rfl]
 |
  cons x a ih =>
  intro h
  rw[List.mem_cons,not_or] at h
  rw[aLL,iZ,if_neg (fun he=>h.1 he.symm),ih h.2]
theorem Iy {c:UInt8}:∀ {a:List UInt8},c∉a→iZ c a=[a]:=by
 intro a
 induction a with
 | nil=>intro _;rfl
 |
  cons x a ih =>
  intro h
  rw[List.mem_cons,not_or] at h
  rw[iZ,if_neg (fun he=>h.1 he.symm),ih h.2]
theorem YI {c:UInt8} (l:List UInt8):iZ c l≠[]:=by
 cases l with
 | nil=>simp[iZ]
 |
  cons x r =>
  rw[iZ]
  split
  ·simp
  ·split<;>simp
theorem Uw {c:UInt8} {l:List UInt8} (h:(oK c l).2=none):iZ c l=[l]:=Iy (CT h).2.2
theorem LD {c:UInt8} {l r:List UInt8} (h:(oK c l).2=some r):iZ c l=(oK c l).1::iZ c r:=by
 obtain⟨_,h2,h3⟩:=K2 h
 have:=Ow (r:=r) h3
 rw[←h2] at this
 exact this
theorem TX {c:UInt8} {l:List UInt8} (h:c∈l):2≤(iZ c l).length:=by
 cases hc:(oK c l).2 with
 | none=>exact absurd h (CT hc).2.2
 |
  some r =>
  rw[LD hc,aKv]
  have:=aNi.2 (YI (c:=c) r)
  omega
theorem aeV {l:List UInt8} {i:Nat} (h:i<l.length):(l.take (i+1)).all jQ=((l.take i).all jQ&&jQ (l.getD i 0)):=by
 rw[aMb,List.all_append]
 have:l[i]? = some (l.getD i 0):=by rw[aKs h,aKi,aKs h];rfl
 rw[this]
 simp
set_option maxHeartbeats 1000000 in
theorem sH (l:List UInt8) (hl:l.length≤1000000000000):TC 168 [bD l] (VB (jI l)):=by
 refine TC.walk ⟨true,false⟩ KL rfl (aL9 rfl) rfl rfl ?_
 simp only[FX,Dm,VX,Nat.reduceEqDiff,Nat.reduceAdd]
 refine aR (fun(i:Nat) ρ H=>i≤l.length∧H=[]∧(l.take i).all jQ=true∧ρ 0=bD l∧ρ 3=VI i) (fun i=>l.length-i) 0 ⟨aKP _,rfl,rfl,rfl,rfl⟩ ?_
 rintro i ρ H ⟨hi,rfl,hd,g0,g3⟩
 by_cases bX:(i:Int)<(l.length:Int)
 ·have Yf:i<l.length:=by omega
  have e1:=Fk l Yf
  have wi:IntKind.i64.wrap ((i:Int)+1)=((i+1:Nat):Int):=wrapN (i+1) (by omega) (by omega)
  have ht:=aeV Yf
  rw[hd,aNX] at ht
  have XG:jQ (l.getD i 0)=(decide (48≤(l.getD i 0).toNat)&&decide ((l.getD i 0).toNat≤57)):=rfl
  have jN:jQ (l.getD i 0)=false→jI l=false:=by
   intro h
   rw[h] at ht
   have:l.all jQ=false:=by rw[←aLu (i+1) l,List.all_append,ht,Bool.false_and]
   unfold jI
   rw[this]
   rfl
  generalize (l.getD i 0).toNat=c at *
  by_cases q1:(c:Int)<48
  ·rw[jN (by rw[XG,decide_eq_false (by omega)];rfl)]
   simp only[eJ,g0,g3,bP,bX,e1,q1,VX,Nat.reduceEqDiff,Nat.reduceAdd]
   exact aH rfl
  ·by_cases q2:(57:Int)<(c:Int)
   ·rw[jN (by rw[XG,decide_eq_false (show ¬c≤57 by omega),Bool.and_false])]
    simp only[eJ,g0,g3,bP,bX,e1,q1,q2,VX,Nat.reduceEqDiff,Nat.reduceAdd]
    exact aH rfl
   ·rw[XG,decide_eq_true (by omega),decide_eq_true (by omega),aLJ] at ht
    simp only[eJ,g0,g3,bP,bX,e1,q1,q2,wi,VX,Nat.reduceEqDiff,Nat.reduceAdd]
    exact⟨i+1,by omega,by omega,ht,rfl⟩
 ·have nC:i=l.length:=by omega
  subst nC
  rw[aLy] at hd
  by_cases h1:(1:Int)≤(l.length:Int)
  ·by_cases h2:(l.length:Int)≤200
   ·by_cases h3:(l.length:Int)=1
    ·rw[lG.2 ⟨hd,by omega,by omega,.inl (by omega)⟩]
     simp only[eJ,g0,g3,bP,bX,ge_iff_le,h1,h2,h3,Int.reduceLE,Int.reduceLT,VX,Nat.reduceEqDiff,Nat.reduceAdd]
     exact aH rfl
    ·have e1:=KE l (by omega)
     by_cases h4:(((l.getD 0 0).toNat:Int)=48)
     ·have hk:jI l=false:=by
       cases h:jI l with
       | false=>rfl
       |
        true =>
        rcases(lG.1 h).2.2.2 with h5 | h5
        ·omega
        ·exact absurd (UInt8.toNat_inj.1 (by rw[show (48:UInt8).toNat=48 from rfl];omega)) h5
      rw[hk]
      simp only[eJ,g0,g3,bP,bX,ge_iff_le,h1,h2,h3,h4,e1,VX,Nat.reduceEqDiff,Nat.reduceAdd]
      exact aH rfl
     ·have h5:l.getD 0 0≠48:=fun h=>h4 (by rw[h];rfl)
      rw[lG.2 ⟨hd,by omega,by omega,.inr h5⟩]
      simp only[eJ,g0,g3,bP,bX,ge_iff_le,h1,h2,h3,h4,e1,VX,Nat.reduceEqDiff,Nat.reduceAdd]
      exact aH rfl
   ·have hk:jI l=false:=by
     cases h:jI l with
     | false=>rfl
     | true=>have:=(lG.1 h).2.2.1;omega
    rw[hk]
    simp only[eJ,g0,g3,bP,bX,ge_iff_le,h1,h2,VX,Nat.reduceEqDiff,Nat.reduceAdd]
    exact aH rfl
  ·have hk:jI l=false:=by
    cases h:jI l with
    | false=>rfl
    | true=>have:=(lG.1 h).2.1;omega
   rw[hk]
   simp only[eJ,g0,g3,bP,bX,ge_iff_le,h1,VX,Nat.reduceEqDiff,Nat.reduceAdd]
   exact aH rfl
set_option maxHeartbeats 1000000 in
theorem HG (l:List UInt8) (c:UInt8) (hl:l.length≤1000000000000):TC 167 [bD l,.sc (.int .u8 (c.toNat:Int))] (aC bD (iZ c l)):=by
 refine TC.walk ⟨true,false⟩ P4 rfl (aL9 rfl) rfl (zC (size:=1) (fun _=>rfl) (fun _=>rfl) fun _=>rfl) ?_
 have e3:∀lr,oD lr [.string ⟨#[]⟩] 0 [] []=some (.ref 0 0 0 0 0,[.row 0 (([]:List (List UInt8)).map bD) 1 true]):=fun lr=>mO (H:=[]) (lr:=lr) (z:=[.string ⟨#[]⟩]) rfl
 have e4:∀(x:List UInt8) (H:aA),oD false [.string ⟨#[]⟩] 1 [(0,bD x)] H=some (.tree [bD x] (.cl 1),H):=fun x H=>lS (z:=[.string ⟨#[]⟩]) rfl rfl rfl
 have e5:∀(x:List UInt8) (H:aA),dF 1 (.tree [bD x] (.cl 1)) H=some [bD x]:=fun x H=>gS rfl rfl
 simp only[Mu,Ho,e3,VX,Nat.reduceEqDiff,Nat.reduceAdd]
 refine aR (fun(s:List (List UInt8)×Nat×Nat) ρ H=>H=[.row s.1.length (s.1.map bD) 1 true]∧s.2.1≤s.2.2∧s.2.2≤l.length+1∧s.1.length≤s.2.1 ∧
  ((s.2.2≤l.length∧iZ c l=s.1++iZ c (l.drop s.2.1)∧c∉(l.drop s.2.1).take (s.2.2-s.2.1))∨(s.2.2=l.length+1∧iZ c l=s.1)) ∧
  ρ 0=bD l∧ρ 1 = .sc (.int .u8 (c.toNat:Int))∧ρ 5 = .ref 0 s.1.length 0 s.1.length s.1.length∧ρ 6=VI s.2.1∧ρ 7=VI s.2.2) (fun s=>l.length+1-s.2.2) ([],0,0) ⟨rfl,aKP _,aKP _,aKP _,.inl ⟨aKP _,rfl,by simp⟩,rfl,rfl,rfl,rfl,rfl⟩ ?_
 rintro⟨out,fr,i⟩ ρ H ⟨rfl,hfi,hi,iA,xA,g0,g1,g5,g6,g7⟩
 simp only at hfi hi iA xA g5 g6 g7
 by_cases bX:(i:Int)≤(l.length:Int)
 ·have Yf:i≤l.length:=by omega
  obtain⟨hp,hc⟩:iZ c l=out++iZ c (l.drop fr)∧c∉(l.drop fr).take (i-fr):=by
   rcases xA with⟨_,h1,h2⟩ | ⟨h,_⟩
   ·exact⟨h1,h2⟩
   ·omega
  have wi:IntKind.i64.wrap ((i:Int)+1)=((i+1:Nat):Int):=wrapN (i+1) (by omega) (by omega)
  have e2:=amE l hfi Yf
  have eP:=jU (f:=bD) (xs:=out) (x:=(l.drop fr).take (i-fr)) (lo:=0) (b:=0) (g:=out.length) (n:=out.length) (e:=1) (bytes:=16) (H:=[.row out.length (out.map bD) 1 true]) aT rfl (aKP _) (by decide) (by decide) (by omega)
  have Lo:([.row out.length (out.map bD) 1 true]:aA).set 0 (.row (out.length+1) ((out++[(l.drop fr).take (i-fr)]).map bD) 1 true)=[.row (out.length+1) ((out++[(l.drop fr).take (i-fr)]).map bD) 1 true]:=rfl
  rw[Lo] at eP
  by_cases q1:i=l.length
  ·subst q1
   have ahJ:iZ c l=out++[(l.drop fr).take (l.length-fr)]:=by
    rw[hp]
    have:(l.drop fr).take (l.length-fr)=l.drop fr:=aLe (by rw[aMK];omega)
    rw[this] at hc ⊢
    rw[Iy hc]
   simp only[rQ,g0,g1,g5,g6,g7,bP,bX,eq_self,e2,e4,e5,eP,wi,VX,Nat.reduceEqDiff,Nat.reduceAdd]
   refine⟨(out++[(l.drop fr).take (l.length-fr)],l.length+1,l.length+1),by simp only;omega,?_,by simp only;omega,by simp only;omega,?_,.inr ⟨rfl,ahJ⟩,?_⟩
   ·simp
   ·simp only[aKw,aKv,aLY];omega
   ·simp
  ·have arO:i<l.length:=by omega
   have q1':¬(i:Int)=(l.length:Int):=by omega
   have e1:=Fk l arO
   have hgd:l.drop i=l.getD i 0::l.drop (i+1):=by rw[List.drop_eq_getElem_cons arO,aKi,aKs arO];rfl
   by_cases q2:l.getD i 0=c
   ·have q2':((l.getD i 0).toNat:Int)=(c.toNat:Int):=by rw[q2]
    have ahJ:iZ c l=(out++[(l.drop fr).take (i-fr)])++iZ c (l.drop (i+1)):=by
     have Wq:l.drop fr=(l.drop fr).take (i-fr)++c::l.drop (i+1):=by
      have h1:(l.drop fr).drop (i-fr)=l.drop i:=by rw[List.drop_drop];congr 1;omega
      conv=>lhs;rw[←aLu (i-fr) (l.drop fr),h1,hgd,q2]
     rw[hp]
     conv=>lhs;rw[Wq]
     rw[Ow hc,aL7]
     rfl
    simp only[rQ,g0,g1,g5,g6,g7,bP,bX,q1',e1,q2',eq_self,e2,e4,e5,eP,wi,VX,Nat.reduceEqDiff,Nat.reduceAdd]
    refine⟨(out++[(l.drop fr).take (i-fr)],i+1,i+1),by simp only;omega,?_,by simp only;omega,by simp only;omega,?_,.inl ⟨by simp only;omega,ahJ,by simp⟩,?_⟩
    ·simp
    ·simp only[aKw,aKv,aLY];omega
    ·simp
   ·have q2':¬((l.getD i 0).toNat:Int)=(c.toNat:Int):=fun h=>q2 (UInt8.toNat_inj.1 (by omega))
    simp only[rQ,g0,g1,g5,g6,g7,bP,bX,q1',e1,q2',wi,VX,Nat.reduceEqDiff,Nat.reduceAdd]
    refine⟨(out,fr,i+1),by simp only;omega,rfl,by simp only;omega,by simp only;omega,iA,.inl ⟨by simp only;omega,hp,?_⟩,rfl,rfl,rfl⟩
    simp only
    rw[show i+1-fr=(i-fr)+1 by omega,aMb,aLh,not_or]
    refine⟨hc,?_⟩
    have:(l.drop fr)[i-fr]? = some (l.getD i 0):=by
     rw[List.getElem?_drop,show fr+(i-fr)=i by omega,aKi,aKs arO]
     rfl
    rw[this]
    simp
    exact fun h=>q2 h.symm
 ·have ahJ:iZ c l=out:=by
   rcases xA with⟨h,_⟩ | ⟨_,h⟩
   ·omega
   ·exact h
  rw[ahJ]
  simp only[rQ,g0,g5,g7,bP,bX,VX,Nat.reduceEqDiff,Nat.reduceAdd]
  exact HN (es:=out.map bD) aT (by simp) (aKl _) (fM fun _=>rfl)
theorem aiB {l:List UInt8} (h:l.all jQ=true) {i:Nat} (hi:i<l.length):48≤(l.getD i 0).toNat∧(l.getD i 0).toNat≤57:=by
 have:=aKz.1 h (l.getD i 0) (by rw[aKi,aKs hi];exact List.getElem_mem hi)
 simpa[jQ] using this
theorem Ps {l:List UInt8} (hd:l.all jQ=true) (hl:l.length≤1000000000000) {fr tq:Nat} (hft:fr≤tq) (h9:tq-fr≤9) (htl:tq≤l.length) {H:aA} {lo:Nat} {ρ:cT} {Q:VQ} (h0:ρ 0=bD l) (h4:ρ 4=VI tq) (h6:ρ 6=VI 0) (h7:ρ 7=VI fr)
  (hQ:∀aP,(∀t,t<6→aP t=ρ t)→aP 6=VI (bU ((l.drop fr).take (tq-fr)))→Q .normal aP H):VW ⟨true,false⟩ lo (.loop pF) (tI 2 Q) ρ H:=by
 refine aR (fun(i:Nat) aP H'=>fr≤i∧i≤tq∧H'=H∧(∀t,t<6→aP t=ρ t)∧aP 6=VI (bU ((l.drop fr).take (i-fr)))∧aP 7=VI i) (fun i=>tq-i) fr ⟨aKl _,hft,rfl,fun _ _=>rfl,by rw[h6,Nat.sub_self];rfl,h7⟩ ?_
 rintro i aP H' ⟨hfi,hi,rfl,hk,g6,g7⟩
 have g0:=(hk 0 (by decide)).trans h0
 have g4:=(hk 4 (by decide)).trans h4
 by_cases bX:(i:Int)<(tq:Int)
 ·have Yf:i<l.length:=by omega
  have e1:=Fk l Yf
  obtain⟨c1,c2⟩:=aiB hd Yf
  have wi:IntKind.i64.wrap ((i:Int)+1)=((i+1:Nat):Int):=wrapN (i+1) (by omega) (by omega)
  have hcd:((l.drop fr).take (i-fr)).all jQ=true:=by
   rw[aKz] at hd ⊢
   exact fun x hx=>hd x (aLj (aLi hx))
  have bF:=Jy hcd
  rw[aLU,aMK,Nat.min_eq_left (by omega)] at bF
  have hp9:10^(i-fr)≤10^8:=aMp (by decide) (by omega)
  have e8:(10:Nat)^8=100000000:=by decide
  have pU:bU ((l.drop fr).take (i+1-fr))=bU ((l.drop fr).take (i-fr))*10+dv (l.getD i 0):=by
   have:(l.drop fr)[i-fr]? = some (l.getD i 0):=by
    rw[List.getElem?_drop,show fr+(i-fr)=i by omega,aKi,aKs Yf]
    rfl
   rw[show i+1-fr=(i-fr)+1 by omega,aMb,this]
   exact adD _ _
  have hdv:dv (l.getD i 0)=(l.getD i 0).toNat-48:=rfl
  rw[hdv] at pU
  generalize (l.getD i 0).toNat=c at *
  generalize bU ((l.drop fr).take (i-fr))=D at *
  have w1:IntKind.i64.wrap (10*(D:Int))=((10*D:Nat):Int):=wrapN _ (by omega) (by omega)
  have w2:IntKind.u8.wrap ((c:Int)-48)=((c-48:Nat):Int):=by
   simp[IntKind.wrap,IntKind.bits,IntKind.signed]
   omega
  have w3:IntKind.i64.wrap ((c-48:Nat):Int)=((c-48:Nat):Int):=wrapN _ rfl (by omega)
  have w4:IntKind.i64.wrap (((10*D:Nat):Int)+((c-48:Nat):Int))=((D*10+(c-48):Nat):Int):=wrapN _ (by omega) (by omega)
  simp only[pF,g0,g4,g6,g7,bX,e1,w1,w2,w3,w4,wi,VX,Nat.reduceEqDiff,Nat.reduceAdd]
  refine⟨i+1,by omega,by omega,by omega,fun t ht => ?_,by rw[pU],rfl⟩
  try simp only[zI]
  repeat rw[if_neg (by omega)]
  exact hk t ht
 ·have nC:i=tq:=by omega
  subst nC
  simp only[pF,g4,g7,bX,VX,Nat.reduceEqDiff,Nat.reduceAdd]
  refine hQ _ (fun t ht => ?_) ?_
  ·try simp only[zI]
   repeat rw[if_neg (by omega)]
   exact hk t ht
  ·simp only[g6,VX,Nat.reduceEqDiff,Nat.reduceAdd]
set_option maxHeartbeats 1000000 in
theorem vQ (l:List UInt8) (hd:l.all jQ=true) (hl:l.length≤1000000000):TC 169 [bD l] (bW (bU l)):=by
 refine TC.walk ⟨true,false⟩ J7 rfl (aL9 rfl) rfl (pR _) ?_
 have e3:∀lr,oD lr [.int .i64 0] 0 [] []=some (.ref 0 0 0 0 0,[.row 0 (([]:List Nat).map tV) 1 true]):=fun lr=>mO (H:=[]) (lr:=lr) (z:=[.int .i64 0]) rfl
 have e4:∀(x:Nat) (H:aA),oD false [.int .i64 0] 1 [(0,tV x)] H=some (.tree [tV x] (.cl 1),H):=fun x H=>lS (z:=[.int .i64 0]) rfl rfl rfl
 have e5:∀(x:Nat) (H:aA),dF 1 (.tree [tV x] (.cl 1)) H=some [tV x]:=fun x H=>gS rfl rfl
 simp only[Ew,Cg,e3,bP,VX,Nat.reduceEqDiff,Nat.reduceAdd]
 refine aR (fun(s:List Nat×Int) ρ H=>H=[.row s.1.length (s.1.map tV) 1 true]∧s.2≤l.length ∧ -9≤s.2∧s.1.length+s.2.toNat≤l.length∧(∀d∈s.1,d<1000000000)∧bU l=val 1000000000 s.1+1000000000^s.1.length*bU (l.take s.2.toNat) ∧
  ρ 0=bD l∧ρ 3 = .ref 0 s.1.length 0 s.1.length s.1.length∧ρ 4=VI s.2) (fun s=>s.2.toNat) ([],(l.length:Int)) ⟨rfl,Int.le_refl _,by simp only;omega,by simp,by simp,?_,rfl,rfl,rfl⟩ ?_
 ·simp only[aLH,aLy,aLY,Nat.pow_zero,Nat.one_mul,val,aLT]
 rintro⟨out,z⟩ ρ H ⟨rfl,hz,hz9,iA,hds,hv,g0,g3,g4⟩
 simp only at hz hz9 iA hds hv g3 g4
 by_cases lR:0<z
 ·obtain⟨tq,rfl⟩:∃tq:Nat,z=tq:=⟨z.toNat,by omega⟩
  rw[aLH] at iA hv
  have hto:0<tq:=by omega
  have key:∀fr:Nat,fr≤tq→tq-fr≤9→bU (l.take tq)=bU (l.take fr)*10^(tq-fr)+bU ((l.drop fr).take (tq-fr))∧bU ((l.drop fr).take (tq-fr))<1000000000:=by
   intro fr h1 h2
   have hcd:((l.drop fr).take (tq-fr)).all jQ=true:=by
    rw[aKz] at hd ⊢
    exact fun x hx=>hd x (aLj (aLi hx))
   have hlen:((l.drop fr).take (tq-fr)).length=tq-fr:=by rw[aLU,aMK];omega
   constructor
   ·have:=List.take_add (l:=l) (i:=fr) (j:=tq-fr)
    rw[show fr+(tq-fr)=tq by omega] at this
    rw[this,OG,hlen]
   ·have:=Jy hcd
    rw[hlen] at this
    exact Nat.lt_of_lt_of_le this (Nat.le_trans (aMp (by decide) h2) (by decide))
  have eP:=fun X=>jU (f:=tV) (xs:=out) (x:=X) (lo:=0) (b:=0) (g:=out.length) (n:=out.length) (e:=1) (bytes:=8) (H:=[.row out.length (out.map tV) 1 true]) aT rfl (aKP _) (by decide) (by decide) (by omega)
  have Lo:∀X,([.row out.length (out.map tV) 1 true]:aA).set 0 (.row (out.length+1) ((out++[X]).map tV) 1 true)=[.row (out.length+1) ((out++[X]).map tV) 1 true]:=fun _=>rfl
  simp only[Lo] at eP
  by_cases h9:(9:Int)<(tq:Int)
  ·obtain⟨k1,k2⟩:=key (tq-9) (by omega) (by omega)
   have wz:IntKind.i64.wrap ((tq:Int)-9)=((tq-9:Nat):Int):=wrapN _ (by omega) (by omega)
   rw[show tq-(tq-9)=9 by omega] at k1 k2
   rw[show (10:Nat)^9=1000000000 by decide] at k1
   simp only[oV,g0,g3,g4,lR,h9,wz,VX,Nat.reduceEqDiff,Nat.reduceAdd]
   refine Ps (l:=l) hd (by omega) (fr:=tq-9) (tq:=tq) (by omega) (by omega) (by omega) ?_ ?_ ?_ ?_ fun AH q q6 => ?_
   all_goals first | (simp only[g0,g4,VX,Nat.reduceEqDiff,Nat.reduceAdd];done) | skip
   rw[show tq-(tq-9)=9 by omega] at q6
   have u3:AH 3 = .ref 0 out.length 0 out.length out.length:=by rw[q 3 (by decide)];simp only[g3,VX,Nat.reduceEqDiff,Nat.reduceAdd]
   have u0:AH 0=bD l:=by rw[q 0 (by decide)];simp only[g0,VX,Nat.reduceEqDiff,Nat.reduceAdd]
   have u4:AH 4=VI tq:=by rw[q 4 (by decide)];simp only[g4,VX,Nat.reduceEqDiff,Nat.reduceAdd]
   generalize bU ((l.drop (tq-9)).take 9)=X at *
   have e4:=e4 X
   have e5:=e5 X
   have eP:=eP X
   simp only[u0,u3,u4,q6,e4,e5,eP,wz,VX,Nat.reduceEqDiff,Nat.reduceAdd]
   refine⟨(out++[X],((tq-9:Nat):Int)),by simp only;omega,?_,by simp only;omega,by simp only;omega,?_,?_,?_,?_⟩
   ·simp
   ·simp only[aKw,aKv,aLY];omega
   ·intro d hdm
    rcases aLh.1 hdm with h | h
    ·exact hds d h
    ·rw[aLr] at h;omega
   ·simp only[aLH]
    rw[hv,k1,wM,aKw,List.length_singleton,Nat.pow_succ]
    grind
   ·simp
  ·obtain⟨k1,k2⟩:=key 0 (by omega) (by omega)
   rw[aNz,NF,Nat.zero_mul,aLT,aNY] at k1
   rw[aNY] at k2
   have wz:IntKind.i64.wrap ((tq:Int)-9)=(tq:Int)-9:=wrap64 (by omega) (by omega)
   simp only[oV,g0,g3,g4,lR,h9,VX,Nat.reduceEqDiff,Nat.reduceAdd]
   refine Ps (l:=l) hd (by omega) (fr:=0) (tq:=tq) (by omega) (by omega) (by omega) ?_ ?_ ?_ ?_ fun AH q q6 => ?_
   all_goals first | (simp only[g0,g4,VX,Nat.reduceEqDiff,Nat.reduceAdd];done) | (simp only[VX,Nat.reduceEqDiff,Nat.reduceAdd];rfl) | skip
   rw[aNY] at q6
   have u3:AH 3 = .ref 0 out.length 0 out.length out.length:=by rw[q 3 (by decide)];simp only[g3,VX,Nat.reduceEqDiff,Nat.reduceAdd]
   have u0:AH 0=bD l:=by rw[q 0 (by decide)];simp only[g0,VX,Nat.reduceEqDiff,Nat.reduceAdd]
   have u4:AH 4=VI tq:=by rw[q 4 (by decide)];simp only[g4,VX,Nat.reduceEqDiff,Nat.reduceAdd]
   generalize bU ((l.drop 0).take tq)=X at *
   have e4:=e4 X
   have e5:=e5 X
   have eP:=eP X
   simp only[u0,u3,u4,q6,e4,e5,eP,wz,VX,Nat.reduceEqDiff,Nat.reduceAdd]
   refine⟨(out++[X],(tq:Int)-9),by simp only;omega,?_,by simp only;omega,by simp only;omega,?_,?_,?_,?_⟩
   ·simp
   ·simp only[aKw,aKv,aLY];omega
   ·intro d hdm
    rcases aLh.1 hdm with h | h
    ·exact hds d h
    ·rw[aLr] at h;omega
   ·simp only
    rw[show ((tq:Int)-9).toNat=0 by omega,aNz,NF,Nat.mul_zero,Nat.add_zero,hv,k1,wM]
   ·simp
 ·have h0:z.toNat=0:=by omega
  rw[h0,aNz,NF,Nat.mul_zero,Nat.add_zero] at hv
  rw[hv]
  have ct:=TC.asC (f:=tV) (xs:=out) (size:=1) (e:=1) (w:=true) (H:=[.row out.length (out.map tV) 1 true]) (b:=0) (gn:=out.length) (n:=out.length) (c:=out.length) (wI out hds (by show out.length≤70368744177664;omega)) aT rfl (aKl _) IH (fun _=>rfl) rfl rfl
  simp only[oV,g0,g3,g4,lR,ct,VX,Nat.reduceEqDiff,Nat.reduceAdd]
  exact aH (cG _)
end Go.PM
namespace Go.PM
open Go.Lib
def DH (l:List UInt8):VV:=match rM l with
 | some q => .dU [aN q,VB true]
 | none => .dU [KU,VB false]
theorem AY (q:Rat):aX (aN q)=true:=by simp[aN,aX,aO,cG,qD]
theorem QF (q:Rat):gW (aN q)=true:=by simp[aN,gW,sO,pR,qD]
theorem YG (l:List UInt8):gW (DH l)=true:=by
 unfold DH
 split<;>simp[gW,sO,QF,U2,qD]
theorem PL {neg:Bool} {t b:Nat} (hb:b≠0) (hg:aM1 t b=1) (hn:¬(neg=true∧t=0)):aN (mkRat (mF neg t) b) = .agg [VB neg,bW t,bW b]:=by
 obtain⟨e1,e2⟩:=Ma (neg:=neg) hb hg
 refine Nv ?_ (by rw[e1,qJ]) e2
 rw[e1]
 cases neg with
 | false=>unfold mF;simp
 |
  true =>
  have:t≠0:=fun h=>hn ⟨rfl,h⟩
  unfold mF
  simp
  omega
theorem GI {n:Nat}:(((aD 1000000000 n).length:Nat):Int)=0↔n=0:=by
 rw[←oF (b:=1000000000) (n:=n) (by decide),←aNg]
 omega
theorem Uf {neg:Bool} {d t:List UInt8} (h:(47:UInt8)∈t):rJ neg d (some t)=none:=by
 have ht:jI t=false:=by
  cases hk:jI t with
  | false=>rfl
  | true=>exact absurd h (alH (lG.1 hk).1)
 unfold rJ
 split
 ·rfl
 ·simp only
  rw[if_neg (fun h=>by rw[ht] at h;exact absurd h.1 (by decide))]
theorem at_one (x:List UInt8) (H:aA):bJ 1 (aC bD [x]) (VI 0) H=some (.cF (bD x) 0):=aI (f:=bD) (t := .op) (H:=H) (size:=1) (k := .i64) (xs:=[x]) (i:=0) rfl rfl
theorem apQ (x y:List UInt8) (H:aA):bJ 1 (aC bD [x,y]) (VI 0) H=some (.cF (bD x) 0):=aI (f:=bD) (t := .op) (H:=H) (size:=1) (k := .i64) (xs:=[x,y]) (i:=0) rfl rfl
theorem apV (x y:List UInt8) (H:aA):bJ 1 (aC bD [x,y]) (VI 1) H=some (.cF (bD y) 0):=aI (f:=bD) (t := .op) (H:=H) (size:=1) (k := .i64) (xs:=[x,y]) (i:=1) rfl rfl
theorem Zm (x:List UInt8) (H:aA):rC (aC bD [x]) H=some (VI 1):=eR (f:=bD) (xs:=[x])
theorem atD (x y:List UInt8) (H:aA):rC (aC bD [x,y]) H=some (VI 2):=eR (f:=bD) (xs:=[x,y])
set_option maxRecDepth 100000 in
set_option maxHeartbeats 4000000 in
theorem Er (l:List UInt8) (hl:l.length≤1000000000):TC 110 [bD l] (DH l):=by
 refine TC.walk ⟨true,false⟩ MO rfl (aL9 rfl) rfl (YG l) ?_
 by_cases Cf:l=[]
 ·subst Cf
  have eC:TC 167 [.sc (.string ⟨#[]⟩),.sc (.int .u8 47)] (aC bD [[]]):=HG [] 47 (by simp)
  have eD:TC 168 [.sc (.string ⟨#[]⟩)] (VB false):=sH [] (by simp)
  have e1:Ak (.string ⟨#[]⟩)=some (.int .i64 0):=rfl
  have a1:=at_one []
  have a2:=Zm []
  simp only[cC,bM,e1,eC,eD,a1,a2,Int.reduceLT,Int.reduceLE,aK,fT,Nat.reduceLeDiff,Nat.reduceLT,Nat.reduceSub,VX,Nat.reduceEqDiff,Nat.reduceAdd]
  exact bO (d:=6) iH (aL (v:=VB false) rfl)
 have hp:0<l.length:=aNi.2 Cf
 have lR:(0:Int)<(l.length:Int):=by omega
 have e0:=KE l hp
 unfold DH
 unfold rM
 have jV:isNeg l=decide (((l.getD 0 0).toNat:Int)=45):=by
  unfold isNeg
  rw[decide_eq_true (show 1≤l.length from hp),aNX]
  refine decide_eq_decide.2 ⟨fun h=>by rw[h];rfl,fun h=>UInt8.toNat_inj.1 (by rw[show (45:UInt8).toNat=45 from rfl];omega)⟩
 have WO:(if isNeg l=true then l.drop 1 else l).length≤l.length:=by split<;>simp
 have q0:isNeg l=false→¬((l.getD 0 0).toNat:Int)=45:=fun h=>by rw[jV] at h;exact of_decide_eq_false h
 have q9:isNeg l=true→((l.getD 0 0).toNat:Int)=45:=fun h=>by rw[jV] at h;exact of_decide_eq_true h
 have r0:isNeg l=false→(if isNeg l=true then l.drop 1 else l)=l:=fun h=>by rw[h];rfl
 have r9:isNeg l=true→zB (bD l) (some (VI 1)) none=some (bD (if isNeg l=true then l.drop 1 else l)):=fun h=>by rw[h];exact Rx l (a:=1) hp
 generalize (if isNeg l=true then l.drop 1 else l)=r at *
 generalize isNeg l=neg at *
 clear jV
 have eC:TC 167 [bD r,.sc (.int .u8 47)] (aC bD (iZ 47 r)):=HG r 47 (by omega)
 obtain⟨l1,l2⟩:=T9 (c:=47) (l:=r)
 cases hs:(oK 47 r).2 with
 |
  none =>
  have hd:=(CT hs).2.1
  rw[Uw hs] at eC
  rw[hd]
  have a1:=at_one r
  have a2:=Zm r
  have eD:=sH r (by omega)
  cases hk:jI r with
  |
   false =>
   rw[hk] at eD
   have hpa:rJ neg r none=none:=if_pos (.inl hk)
   rw[hpa]
   cases neg with
   |
    false =>
    have q1:=q0 rfl
    have WO:=r0 rfl
    subst WO
    simp only[cC,bM,bP,lR,e0,q1,eC,eD,a1,a2,Int.reduceLT,aK,bB,aQ,aW,eQ,gT,eO,gQ,fT,Nat.reduceLeDiff,Nat.reduceLT,Nat.reduceSub,VX,Nat.reduceEqDiff,Nat.reduceAdd]
    exact bO (d:=6) iH (aL (v:=VB false) rfl)
   |
    true =>
    have q1:=q9 rfl
    have e9:=r9 rfl
    simp only[cC,bM,bP,lR,e0,q1,eC,eD,a1,a2,Int.reduceLT,e9,aK,bB,aQ,aW,eQ,gT,eO,gQ,fT,Nat.reduceLeDiff,Nat.reduceLT,Nat.reduceSub,VX,Nat.reduceEqDiff,Nat.reduceAdd]
    exact bO (d:=6) iH (aL (v:=VB false) rfl)
  |
   true =>
   rw[hk] at eD
   have hbt:=BB hk
   have eN:=vQ r (lG.1 hk).1 (by omega)
   by_cases hz:neg=true∧bU r=0
   ·have hpa:rJ neg r none=none:=if_pos (.inr hz)
    rw[hpa]
    obtain⟨rfl,Kt⟩:=hz
    have q1:=q9 rfl
    have e9:=r9 rfl
    have KV:(((aD 1000000000 (bU r)).length:Nat):Int)=0:=GI.2 Kt
    simp only[cC,bM,bP,lR,e0,q1,eC,eD,a1,a2,eN,e9,cL,KV,Int.reduceLT,aK,bB,aQ,aW,eQ,gT,eO,gQ,fT,Nat.reduceLeDiff,Nat.reduceLT,Nat.reduceSub,VX,Nat.reduceEqDiff,Nat.reduceAdd]
    exact bO (d:=6) iH (aL (v:=VB false) rfl)
   ·have Ch:neg=true→¬(((aD 1000000000 (bU r)).length:Nat):Int)=0:=fun h h0=>hz ⟨h,GI.1 h0⟩
    have hpa:rJ neg r none=some (mkRat (mF neg (bU r)) 1):=if_neg (by rw[hk];rintro(h | h);exact absurd h (by decide);exact hz h)
    rw[hpa]
    simp only[]
    rw[PL (by decide) (Nat.gcd_one_right _) hz]
    cases neg with
    |
     false =>
     have q1:=q0 rfl
     have WO:=r0 rfl
     subst WO
     simp only[cC,bM,bP,lR,e0,q1,eC,eD,a1,a2,eN,Int.reduceLT,Int.reduceEq,aK,bB,aQ,aW,eQ,gT,eO,gQ,fT,Nat.reduceLeDiff,Nat.reduceLT,Nat.reduceSub,VX,Nat.reduceEqDiff,Nat.reduceAdd]
     exact bO (d:=6) (uB (aL (v:=VB false) rfl) (aL (cG _)) St) (aL (v:=VB true) rfl)
    |
     true =>
     have q1:=q9 rfl
     have e9:=r9 rfl
     have KV:=Ch rfl
     simp only[cC,bM,bP,lR,e0,q1,eC,eD,a1,a2,eN,Int.reduceLT,Int.reduceEq,e9,cL,KV,aK,bB,aQ,aW,eQ,gT,eO,gQ,fT,Nat.reduceLeDiff,Nat.reduceLT,Nat.reduceSub,VX,Nat.reduceEqDiff,Nat.reduceAdd]
     exact bO (d:=6) (uB (aL (v:=VB true) rfl) (aL (cG _)) St) (aL (v:=VB true) rfl)
 |
  some t =>
  have ltt:=l2 t hs
  rw[LD hs] at eC
  generalize (oK 47 r).1=d at *
  by_cases hm:(47:UInt8)∈t
  ·rw[Uf hm]
   have hP:=TX hm
   generalize hPP:iZ 47 t=P at *
   have a2:∀H,rC (aC bD (d::P)) H=some (VI ((d::P).length:Int)):=fun H=>eR (f:=bD) (xs:=d::P)
   have hq3:(2:Int)<((d::P).length:Int):=by rw[aKv];omega
   generalize hQQ:d::P=PP at *
   clear hQQ hPP hP
   cases neg with
   |
    false =>
    have q1:=q0 rfl
    have WO:=r0 rfl
    subst WO
    simp only[cC,bM,bP,lR,e0,q1,eC,a2,hq3,aK,bB,aQ,aW,eQ,gT,eO,gQ,fT,Nat.reduceLeDiff,Nat.reduceLT,Nat.reduceSub,VX,Nat.reduceEqDiff,Nat.reduceAdd]
    exact bO (d:=6) iH (aL (v:=VB false) rfl)
   |
    true =>
    have q1:=q9 rfl
    have e9:=r9 rfl
    simp only[cC,bM,bP,lR,e0,q1,eC,a2,hq3,e9,aK,bB,aQ,aW,eQ,gT,eO,gQ,fT,Nat.reduceLeDiff,Nat.reduceLT,Nat.reduceSub,VX,Nat.reduceEqDiff,Nat.reduceAdd]
    exact bO (d:=6) iH (aL (v:=VB false) rfl)
  ·rw[Iy hm] at eC
   have a1:=apQ d t
   have a3:=apV d t
   have a2:=atD d t
   have eD:=sH d (by omega)
   have eF:=sH t (by omega)
   cases hk:jI d with
   |
    false =>
    rw[hk] at eD
    have hpa:rJ neg d (some t)=none:=if_pos (.inl hk)
    rw[hpa]
    cases neg with
    |
     false =>
     have q1:=q0 rfl
     have WO:=r0 rfl
     subst WO
     simp only[cC,bM,bP,lR,e0,q1,eC,eD,a1,a2,Int.reduceLT,aK,bB,aQ,aW,eQ,gT,eO,gQ,fT,Nat.reduceLeDiff,Nat.reduceLT,Nat.reduceSub,VX,Nat.reduceEqDiff,Nat.reduceAdd]
     exact bO (d:=6) iH (aL (v:=VB false) rfl)
    |
     true =>
     have q1:=q9 rfl
     have e9:=r9 rfl
     simp only[cC,bM,bP,lR,e0,q1,eC,eD,a1,a2,Int.reduceLT,e9,aK,bB,aQ,aW,eQ,gT,eO,gQ,fT,Nat.reduceLeDiff,Nat.reduceLT,Nat.reduceSub,VX,Nat.reduceEqDiff,Nat.reduceAdd]
     exact bO (d:=6) iH (aL (v:=VB false) rfl)
   |
    true =>
    rw[hk] at eD
    have hbt:=BB hk
    have eN:=vQ d (lG.1 hk).1 (by omega)
    by_cases hz:neg=true∧bU d=0
    ·have hpa:rJ neg d (some t)=none:=if_pos (.inr hz)
     rw[hpa]
     obtain⟨rfl,Kt⟩:=hz
     have q1:=q9 rfl
     have e9:=r9 rfl
     have KV:(((aD 1000000000 (bU d)).length:Nat):Int)=0:=GI.2 Kt
     simp only[cC,bM,bP,lR,e0,q1,eC,eD,a1,a2,eN,e9,cL,KV,Int.reduceLT,aK,bB,aQ,aW,eQ,gT,eO,gQ,fT,Nat.reduceLeDiff,Nat.reduceLT,Nat.reduceSub,VX,Nat.reduceEqDiff,Nat.reduceAdd]
     exact bO (d:=6) iH (aL (v:=VB false) rfl)
    ·have Ch:neg=true→¬(((aD 1000000000 (bU d)).length:Nat):Int)=0:=fun h h0=>hz ⟨h,GI.1 h0⟩
     have hpa:rJ neg d (some t)=if jI t=true∧1<bU t∧aM1 (bU d) (bU t)=1 then some (mkRat (mF neg (bU d)) (bU t)) else none:=if_neg (by rw[hk];rintro(h | h);exact absurd h (by decide);exact hz h)
     rw[hpa]
     clear hpa
     cases ht:jI t with
     |
      false =>
      rw[ht] at eF
      rw[if_neg (fun h=>absurd h.1 (by decide))]
      cases neg with
      |
       false =>
       have q1:=q0 rfl
       have WO:=r0 rfl
       subst WO
       simp only[cC,bM,bP,lR,e0,q1,eC,eD,eF,a1,a2,a3,eN,Int.reduceLT,Int.reduceEq,aK,bB,aQ,aW,eQ,gT,eO,gQ,fT,Nat.reduceLeDiff,Nat.reduceLT,Nat.reduceSub,VX,Nat.reduceEqDiff,Nat.reduceAdd]
       exact bO (d:=6) iH (aL (v:=VB false) rfl)
      |
       true =>
       have q1:=q9 rfl
       have e9:=r9 rfl
       have KV:=Ch rfl
       simp only[cC,bM,bP,lR,e0,q1,eC,eD,eF,a1,a2,a3,eN,Int.reduceLT,Int.reduceEq,e9,cL,KV,aK,bB,aQ,aW,eQ,gT,eO,gQ,fT,Nat.reduceLeDiff,Nat.reduceLT,Nat.reduceSub,VX,Nat.reduceEqDiff,Nat.reduceAdd]
       exact bO (d:=6) iH (aL (v:=VB false) rfl)
     |
      true =>
      rw[ht] at eF
      have NH:=BB ht
      have eM:=vQ t (lG.1 ht).1 (by omega)
      have c2:∀lo H K,_:=fun lo H K=>Ng (n:=bU t) (lo:=lo) (H:=H) (K:=K) (aK2 (oR (by omega)))
      have c3:=Ht (bU d) (bU t) (oR (by omega)) (oR (by omega))
      by_cases h1:fW (bU t) 1≤0
      ·have hle:¬1<bU t:=fun h=>by unfold fW at h1;rw[if_neg (by omega),if_neg (by omega)] at h1;exact absurd h1 (by decide)
       rw[if_neg (fun h=>hle h.2.1)]
       cases neg with
       |
        false =>
        have q1:=q0 rfl
        have WO:=r0 rfl
        subst WO
        simp only[cC,bM,bP,lR,e0,q1,eC,eD,eF,a1,a2,a3,eN,eM,c2,h1,Int.reduceLT,Int.reduceEq,aK,bB,aQ,aW,eQ,gT,eO,gQ,fT,Nat.reduceLeDiff,Nat.reduceLT,Nat.reduceSub,VX,Nat.reduceEqDiff,Nat.reduceAdd]
        exact bO (d:=6) iH (aL (v:=VB false) rfl)
       |
        true =>
        have q1:=q9 rfl
        have e9:=r9 rfl
        have KV:=Ch rfl
        simp only[cC,bM,bP,lR,e0,q1,eC,eD,eF,a1,a2,a3,eN,eM,c2,h1,Int.reduceLT,Int.reduceEq,e9,cL,KV,aK,bB,aQ,aW,eQ,gT,eO,gQ,fT,Nat.reduceLeDiff,Nat.reduceLT,Nat.reduceSub,VX,Nat.reduceEqDiff,Nat.reduceAdd]
        exact bO (d:=6) iH (aL (v:=VB false) rfl)
      ·have bF:1<bU t:=by
        rcases Nat.lt_or_ge 1 (bU t) with h | h
        ·exact h
        ·exfalso
         apply h1
         unfold fW
         split<;>(try split)<;>first | decide | omega
       have hgl:bl (aM1 (bU d) (bU t))≤665:=Nat.le_trans (mA (Nat.le_of_dvd (by omega) (Nat.gcd_dvd_right _ _))) NH
       have c4:∀lo H K,_:=fun lo H K=>Ng (n:=aM1 (bU d) (bU t)) (lo:=lo) (H:=H) (K:=K) (aK2 (oR (by omega)))
       by_cases hg:aM1 (bU d) (bU t)=1
       ·have h4:fW (aM1 (bU d) (bU t)) 1=0:=by rw[hg];rfl
        rw[if_pos ⟨rfl,bF,hg⟩]
        simp only[]
        rw[PL (by omega) hg hz]
        cases neg with
        |
         false =>
         have q1:=q0 rfl
         have WO:=r0 rfl
         subst WO
         simp only[cC,bM,bP,lR,e0,q1,eC,eD,eF,a1,a2,a3,eN,eM,c2,c3,c4,h1,h4,Int.reduceLT,Int.reduceEq,aK,bB,aQ,aW,eQ,gT,eO,gQ,fT,Nat.reduceLeDiff,Nat.reduceLT,Nat.reduceSub,VX,Nat.reduceEqDiff,Nat.reduceAdd]
         exact bO (d:=6) (uB (aL (v:=VB false) rfl) (aL (cG _)) (aL (cG _))) (aL (v:=VB true) rfl)
        |
         true =>
         have q1:=q9 rfl
         have e9:=r9 rfl
         have KV:=Ch rfl
         simp only[cC,bM,bP,lR,e0,q1,eC,eD,eF,a1,a2,a3,eN,eM,c2,c3,c4,h1,h4,Int.reduceLT,Int.reduceEq,e9,cL,KV,aK,bB,aQ,aW,eQ,gT,eO,gQ,fT,Nat.reduceLeDiff,Nat.reduceLT,Nat.reduceSub,VX,Nat.reduceEqDiff,Nat.reduceAdd]
         exact bO (d:=6) (uB (aL (v:=VB true) rfl) (aL (cG _)) (aL (cG _))) (aL (v:=VB true) rfl)
       ·have h4:¬fW (aM1 (bU d) (bU t)) 1=0:=by
         unfold fW
         split<;>(try split)<;>first | decide | omega
        rw[if_neg (fun h=>hg h.2.2)]
        cases neg with
        |
         false =>
         have q1:=q0 rfl
         have WO:=r0 rfl
         subst WO
         simp only[cC,bM,bP,lR,e0,q1,eC,eD,eF,a1,a2,a3,eN,eM,c2,c3,c4,h1,h4,Int.reduceLT,Int.reduceEq,aK,bB,aQ,aW,eQ,gT,eO,gQ,fT,Nat.reduceLeDiff,Nat.reduceLT,Nat.reduceSub,VX,Nat.reduceEqDiff,Nat.reduceAdd]
         exact bO (d:=6) iH (aL (v:=VB false) rfl)
        |
         true =>
         have q1:=q9 rfl
         have e9:=r9 rfl
         have KV:=Ch rfl
         simp only[cC,bM,bP,lR,e0,q1,eC,eD,eF,a1,a2,a3,eN,eM,c2,c3,c4,h1,h4,Int.reduceLT,Int.reduceEq,e9,cL,KV,aK,bB,aQ,aW,eQ,gT,eO,gQ,fT,Nat.reduceLeDiff,Nat.reduceLT,Nat.reduceSub,VX,Nat.reduceEqDiff,Nat.reduceAdd]
         exact bO (d:=6) iH (aL (v:=VB false) rfl)
end Go.PM
namespace Go.PM
open Go.Lib
end Go.PM
namespace Go.PM
open Go.Lib
theorem T8 {l:List UInt8} {q:Rat} (h:rM l=some q):DH l = .dU [aN q,VB true]:=by unfold DH;rw[h]
theorem Vm {l:List UInt8} (h:rM l=none):DH l = .dU [KU,VB false]:=by unfold DH;rw[h]
end Go.PM
namespace Go.PM
open Go.Lib
def Ur (o:Option (List Rat)):VV:=match o with
 | some qs => .dU [aC aN qs,VB true]
 | none => .dU [aC aN [],VB false]
theorem Ee:Ur none = .dU [aC aN [],VB false]:=rfl
theorem DE (qs:List Rat):Ur (some qs) = .dU [aC aN qs,VB true]:=rfl
theorem iL (q:Rat):(aB (aN q)).length=3:=rfl
theorem rL (qs:List Rat):aX (aC aN qs)=true:=mN iL AY
theorem aeN (q:Rat):Cl (aN q)=true:=by simp[Cl,aN,bW,jJ]
theorem Gi (qs:List Rat):gW (aC aN qs)=true:=zC iL QF aeN
theorem adO (o:Option (List Rat)):gW (Ur o)=true:=by
 unfold Ur
 split
 ·exact zK (Gi _) rfl
 ·exact zK (Gi []) rfl
set_option maxHeartbeats 1000000 in
theorem By (xs:List ByteArray) (hn:xs.length≤1000000000) (hs:∀s∈xs,s.size≤1000000000):TC 57 [gB xs] (Ur (sY xs)):=by
 refine TC.walk ⟨true,false⟩ Pn rfl (aL9 rfl) (by simp[aO,jD]) (adO _) ?_
 unfold sY
 by_cases XT:(300:Int)<(xs.length:Int)
 ·rw[if_neg (by omega)]
  simp only[DL,A4,XT,VX,Nat.reduceEqDiff,Nat.reduceAdd]
  exact It
 rw[if_pos (by omega)]
 have e0:=fun H=>mO (H:=H) (lr:=false) (z:=[.bool false,.slice none 0 0,.slice none 0 0]) rfl
 simp only[DL,A4,XT,e0,VX,Nat.reduceEqDiff,Nat.reduceAdd]
 refine O6 (fun(s:Nat×List Rat) ρ H=>s.1≤xs.length∧(xs.take s.1).mapM pQ=some s.2∧H=[.row s.1 (s.2.map aN) 3 true]∧ρ 4 = .ref 0 s.1 0 s.1 s.1∧ρ 0=gB xs∧ρ 13=VI xs.length∧ρ 14=VI s.1) (fun s=>xs.length-s.1) (0,[]) ⟨aKP _,rfl,rfl,rfl,rfl,rfl,rfl⟩ ?_
 rintro⟨i,out⟩ ρ H ⟨hi,wQ,rfl,g4,g13,g14,g15⟩
 simp only at hi wQ g4 g15
 have iA:out.length=i:=by rw[AS wQ,aLU];omega
 by_cases bX:(i:Int)<(xs.length:Int)
 ·obtain⟨x,hx⟩:∃x,xs[i]? = some x:=⟨_,aKs (by omega)⟩
  have hxm:=aLf hx
  have e1:=fun H=>aI (f:=sV) (t := .op) (H:=H) (size:=1) (k := .i64) hx rfl
  have wi:IntKind.i64.wrap ((i:Int)+1)=((i+1:Nat):Int):=wrapN (i+1) (by omega) (by omega)
  have e2:=Er x.data.toList (by have:=hs x hxm;rw[Array.length_toList];show x.size≤_;omega)
  rw[←ahL] at e2
  cases hp:pQ x with
  |
   none =>
   rw[Vm hp] at e2
   rw[mapM_none hp hxm]
   simp only[uH,g4,g13,g14,g15,bX,e1,e2,LH,Pw,We,aZ,aY,aS,fT,Nat.reduceLeDiff,Nat.reduceLT,Nat.reduceSub,nH,cB,cN,gO,lQ,pT,bne_iff_ne,ne_eq,not_false_eq_true,not_true_eq_false,VX,Nat.reduceEqDiff,Nat.reduceAdd]
   exact It
  |
   some q =>
   rw[T8 hp] at e2
   have eL:∀H,oD false [.bool false,.slice none 0 0,.slice none 0 0] 1 [(0,aN q)] H=some (.tree [aN q] (.cl 3),H):=fun H=>lS rfl rfl rfl
   have eS:∀H,dF 3 (.tree [aN q] (.cl 3)) H=some [aN q]:=fun H=>gS rfl rfl
   have eP:dI 0 3 56 (.ref 0 i 0 i i) [aN q] [.row i (out.map aN) 3 true,.row 0 [aN q] 3 true]=some (.ref 0 (i+1) 0 (i+1) (i+1),[.row (i+1) ((out++[q]).map aN) 3 true,.row 0 [aN q] 3 true]):=by
    rw[jU (f:=aN) (xs:=out) (by rw[aT]) iA.symm (aKl _) (by decide) (by decide) (by omega),aLZ]
   simp only[uH,g4,g13,g14,g15,bX,e1,e2,eL,eS,eP,wi,bQ,gM,cJ,aQ,bB,aW,fT,Nat.reduceLeDiff,Nat.reduceLT,Nat.reduceSub,nH,cB,cN,gO,lQ,pT,bne_iff_ne,ne_eq,not_false_eq_true,not_true_eq_false,VX,Nat.reduceEqDiff,Nat.reduceAdd]
   refine⟨(i+1,out++[q]),by simp only;omega,?_,by simp only;omega,by simp only[sG hx];exact QS wQ hp,rfl,?_⟩
   ·rw[Dq (oO _ (fM AY)),K1]
   ·simp only[AW,g13,g14,CL (jD _),KS (Nat.lt_succ_self 0),VX,Nat.reduceEqDiff,Nat.reduceAdd,aNz,nR,List.all_nil,aLY,AW,Pg,CL]
 ·have nC:i=xs.length:=by omega
  subst nC
  rw[aLy] at wQ
  rw[wQ]
  simp only[uH,g4,g13,g14,g15,bX,VX,Nat.reduceEqDiff,Nat.reduceAdd]
  refine bO (d:=6) ?_ (aL (v:=VB true) rfl)
  have:=Uq (d:=5) (w:=true) (f:=aN) (e:=3) (b:=0) (g:=xs.length) (c:=xs.length) (xs:=out) (H:=[.row xs.length (out.map aN) 3 true]) AY (by rw[aT]) (by omega)
  rw[iA] at this
  exact this
set_option maxHeartbeats 1000000 in
theorem Rq {lo:Nat} {H:aA} {q:Rat} (h:lo≤H.length):bK lo 3 (.ptr H.length 0 0 0) (aN q) (H++[cell0])=some (H++[.row 0 [aN q] 3 true]):=by
 rw[bR (g:=0) (e:=3) (j:=0) kD (by exact aNA) h rfl rfl,Oa]
 rfl
theorem Eh {lo:Nat} {H:aA} {v:VV} (qs:List Rat) {B:Nat} (hv:Rd aN 3 qs H v) (dQ:lo≤H.length) (hb:∀q∈qs,aM q≤B) (hk:qs.length*(B+1)+1≤1099511627776) (hB:B≤1099511627776) (hn:qs.length≤1000000000) :
  jA 60 [v] lo H (Rr (fun _ _ _ r=>r=aN (dO qs)) H):=by
 refine jA.walk ⟨true,false⟩ MY (aL9 rfl) ?_
 have e1:=FW
 have e2:=hv.len (H++[cell0,.row 0 [aN 0] 3 true]) (List.prefix_append _ _)
 have s0:bK lo 3 (.ptr (H.length+1) 0 0 0) (aN 0) (H++[cell0,cell0])=some (H++[cell0,.row 0 [aN 0] 3 true]):=by
  have:=Rq (lo:=lo) (H:=H++[cell0]) (q:=0) (by rw[aKw];omega)
  simpa only[aKw,aKv,aLY,aLT,aL7,aLL,aLD] using this
 simp only[HA,Eu,e1,e2,s0,aKw,aKv,aLY,aL7,aLL,aLD,eH,VX,Nat.reduceEqDiff,Nat.reduceAdd,Nat.reduceLeDiff,Nat.reduceLT,Nat.reduceSub]
 refine aR (fun(i:Nat) ρ H1=>i≤qs.length∧H <+: H1∧aG H1 H.length 0=some ([rz],3,true)∧aG H1 (H.length+1) 0=some ([aN (dO (qs.take i))],3,true)∧ρ 2 = .ptr H.length 0 0 0∧ρ 3 = .ptr (H.length+1) 0 0 0∧ρ 0=v∧ρ 7=VI qs.length∧ρ 8=VI i) (fun i=>qs.length-i) 0 ⟨aKP _,List.prefix_append _ _,BS.trans aT,NA.trans (dZ.trans aT),rfl,rfl,rfl,rfl,rfl⟩ ?_
 rintro i ρ H1 ⟨hi,hp,Kd,TD,g2,g3,g0,g7,g8⟩
 have Dw:=kW TD
 have s3:bI true 3 (.ptr (H.length+1) 0 0 0) H1=some (aN (dO (qs.take i))):=by
  rw[bS,TD]
  exact cJ _
 by_cases bX:(i:Int)<(qs.length:Int)
 ·obtain⟨q,hq⟩:∃q,qs[i]? = some q:=⟨_,aKs (by omega)⟩
  obtain⟨p,a1,a2⟩:=hv.get H1 hp i q hq
  have a2':=(a2 true).trans (cJ _)
  have wi:IntKind.i64.wrap ((i:Int)+1)=((i+1:Nat):Int):=wrapN (i+1) (by omega) (by omega)
  have h1:=AP hb i
  have h2:=hb q (aLf hq)
  have h3:(i+1)*(B+1)≤qs.length*(B+1):=Nat.mul_le_mul_right _ (by omega)
  have e3:=tK (dO (qs.take i)) q (by omega) (by omega)
  rw[←Ds hq] at e3
  have s4:=bR (lo:=lo) (v:=aN (dO (qs.take (i+1)))) (j:=0) TD (by exact aNA) (by omega) rfl rfl
  rw[aLZ] at s4
  simp only[xK,g2,g3,g0,g7,g8,bX,a1,a2',e3,s3,s4,wi,eH,VX,Nat.reduceEqDiff,Nat.reduceAdd,Nat.reduceLeDiff,Nat.reduceLT,Nat.reduceSub]
  exact⟨i+1,by omega,by omega,nX hp (by omega),bC (by omega) Kd,cA TD,by (repeat' apply aL1)<;>first | rfl | trivial | assumption⟩
 ·have nC:i=qs.length:=by omega
  subst nC
  rw[aLy] at s3
  have s4:=bR (lo:=lo) (v:=aN (dO qs)) (j:=0) Kd (by exact aNA) dQ rfl rfl
  rw[aLZ] at s4
  have s5:bI true 3 (.ptr H.length 0 0 0) (H1.set H.length (.row 0 [aN (dO qs)] 3 true))=some (aN (dO qs)):=by
   rw[bS,cA Kd]
   exact cJ _
  simp only[xK,g2,g3,g7,g8,bX,s3,s4,s5,eH,VX,Nat.reduceEqDiff,Nat.reduceAdd,Nat.reduceLeDiff,Nat.reduceLT,Nat.reduceSub]
  exact⟨nX hp (aKl _),rfl⟩
theorem Z3 {q:Rat}:q.num<0↔q<0:=by rw[←Int.not_le,Rat.num_nonneg];constructor<;>intro h<;>grind
theorem uN (qs:List Rat) (hn:qs.length≤1000000000):TC 58 [aC aN qs] (VB (!(qs.any fun q=>decide (q<0)))):=by
 refine TC.walk ⟨true,false⟩ Iv rfl (aL9 rfl) (by simp[aO,rL]) rfl ?_
 simp only[Du,A8,VX,Nat.reduceEqDiff,Nat.reduceAdd]
 refine aR (fun(i:Nat) ρ H=>i≤qs.length∧H=[]∧(∀j x,j<i→qs[j]? = some x→¬x<0)∧ρ 0=aC aN qs∧ρ 5=VI qs.length∧ρ 6=VI i) (fun i=>qs.length-i) 0 ⟨aKP _,rfl,fun j x h=>by omega,rfl,rfl,rfl⟩ ?_
 rintro i ρ H ⟨hi,rfl,jN,g0,g5,g6⟩
 by_cases bX:(i:Int)<(qs.length:Int)
 ·obtain⟨q,hq⟩:∃q,qs[i]? = some q:=⟨_,aKs (by omega)⟩
  have e2:=fun H=>aI (f:=aN) (t := .op) (H:=H) (size:=3) (k := .i64) hq rfl
  have wi:IntKind.i64.wrap ((i:Int)+1)=((i+1:Nat):Int):=wrapN (i+1) (by omega) (by omega)
  by_cases jV:q.num<0
  ·have Ad:qs.any (fun q=>decide (q<0))=true:=List.any_eq_true.2 ⟨q,aLf hq,decide_eq_true (Z3.1 jV)⟩
   rw[Ad]
   simp only[nJ,g0,g5,g6,bX,e2,jV,gU,bQ,gM,cJ,aQ,bB,aW,fT,Nat.reduceLeDiff,Nat.reduceLT,Nat.reduceSub,nH,cB,cN,gO,lQ,pT,bne_iff_ne,ne_eq,not_false_eq_true,not_true_eq_false,VX,Nat.reduceEqDiff,Nat.reduceAdd]
   exact aH rfl
  ·simp only[nJ,g0,g5,g6,bX,e2,jV,wi,gU,bQ,gM,cJ,aQ,bB,aW,fT,Nat.reduceLeDiff,Nat.reduceLT,Nat.reduceSub,nH,cB,cN,gO,lQ,pT,bne_iff_ne,ne_eq,not_false_eq_true,not_true_eq_false,VX,Nat.reduceEqDiff,Nat.reduceAdd]
   refine⟨i+1,by omega,by omega,fun j y hj hy => ?_,rfl⟩
   rcases Nat.lt_or_ge j i with DV | DV
   ·exact jN j y DV hy
   ·have:j=i:=by omega
    subst this
    rw[hq] at hy
    cases hy
    exact mt Z3.2 jV
 ·have nC:i=qs.length:=by omega
  subst nC
  have Ad:qs.any (fun q=>decide (q<0))=false:=by
   rw[List.any_eq_false]
   intro x hx
   obtain⟨j,hj⟩:=List.getElem?_of_mem hx
   simpa using jN j x (aKk.1 hj).1 hj
  rw[Ad]
  simp only[nJ,g0,g5,g6,bX,VX,Nat.reduceEqDiff,Nat.reduceAdd]
  exact aH rfl
theorem Xr {a b:Rat}:a=b↔(decide (a.num<0)=decide (b.num<0)∧a.num.natAbs*b.den=b.num.natAbs*a.den):=by
 constructor
 ·rintro rfl
  exact⟨rfl,rfl⟩
 ·rintro⟨h1,h2⟩
  have h3:a.num<0↔b.num<0:=by simpa using h1
  have ha:=a.den_nz
  have hb:=b.den_nz
  have key:a.num*b.den=b.num*a.den→a=b:=fun h=>by
   have:=(Rat.mkRat_eq_iff (n₁:=a.num) (n₂:=b.num) ha hb).2 h
   rwa [Rat.mkRat_self,Rat.mkRat_self] at this
  refine key ?_
  have e1:(a.num.natAbs:Int)*b.den=b.num.natAbs*a.den:=by exact_mod_cast h2
  by_cases hn:a.num<0
  ·have hn2:=h3.1 hn
   have q1:a.num = -(a.num.natAbs:Int):=by omega
   have q2:b.num = -(b.num.natAbs:Int):=by omega
   rw[q1,q2,Int.neg_mul,Int.neg_mul,e1]
  ·have hn2:=mt h3.2 hn
   have q1:a.num=(a.num.natAbs:Int):=by omega
   have q2:b.num=(b.num.natAbs:Int):=by omega
   rw[q1,q2,e1]
set_option maxHeartbeats 1000000 in
theorem ML (a b:Rat) (Mh:aM a≤1099511627776) (IL:aM b≤1099511627776):TC 160 [aN a,aN b] (VB (decide (a=b))):=by
 refine TC.walk ⟨true,false⟩ M4 rfl (aL9 rfl) (by simp only[aO,AY];rfl) rfl ?_
 have b1 := @pV a
 have b2 := @pV b
 have b3 := @oE a
 have b4 := @oE b
 have b5:=nW a.num.natAbs b.den
 have b6:=nW b.num.natAbs a.den
 have c1:=fE a.num.natAbs b.den (aK2 (oR (by omega))) (aK2 (oR (by omega)))
 have c2:=fE b.num.natAbs a.den (aK2 (oR (by omega))) (aK2 (oR (by omega)))
 have c3:=yX (a.num.natAbs*b.den) (b.num.natAbs*a.den) (aK2 (oR (by omega))) (aK2 (oR (by omega)))
 by_cases q1:decide (a.num<0)=decide (b.num<0)
 ·have q2:(decide (a.num<0) == decide (b.num<0))=true:=by simpa using q1
  have hz := @AJ (a.num.natAbs*b.den) (b.num.natAbs*a.den)
  by_cases q3:fW (a.num.natAbs*b.den) (b.num.natAbs*a.den)=0
  ·rw[decide_eq_true (Xr.2 ⟨q1,hz.1 q3⟩)]
   simp only[yQ,uF,c1,c2,c3,q2,q3,yK,bQ,gU,jP,jR,aQ,fT,Nat.reduceLeDiff,Nat.reduceLT,Nat.reduceSub,nH,cB,cN,gO,lQ,pT,bne_iff_ne,ne_eq,not_false_eq_true,not_true_eq_false,VX,Nat.reduceEqDiff,Nat.reduceAdd]
   exact aH rfl
  ·rw[decide_eq_false (fun h=>q3 (hz.2 (Xr.1 h).2))]
   simp only[yQ,uF,c1,c2,c3,q2,q3,yK,bQ,gU,jP,jR,aQ,fT,Nat.reduceLeDiff,Nat.reduceLT,Nat.reduceSub,nH,cB,cN,gO,lQ,pT,bne_iff_ne,ne_eq,not_false_eq_true,not_true_eq_false,VX,Nat.reduceEqDiff,Nat.reduceAdd]
   exact aH rfl
 ·have q2:(decide (a.num<0) == decide (b.num<0))=false:=by simpa using q1
  rw[decide_eq_false (fun h=>q1 (Xr.1 h).1)]
  simp only[yQ,uF,q2,yK,bQ,gU,jP,jR,aQ,fT,Nat.reduceLeDiff,Nat.reduceLT,Nat.reduceSub,nH,cB,cN,gO,lQ,pT,bne_iff_ne,ne_eq,not_false_eq_true,not_true_eq_false,VX,Nat.reduceEqDiff,Nat.reduceAdd]
  exact aH rfl
theorem Kb (qs:List Rat) (hb:∀q∈qs,aM q≤665) (hl:qs.length≤300):TC 96 [aC aN qs] (VB (kG qs)):=by
 refine TC.walk ⟨true,false⟩ Kc rfl (aL9 rfl) (by simp[aO,rL]) rfl ?_
 have e1:=uN qs (by omega)
 have e2:=fun(K:aA)=>Eh (lo:=0) (H:=K) (v:=aC aN qs) qs (Rd.tree iL) (aKP _) hb (Ol hl) (by omega) (by omega)
 have hsb:=AP hb qs.length
 rw[aLy] at hsb
 have e3:=P9
 have hsr:=Ol hl
 have e4:=ML (dO qs) 1 (by omega) (by rw[Kw];omega)
 unfold kG
 cases Ad:qs.any (fun q=>decide (q<0)) with
 |
  true =>
  rw[Ad] at e1
  simp only[Bool.not_true,Bool.false_and] at e1 ⊢
  simp only[zU,wG,e1,VX,Nat.reduceEqDiff,Nat.reduceAdd]
  exact aH rfl
 |
  false =>
  rw[Ad] at e1
  simp only[Bool.not_false,aNX] at e1 ⊢
  simp only[zU,wG,e1,VX,Nat.reduceEqDiff,Nat.reduceAdd]
  refine rR rfl (e2 _) fun r L hr => ?_
  subst hr
  simp only[e3,e4,VX,Nat.reduceEqDiff,Nat.reduceAdd]
  exact aH rfl
end Go.PM
namespace Go.PM
open Go.Lib
end Go.PM
namespace Go.PM
def yI:aE:=(.seq (LS [LM 20 6,LM 21 4,LO 22 (.bin .lss (LT 20) (LT 21)),LM 23 22,LY 23 24 (.mv (LT 0)),LY 23 25 (.mv (LT 6)),LY 23 26 (.iaddr 1 (LT 24) (LT 25)),LY 23 27 (LL 26),LY 23 28 (.mv (LT 5)),LY 23 29 (.iaddr 3 (LT 27) (LT 28)),LY 23 30 (LK 29),LY 23 31 (.call 59 [(LT 30)]),LO 32 (.pick (LT 23) (LT 31) LF)] (.cond (LT 32) .skip (.exit 2))) (.block 3 (.cV [LM 33 6,LO 34 (.bin .add (LT 33) (LI 1)),LM 6 34])))
def yG:aE:=(.seq (LS [LM 76 9,LM 77 4,LO 78 (.bin .leq (LT 76) (LT 77))] (.cond (LT 78) .skip (.exit 6))) (.seq (.block 7 (.cV [LM 81 0,LM 82 7,LO 83 (.iaddr 1 (LT 81) (LT 82)),LO 84 (LL 83),LM 85 9,LM 86 0,LM 87 7,LO 88 (.iaddr 1 (LT 86) (LT 87)),LO 89 (LL 88),LM 90 9,LO 91 (.iaddr 3 (LT 89) (LT 90)),LO 92 (LK 91),LO 93 (LK 8),LM 94 0,LM 95 5,LO 96 (.iaddr 1 (LT 94) (LT 95)),LO 97 (LL 96),LM 98 9,LO 99 (.iaddr 3 (LT 97) (LT 98)),LO 100 (LK 99),LQ 101 (.call 125 [(LT 93),(LT 100)]),LQ 102 (.call 82 [(LT 92),(LT 101)]),LO 103 (.iaddr 3 (LT 84) (LT 85)),LN (.store 3 (LT 103) (LT 102))])) (.cV [LM 79 9,LO 80 (.bin .add (LT 79) (LI 1)),LM 9 80])))
def nS:aE:=(.seq (LS [LM 42 7,LM 43 4,LO 44 (.bin .lss (LT 42) (LT 43))] (.cond (LT 44) .skip (.exit 4))) (.seq (.block 5 (.seq (LS [LM 47 7,LM 48 5,LO 49 (.bin .eql (LT 47) (LT 48)),LM 50 49,LZ 50 51 (.mv (LT 0)),LZ 50 52 (.mv (LT 7)),LZ 50 53 (.iaddr 1 (LT 51) (LT 52)),LZ 50 54 (LL 53),LZ 50 55 (.mv (LT 5)),LZ 50 56 (.iaddr 3 (LT 54) (LT 55)),LZ 50 57 (LK 56),LZ 50 58 (.call 59 [(LT 57)]),LO 59 (.pick (LT 50) LG (LT 58))] (.cond (LT 59) (.exit 5) .skip)) (LS [LM 60 0,LM 61 7,LO 62 (.iaddr 1 (LT 60) (LT 61)),LO 63 (LL 62),LM 64 5,LO 65 (.iaddr 3 (LT 63) (LT 64)),LO 66 (LK 65),LM 67 0,LM 68 5,LO 69 (.iaddr 1 (LT 67) (LT 68)),LO 70 (LL 69),LM 71 5,LO 72 (.iaddr 3 (LT 70) (LT 71)),LO 73 (LK 72),LQ 74 (.call 81 [(LT 66),(LT 73)]),LQ 8 (.new [(.bool false),(.slice none 0 0),(.slice none 0 0)]),LN (.store 3 (LT 8) (LT 74))] (LS [LM 75 5,LM 9 75] (.block 6 (.loop yG)))))) (.cV [LM 45 7,LO 46 (.bin .add (LT 45) (LI 1)),LM 7 46])))
def xO:aE:=(.seq (LS [LM 14 5,LM 15 4,LO 16 (.bin .lss (LT 14) (LT 15))] (.cond (LT 16) .skip (.exit 0))) (.seq (.block 1 (LS [LM 19 5,LM 6 19] (.seq (.block 2 (.loop yI)) (.seq (LS [LM 35 6,LM 36 4,LO 37 (.bin .eql (LT 35) (LT 36))] (.cond (LT 37) (LS [LO 2 (.mv (.const (.slice none 0 0))),LO 3 (.mv LF)] .ret) .skip)) (LS [LM 38 0,LM 39 5,LM 40 6,LO 41 (.call 179 [(LT 38),(LT 39),(LT 40)])] (LS [LO 7 (.mv (LI 0))] (.block 4 (.loop nS)))))))) (.cV [LM 17 5,LO 18 (.bin .add (LT 17) (LI 1)),LM 5 18])))
def yF:aE:=(.seq (LS [LM 105 11,LM 106 4,LO 107 (.bin .lss (LT 105) (LT 106))] (.cond (LT 107) .skip (.exit 8))) (.seq (.block 9 (.cV [LM 110 10,LM 111 0,LM 112 11,LO 113 (.iaddr 1 (LT 111) (LT 112)),LO 114 (LL 113),LM 115 4,LO 116 (.iaddr 3 (LT 114) (LT 115)),LO 117 (LK 116),LM 118 0,LM 119 11,LO 120 (.iaddr 1 (LT 118) (LT 119)),LO 121 (LL 120),LM 122 11,LO 123 (.iaddr 3 (LT 121) (LT 122)),LO 124 (LK 123),LQ 125 (.call 81 [(LT 117),(LT 124)]),LQ 126 (.lit [(.bool false),(.slice none 0 0),(.slice none 0 0)] 1 [(0,(LT 125))]),LO 127 (.app 3 56 (LT 110) (LT 126)),LM 10 127])) (.cV [LM 108 11,LO 109 (.bin .add (LT 108) (LI 1)),LM 11 109])))
def Ep:aE:=(LS [LO 2 (.mv (.const (.slice none 0 0))),LO 3 (.mv LF)] (LS [LM 12 0,LO 13 (.len (LT 12)),LM 4 13] (.seq (LS [LO 5 (.mv (LI 0))] (.block 0 (.loop xO))) (LS [LO 104 (.lit [(.bool false),(.slice none 0 0),(.slice none 0 0)] 0 []),LM 10 104] (.seq (LS [LO 11 (.mv (LI 0))] (.block 8 (.loop yF))) (LS [LM 128 10,LM 2 128,LO 3 (.mv LG)] .ret))))))
def HL:aU:=⟨129,[(.tmp 2),(.tmp 3)],Ep⟩
theorem MM:fQ 134=some HL:=by kernel_rfl
def FB:aE:=(LS [LM 7 0,LM 8 1,LO 9 (.iaddr 1 (LT 7) (LT 8)),LO 10 (LL 9),LM 6 10] (LS [LM 11 0,LM 12 1,LM 13 0,LM 14 2,LO 15 (.iaddr 1 (LT 13) (LT 14)),LO 16 (LL 15),LO 17 (.iaddr 1 (LT 11) (LT 12)),LN (.store 1 (LT 17) (LT 16))] (.cV [LM 18 0,LM 19 2,LM 20 6,LO 21 (.iaddr 1 (LT 18) (LT 19)),LN (.store 1 (LT 21) (LT 20))])))
def JV:aU:=⟨22,[],FB⟩
theorem OS:fQ 179=some JV:=by kernel_rfl
end Go.PM
namespace Go.PM
open Go.Lib
theorem Pv (x:List Rat):(aB (aC aN x)).length=1:=rfl
theorem aeL (m:List (List Rat)):aX (aC (aC aN) m)=true:=mN Pv rL
theorem ajK (m:List (List Rat)):gW (aC (aC aN) m)=true:=zC Pv Gi fun _=>rfl
end Go.PM
namespace Go.PM
def Bq:aE:=(LS [LO 1 (.box (LT 0)),LO 2 (.mv (.const (.string ⟨#[]⟩))),LO 3 (.mv LF)] (LS [LO 7 (LK 1),LO 8 (.call 171 [(LT 7)]),LM 6 8,LO 9 (LX 6 0),LO 10 (LX 6 1),LM 4 9,LM 5 10] (.seq (LS [LM 11 5,LO 12 (.un .not (LT 11))] (.cond (LT 12) (LS [LO 2 (.mv (.const (.string ⟨#[]⟩))),LO 3 (.mv LF)] .ret) .skip)) (LS [LM 13 4,LM 2 13,LO 3 (.mv LG)] .ret))))
def DZ:aU:=⟨14,[(.tmp 2),(.tmp 3)],Bq⟩
theorem Pl:fQ 112=some DZ:=by kernel_rfl
end Go.PM
namespace Go.PM
end Go.PM
namespace Go.PM
open Go.Lib
theorem axU {b g j o e:Nat} {H:aA} {es:List VV} {w:Bool} {x x':VV} (h:aG H b g=some (es,e,w)) (hx:es[j]? = some x) (hf:PM.fz 7 H x=some x'):PM.fz depth H (.ptr b g j o)=some (x'.cF o):=by
 show PM.fz (7+1) H _=_
 unfold PM.fz
 have:aX (.ptr b g j o)=false:=rfl
 simp[this,h,hx,hf]
theorem OB (q:Rat) (hk:aM q≤1099511627776):TC 112 [aN q] (Am q):=by
 refine TC.walk ⟨true,false⟩ Pl rfl (aL9 rfl) (FR (AY _)) (Gy q) ?_
 have e1:=OD q hk
 unfold Am at e1 ⊢
 by_cases h:C2 q=true
 ·rw[if_pos h] at e1 ⊢
  simp only[DZ,Bq,e1,bQ,gM,cJ,aQ,bB,aW,fT,Nat.reduceLeDiff,Nat.reduceLT,Nat.reduceSub,nH,cB,cN,gO,lQ,pT,bne_iff_ne,ne_eq,not_false_eq_true,not_true_eq_false,VX,Nat.reduceEqDiff,Nat.reduceAdd]
  exact aH rfl
 ·rw[if_neg h] at e1 ⊢
  simp only[DZ,Bq,e1,bQ,gM,cJ,aQ,bB,aW,fT,Nat.reduceLeDiff,Nat.reduceLT,Nat.reduceSub,nH,cB,cN,gO,lQ,pT,bne_iff_ne,ne_eq,not_false_eq_true,not_true_eq_false,VX,Nat.reduceEqDiff,Nat.reduceAdd]
  exact aH rfl
end Go.PM
namespace Go.PM
open Go.Lib
end Go.PM