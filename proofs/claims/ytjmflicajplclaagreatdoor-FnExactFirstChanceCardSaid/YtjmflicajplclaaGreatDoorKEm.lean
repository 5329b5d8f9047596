/- Texts of a claim, in one: part 13. -/
import Derived.Test.YtjmflicajplclaaGreatDoorKEl
open And renaming intro → aMU
open Bool renaming and_self → aMC
open Int renaming toNat_natCast → aMA
open List renaming all_eq_true → aLs,cons_append → aME,findIdx?_eq_none_iff → aOp,findIdx?_eq_some_iff_getElem → aOq,getD_eq_getElem?_getD → aLb,getElem?_cons_succ → aMY,getElem?_cons_zero → aLy,getElem?_eq_getElem → aLl,getElem_mem → aLr,length → aN9,length_append → aLp,length_cons → aLo,length_drop → aNE,length_eq_zero_iff → aOn,length_map → aMV,length_nil → aMR,length_pos_iff → aNM,length_set → aNt,mapM_cons → aMB,map_set → aOH,mem_append → aMa,mem_cons_of_mem → aLN,mem_of_getElem? → aL8,mem_of_mem_drop → aMc,mem_of_mem_take → aMb,mem_singleton → aMk,nil_append → aMw,take_add_one → aM4,take_append_drop → aMn,take_length → aMr,take_of_length_le → aL7,take_zero → aOl
open Nat renaming add_zero → aNq,gcd → aNN,le_of_ble_eq_true → aM2,le_of_lt → aLV,le_refl → aLe,le_trans → aLf,lt_of_lt_of_le → aLg,mod_lt → aLG,mul_comm → aMG,mul_le_mul → aNw,mul_le_mul_right → aLF,pow_le_pow_right → aNh,sub_zero → aOI,succ_mul → aL3,zero_add → aMM,zero_le → aLI,zero_lt_one → aOo
open Rat renaming le_refl → aOu
set_option linter.unusedSimpArgs false
set_option linter.unusedVariables false
namespace Go.PM
open Go.Lib
def dN (s:rV):Option (List Rat×List (List Rat)×List Rat):=if (1≤s.b.length∧s.b.length≤6)∧s.g.length=s.b.length∧s.e.length=s.b.length then
  match mT s.b,tC s.e with
  | some w,some r=>if (r.any fun q=>decide (q<0))=false then (iT s.g s.b.length).map fun m=>(w,m,r) else none
  | _,_=>none
 else none
def B2 (x:List Rat×List (List Rat)×List Rat):Bool:=(oS x.2.1 x.2.2 x.2.2.length x.2.2.length).all id
def ZY:VV := .agg [.tree [] .op,.tree [] .op,.tree [] .op]
def Pr (s:rV):VV:=match dN s with
 | some x => .eH [CA aG x.1 x.2.1 x.2.2,VB (B2 x)]
 | none => .eH [ZY,VB false]
theorem Rx (b:List Rat) (g:List (List Rat)) (e:List Rat):aY (CA aG b g e)=true:=by
 show aO [aC aG b,aC (aC aG) g,aC aG e]=true
 simp only[aO,gN,Jk,aMC]
theorem UF (b:List Rat) (g:List (List Rat)) (e:List Rat):gV (CA aG b g e)=true:=by
 show rE [aC aG b,aC (aC aG) g,aC aG e]=true
 simp only[rE,GK,auH,aMC]
theorem amV (s:rV):gV (Pr s)=true:=by
 unfold Pr
 split
 ·exact zU (UF _ _ _) rfl
 ·exact zU (by decide) rfl
theorem I6 {s:rV} {x:List Rat×List (List Rat)×List Rat} (h:dN s=some x):(1≤x.1.length∧x.1.length≤6)∧x.2.1.length=x.1.length∧x.2.2.length=x.1.length∧jT x.1=true∧(∀q∈x.1,aL q≤665)∧(∀r∈x.2.1,r.length=x.1.length∧∀q∈r,0≤q∧aL q≤665)∧(∀q∈x.2.2,0≤q∧aL q≤665):=by
 unfold dN at h
 split at h
 ·rename_i hl
  split at h
  ·rename_i w r h1 h2
   split at h
   ·rename_i mG
    obtain⟨m,hm,rfl⟩:=Option.map_eq_some_iff.1 h
    obtain⟨k1,k2⟩:=QC h1
    obtain⟨b1,_,b3⟩:=mY k1
    obtain⟨c1,_,c3⟩:=mY h2
    obtain⟨d1,d2⟩:=uG hm
    refine⟨by simp only;omega,by simp only;omega,by simp only;omega,k2,b1,fun r hr=>⟨by have:=(d2 r hr).1;simp only;omega,(d2 r hr).2⟩,fun q hq=>⟨?_,c1 q hq⟩⟩
    have:=List.any_eq_false.1 mG q hq
    exact Rat.not_lt.1 (by simpa using this)
   ·cases h
  ·cases h
 ·cases h
theorem G6 (bs:List Bool) (b:Bool) (hn:bs.length≤1000000):TC 213 [aC (fun b=>VB b) bs,VB b] (VI (match bs.findIdx? (· == b) with | some i=>(i:Int) | none => -1)):=by
 refine TC.walk ⟨true,false⟩ AF rfl (aM2 rfl) (CE (Mx _) rfl) rfl ?_
 simp only[tB,qT,eO,VX,Nat.reduceEqDiff,Nat.reduceAdd,Nat.reduceLeDiff,Nat.reduceLT,Nat.reduceSub]
 refine aN (fun(i:Nat) ρ H=>i≤bs.length∧H=[]∧(∀x∈bs.take i,(x == b)=false)∧ρ 0=aC (fun b=>VB b) bs∧ρ 1=VB b∧ρ 7=VI bs.length∧ρ 8=VI i) (fun i=>bs.length-i) 0 ⟨aLI _,rfl,by simp,rfl,rfl,rfl,rfl⟩ ?_
 rintro i ρ H ⟨hi,rfl,ht,g0,g1,g7,g8⟩
 by_cases bX:(i:Int)<(bs.length:Int)
 ·obtain⟨x,hx⟩:∃x,bs[i]? = some x:=⟨_,aLl (by omega)⟩
  have a1:=fun H=>aF (f:=fun b=>VB b) (t := .op) (H:=H) (size:=1) (k := .i64) hx rfl
  have wi:IntKind.i64.wrap ((i:Int)+1)=((i+1:Nat):Int):=wrapN (i+1) (by omega) (by omega)
  by_cases hxb:(x == b)=true
  ·have hf:bs.findIdx? (· == b)=some i:=by
    rw[aOq]
    refine⟨by omega,by rw[List.getElem?_eq_some_iff] at hx;obtain⟨h1,h2⟩:=hx;rw[h2];exact hxb,fun j hj => ?_⟩
    have:=ht bs[j] (List.mem_take_iff_getElem.2 ⟨j,by omega,rfl⟩)
    simpa using this
   have e1:NZ false (.bool b) (.bool x)=some (.bool true):=by
    have:x=b:=by simpa using hxb
    subst this
    cases x<;>rfl
   rw[hf]
   simp only[gG,g0,g1,g7,g8,bX,a1,e1,eO,VX,Nat.reduceEqDiff,Nat.reduceAdd,Nat.reduceLeDiff,Nat.reduceLT,Nat.reduceSub]
   exact aK rfl
  ·have e1:NZ false (.bool b) (.bool x)=some (.bool false):=by
    cases x<;>cases b<;>first | rfl | exact absurd rfl hxb
   simp only[gG,g0,g1,g7,g8,bX,a1,e1,wi,eO,VX,Nat.reduceEqDiff,Nat.reduceAdd,Nat.reduceLeDiff,Nat.reduceLT,Nat.reduceSub]
   refine⟨i+1,by omega,by omega,fun y hy => ?_,by (repeat' apply aMU)<;>first | rfl | trivial | assumption⟩
   rw[sZ hx] at hy
   rcases aMa.1 hy with h | h
   ·exact ht y h
   ·rw[aMk] at h
    subst h
    simpa using hxb
 ·have mZ:i=bs.length:=by omega
  subst mZ
  rw[aMr] at ht
  have hf:bs.findIdx? (· == b)=none:=by
   rw[aOp]
   exact ht
  rw[hf]
  simp only[gG,g7,g8,bX,eO,VX,Nat.reduceEqDiff,Nat.reduceAdd,Nat.reduceLeDiff,Nat.reduceLT,Nat.reduceSub]
  exact aK rfl
theorem Em (bs:List Bool) (hn:bs.length≤1000000):TC 194 [aC (fun b=>VB b) bs,VB false] (VB (!bs.all id)):=by
 refine TC.walk ⟨true,false⟩ yF rfl (aM2 rfl) (CE (Mx _) rfl) rfl ?_
 have e1:=G6 bs false hn
 cases hf:bs.findIdx? (· == false) with
 |
  none =>
  rw[hf] at e1
  have ha:bs.all id=true:=by
   rw[aOp] at hf
   rw[aLs]
   intro x hx
   have:=hf x hx
   cases x<;>first | rfl | cases this
  have g:¬(0:Int) ≤ -1:=by decide
  rw[ha]
  simp only[kK,jC,e1,g,ge_iff_le,Int.reduceNeg,Bool.not_true,eO,VX,Nat.reduceEqDiff,Nat.reduceAdd,Nat.reduceLeDiff,Nat.reduceLT,Nat.reduceSub]
  exact aK rfl
 |
  some i =>
  rw[hf] at e1
  have ha:bs.all id=false:=by
   rw[aOq] at hf
   obtain⟨h1,h2,_⟩:=hf
   cases kV:bs.all id with
   | false=>rfl
   |
    true =>
    have:=aLs.1 kV bs[i] (aLr h1)
    simp only[id] at this
    rw[this] at h2
    cases h2
  have g:(0:Int)≤(i:Int):=by omega
  rw[ha]
  simp only[kK,jC,e1,g,ge_iff_le,Bool.not_false,eO,VX,Nat.reduceEqDiff,Nat.reduceAdd,Nat.reduceLeDiff,Nat.reduceLT,Nat.reduceSub]
  exact aK rfl
def Xb (B E:VV) (i:Nat) (out:List (List Rat)):aA:=match i with
 | 0=>[dI,.row 0 [.agg [B,.tree [] .nil,E]] 3 true]
 | i+1=>[dI,.row 0 [.agg [B,.ref 2 i 0 (i+1) (i+1),E]] 3 true,.row i (out.map (aC aG)) 1 true]
theorem atH {H:aA}:PM.fz depth H (.eH [.agg [.tree [] .nil,.tree [] .nil,.tree [] .nil],VB false])=some (.eH [ZY,VB false]):=by
 refine bN (d:=6) (Gv (d:=5) ?_) (aM (v:=VB false) rfl)
 rw[aMB,Ch,aMB,Ch,aMB,Ch]
 rfl
set_option maxHeartbeats 4000000 in
theorem DA (s:rV) (hb:LR s):TC 176 [tX s] (Pr s):=by
 refine TC.walk ⟨true,false⟩ KL rfl (aM2 rfl) (Lx (jN _)) (amV _) ?_
 have yW:=hb.b4
 have hel:=hb.e4
 have bad:dN s=none→∀K,PM.fz depth K (.eH [.agg [.tree [] .nil,.tree [] .nil,.tree [] .nil],VB false])=some (Pr s):=fun h K=>by
  have:Pr s = .eH [ZY,VB false]:=by unfold Pr;rw[h]
  rw[this]
  exact atH
 have IW:∀K:aA,bM 0 3 (.ptr 0 0 0 0) (.agg [.tree [] .nil,.tree [] .nil,.tree [] .nil]) (dI::K)=some (dI::K):=fun K=>by
  unfold dI
  rw[bS (e:=3) aQ (by exact aOo) (aLe _) rfl rfl]
  rfl
 have Ti:∀K:aA,bG true 3 (.ptr 0 0 0 0) (dI::K)=some (.agg [.tree [] .nil,.tree [] .nil,.tree [] .nil]):=fun K=>by
  rw[bJ,aQ]
  rfl
 by_cases h1:(s.b.length:Int)<1
 ·have bad:=bad (by unfold dN;exact if_neg (by omega))
  simp only[fZ,dY,tX,h1,IW,Ti,dV,aLy,aMY,aMM,aMw,aMR,eO,VX,Nat.reduceEqDiff,Nat.reduceAdd,Nat.reduceLeDiff,Nat.reduceLT,Nat.reduceSub]
  exact bad _
 by_cases h6:(6:Int)<(s.b.length:Int)
 ·have bad:=bad (by unfold dN;exact if_neg (by omega))
  simp only[fZ,dY,tX,h1,h6,IW,Ti,dV,aLy,aMY,aMM,aMw,aMR,eO,VX,Nat.reduceEqDiff,Nat.reduceAdd,Nat.reduceLeDiff,Nat.reduceLT,Nat.reduceSub]
  exact bad _
 by_cases hg:(s.g.length:Int)=(s.b.length:Int)
 case neg =>
  have bad:=bad (by unfold dN;exact if_neg (by omega))
  simp only[fZ,dY,tX,h1,h6,hg,IW,Ti,dV,aLy,aMY,aMM,aMw,aMR,ne_eq,not_false_eq_true,decide_true,eO,VX,Nat.reduceEqDiff,Nat.reduceAdd,Nat.reduceLeDiff,Nat.reduceLT,Nat.reduceSub]
  exact bad _
 by_cases he:(s.e.length:Int)=(s.b.length:Int)
 case neg =>
  have bad:=bad (by unfold dN;exact if_neg (by omega))
  simp only[fZ,dY,tX,h1,h6,hg,he,IW,Ti,dV,aLy,aMY,aMM,aMw,aMR,ne_eq,not_false_eq_true,not_true_eq_false,decide_true,decide_false,eO,VX,Nat.reduceEqDiff,Nat.reduceAdd,Nat.reduceLeDiff,Nat.reduceLT,Nat.reduceSub]
  exact bad _
 have uX:(1≤s.b.length∧s.b.length≤6)∧s.g.length=s.b.length∧s.e.length=s.b.length:=by omega
 have e1:=KP s.b (by omega) hb.bs
 have e2:=Fq s.e (by omega) hb.es
 cases hw:mT s.b with
 |
  none =>
  rw[hw,sD] at e1
  have bad:=bad (by unfold dN;rw[if_pos uX,hw])
  cases hr:tC s.e with
  |
   none =>
   rw[hr,sD] at e2
   simp only[fZ,dY,tX,h1,h6,hg,he,e1,e2,IW,Ti,dV,aLy,aMY,aMM,aMw,aMR,ne_eq,not_true_eq_false,decide_false,eO,VX,Nat.reduceEqDiff,Nat.reduceAdd,Nat.reduceLeDiff,Nat.reduceLT,Nat.reduceSub]
   exact bad _
  |
   some r =>
   rw[hr,xU] at e2
   simp only[fZ,dY,tX,h1,h6,hg,he,e1,e2,IW,Ti,dV,aLy,aMY,aMM,aMw,aMR,ne_eq,not_true_eq_false,decide_false,eO,VX,Nat.reduceEqDiff,Nat.reduceAdd,Nat.reduceLeDiff,Nat.reduceLT,Nat.reduceSub]
   exact bad _
 |
  some w =>
  rw[hw,xU] at e1
  cases hr:tC s.e with
  |
   none =>
   rw[hr,sD] at e2
   have bad:=bad (by unfold dN;rw[if_pos uX,hw,hr])
   simp only[fZ,dY,tX,h1,h6,hg,he,e1,e2,IW,Ti,dV,aLy,aMY,aMM,aMw,aMR,ne_eq,not_true_eq_false,decide_false,eO,VX,Nat.reduceEqDiff,Nat.reduceAdd,Nat.reduceLeDiff,Nat.reduceLT,Nat.reduceSub]
   exact bad _
  |
   some r =>
   rw[hr,xU] at e2
   obtain⟨BW,B7,aeM⟩:=mY hr
   have e3:=mE r 67 (fun q=>decide (q<0)) (fun q _=>BJ q) (by omega)
   cases Ai:r.any (fun q=>decide (q<0)) with
   |
    true =>
    rw[Ai] at e3
    have bad:=bad (by unfold dN;rw[if_pos uX,hw,hr];exact if_neg (by rw[Ai];decide))
    simp only[fZ,dY,tX,h1,h6,hg,he,e1,e2,e3,IW,Ti,dV,aLy,aMY,aMM,aMw,aMR,ne_eq,not_true_eq_false,decide_false,eO,VX,Nat.reduceEqDiff,Nat.reduceAdd,Nat.reduceLeDiff,Nat.reduceLT,Nat.reduceSub]
    exact bad _
   |
    false =>
    rw[Ai] at e3
    have Cw:dN s=(iT s.g s.b.length).map fun m=>(w,m,r):=by unfold dN;rw[if_pos uX,hw,hr];exact if_pos Ai
    have s1:bM 0 3 (.ptr 1 0 0 0) (.agg [aC aG w,.tree [] .nil,aC aG r]) [dI,dI]=some [dI,.row 0 [.agg [aC aG w,.tree [] .nil,aC aG r]] 3 true]:=by
     rw[bS (e:=3) (g:=0) (j:=0) (cL.trans aQ) (by exact aOo) (by omega) rfl rfl]
     rfl
    simp only[fZ,dY,tX,h1,h6,hg,he,e1,e2,e3,s1,dV,aLy,aMY,aMM,aMw,aMR,aLo,aME,ne_eq,not_true_eq_false,decide_false,eO,VX,Nat.reduceEqDiff,Nat.reduceAdd,Nat.reduceLeDiff,Nat.reduceLT,Nat.reduceSub]
    refine aN (fun(i:Nat) ρ H=>i≤s.b.length∧(∃out,iT s.g i=some out∧H=Xb (aC aG w) (aC aG r) i out)∧ρ 2 = .ptr 0 0 0 0∧ρ 4=VI s.b.length∧ρ 7=aC aG r∧ρ 9 = .ptr 1 0 0 0∧ρ 65=aC gJ s.g∧ρ 66=VI s.b.length∧ρ 67=VI i) (fun i=>s.b.length-i) 0
     ⟨aLI _,⟨[],rfl,rfl⟩,by (repeat' apply aMU)<;>first | rfl | trivial | assumption⟩ ?_
    rintro i ρ H ⟨hi,⟨out,wZ,rfl⟩,g2,g4,g7,g9,g65,g66,g67⟩
    obtain⟨hJ,hof⟩:=uG wZ
    by_cases bX:(i:Int)<(s.b.length:Int)
    ·obtain⟨x,hx⟩:∃x,s.g[i]? = some x:=⟨_,aLl (by omega)⟩
     have hxm:=aL8 hx
     have hgd:s.g.getD i []=x:=by rw[aLb,hx];rfl
     have a1:=fun H=>aF (f:=gJ) (t := .op) (H:=H) (size:=1) (k := .i64) hx rfl
     have wi:IntKind.i64.wrap ((i:Int)+1)=((i+1:Nat):Int):=wrapN (i+1) (by omega) (by omega)
     have e4:=Fq x (hb.g9.2 x hxm) (hb.gs x hxm)
     have xI:iT s.g (i+1)=match iK s.g.length i x with | some q=>some (out++[q]) | none=>none:=by
      rw[iT,wZ,hgd]
      cases iK s.g.length i x<;>rfl
     have bad:iK s.g.length i x=none→∀K,PM.fz depth K (.eH [.agg [.tree [] .nil,.tree [] .nil,.tree [] .nil],VB false])=some (Pr s):=fun h=>by
      rw[h] at xI
      exact bad (by rw[Cw,DX xI s.b.length (by omega)];rfl)
     have arJ:∀i,bM 0 3 (.ptr 0 0 0 0) (.agg [.tree [] .nil,.tree [] .nil,.tree [] .nil]) (Xb (aC aG w) (aC aG r) i out)=some (Xb (aC aG w) (aC aG r) i out):=fun i=>by cases i<;>exact IW _
     have aqR:∀i,bG true 3 (.ptr 0 0 0 0) (Xb (aC aG w) (aC aG r) i out)=some (.agg [.tree [] .nil,.tree [] .nil,.tree [] .nil]):=fun i=>by cases i<;>exact Ti _
     cases HS:tC x with
     |
      none =>
      rw[HS,sD] at e4
      have bad:=bad (by unfold iK;rw[HS])
      simp only[fR,g2,g4,g65,g66,g67,bX,a1,e4,arJ,aqR,eO,VX,Nat.reduceEqDiff,Nat.reduceAdd,Nat.reduceLeDiff,Nat.reduceLT,Nat.reduceSub]
      exact bad _
     |
      some y =>
      rw[HS,xU] at e4
      obtain⟨hyb,hyl,_⟩:=mY HS
      by_cases hl:(y.length:Int)=(s.b.length:Int)
      case neg =>
       have bad:=bad (by unfold iK;rw[HS];exact if_neg (fun h=>hl (by omega)))
       simp only[fR,g2,g4,g65,g66,g67,bX,a1,e4,hl,arJ,aqR,ne_eq,not_false_eq_true,decide_true,eO,VX,Nat.reduceEqDiff,Nat.reduceAdd,Nat.reduceLeDiff,Nat.reduceLT,Nat.reduceSub]
       exact bad _
      have e5:=mE y 67 (fun q=>decide (q<0)) (fun q _=>BJ q) (by omega)
      cases JQ:y.any (fun q=>decide (q<0)) with
      |
       true =>
       rw[JQ] at e5
       have bad:=bad (by unfold iK;rw[HS];exact if_neg (fun h=>by rw[JQ] at h;cases h.2.1))
       simp only[fR,g2,g4,g65,g66,g67,bX,a1,e4,e5,hl,arJ,aqR,ne_eq,not_true_eq_false,decide_false,eO,VX,Nat.reduceEqDiff,Nat.reduceAdd,Nat.reduceLeDiff,Nat.reduceLT,Nat.reduceSub]
       exact bad _
      |
       false =>
       rw[JQ] at e5
       obtain⟨q,hq⟩:∃q,y[i]? = some q:=⟨_,aLl (by omega)⟩
       have hqd:y.getD i 0=q:=by rw[aLb,hq];rfl
       have a2:=fun H=>aF (f:=aG) (t := .op) (H:=H) (size:=3) (k := .i64) hq rfl
       have e6:=dL q
       by_cases hz:jH q=0
       case neg =>
        have bad:=bad (by unfold iK;rw[HS];exact if_neg (fun h=>hz (zO.2 (by rw[←hqd];exact h.2.2))))
        simp only[fR,g2,g4,g65,g66,g67,bX,a1,a2,e4,e5,e6,hl,hz,arJ,aqR,bK,ne_eq,not_true_eq_false,not_false_eq_true,decide_false,decide_true,eO,VX,Nat.reduceEqDiff,Nat.reduceAdd,Nat.reduceLeDiff,Nat.reduceLT,Nat.reduceSub]
        exact bad _
       have mA:iK s.g.length i x=some y:=by unfold iK;rw[HS];exact if_pos ⟨by omega,JQ,by rw[hqd,zO.1 hz]⟩
       rw[mA] at xI
       have eL:∀K,nT false [.slice none 0 0] 1 [(0,aC aG y)] K=some (.tree [aC aG y] (.cl 1),K):=fun K=>lO rfl rfl rfl
       have eS:∀K,dG 1 (.tree [aC aG y] (.cl 1)) K=some [aC aG y]:=fun K=>gR rfl rfl
       cases i with
       |
        zero =>
        have ho:out=[]:=aOn.1 hJ
        subst ho
        have eP:∀K:aA,dK 0 1 24 (.tree [] .nil) [aC aG y] K=some (.ref K.length 0 0 1 1,K++[.row 0 [aC aG y] 1 true]):=fun K=>by simp[dK]
        simp only[fR,Xb,g2,g4,g9,g65,g66,g67,bX,a1,a2,e4,e5,e6,hl,hz,eL,eS,eP,wi,bK,ne_eq,not_true_eq_false,decide_false,aLo,aMR,aME,aMw,gC,Nat.reduceLeDiff,Nat.reduceLT,Nat.reduceSub,mX,cA,cM,gB,lB,pT,bne_iff_ne,ne_eq,not_false_eq_true,not_true_eq_false,VX,Nat.reduceEqDiff,Nat.reduceAdd]
        exact⟨1,by omega,by omega,⟨[y],xI,rfl⟩,by (repeat' apply aMU)<;>first | rfl | trivial | assumption⟩
       |
        succ i =>
        have eP:dK 0 1 24 (.ref 2 i 0 (i+1) (i+1)) [aC aG y] (Xb (aC aG w) (aC aG r) (i+1) out)=some (.ref 2 (i+1) 0 (i+2) (i+2),[dI,.row 0 [.agg [aC aG w,.ref 2 i 0 (i+1) (i+1),aC aG r]] 3 true,.row (i+1) ((out++[y]).map (aC aG)) 1 true]):=by
         rw[Xb,jK (f:=aC aG) (xs:=out) (by rw[cL,cL,aQ]) hJ.symm (aLI _) (by decide) (by decide) (by omega)]
         rfl
        simp only[Xb] at eP
        simp only[fR,Xb,g2,g4,g9,g65,g66,g67,bX,a1,a2,e4,e5,e6,hl,hz,eL,eS,eP,wi,bK,ne_eq,not_true_eq_false,decide_false,gC,Nat.reduceLeDiff,Nat.reduceLT,Nat.reduceSub,mX,cA,cM,gB,lB,pT,bne_iff_ne,ne_eq,not_false_eq_true,not_true_eq_false,VX,Nat.reduceEqDiff,Nat.reduceAdd]
        exact⟨i+2,by omega,by omega,⟨out++[y],xI,rfl⟩,by (repeat' apply aMU)<;>first | rfl | trivial | assumption⟩
    ·have mZ:i=s.b.length:=by omega
     rw[mZ] at wZ hJ
     obtain⟨k,hk⟩:∃k,s.b.length=k+1:=⟨s.b.length-1,by omega⟩
     have alI:Pr s = .eH [CA aG w out r,VB (B2 (w,out,r))]:=by unfold Pr;rw[Cw,wZ];rfl
     rw[alI]
     have aCH:r.length=s.b.length:=by omega
     have Uj:i=k+1:=by omega
     subst Uj
     have hE:=Tc (g:=out) (e:=r) (n:=r.length) (by omega) (by omega) (fun z hz=>by have:=(hof z hz).1;omega) rfl
     have QT:aJ (Xb (aC aG w) (aC aG r) (k+1) out) 2 k=some (out.map (aC aG),1,true):=by rw[Xb,cL,cL,aQ]
     have aiE:=Gf (d:=6) (c:=k+1) (gN ·) QT (by omega)
     rw[hJ,hk] at aiE
     have hE2:=fun lo K=>TC.DM (lo:=lo) (k:=K) (H:=Xb (aC aG w) (aC aG r) (k+1) out) (args:=[.ref 2 k 0 (k+1) (k+1),aC aG r]) hE rfl (CE (Jk _) (gN _)) (fz2 aiE (aK (gN _))) rfl
     have aEE:[VV.ref 2 k 0 (k+1) (k+1),aC aG r].flatMap (iX depth (Xb (aC aG w) (aC aG r) (k+1) out))=[2]:=by
      rw[List.flatMap_cons,List.flatMap_cons,Kw QT (by rw[aMV];omega) (fO gN),Eh (gN _)]
      rfl
     have aAU:Jb (aC (fun b=>VB b) (oS out r r.length r.length))=false:=rfl
     rw[aEE] at hE2
     simp only[aAU,Bool.false_eq_true,if_false] at hE2
     have hfr:dB (Xb (aC aG w) (aC aG r) (k+1) out) [2]=[dI,.row 0 [.agg [aC aG w,.ref 2 k 0 (k+1) (k+1),aC aG r]] 3 true,.row k (out.map (aC aG)) 1 false]:=rfl
     rw[hfr] at hE2
     have hC:=Em (oS out r r.length r.length) (by rw[BD];omega)
     simp only[fR,Xb,g2,g7,g9,g66,g67,bX,dV,gC,Nat.reduceLeDiff,Nat.reduceLT,Nat.reduceSub,mX,cA,cM,gB,lB,pT,bne_iff_ne,ne_eq,not_false_eq_true,not_true_eq_false,VX,Nat.reduceEqDiff,Nat.reduceAdd]
     simp only[Xb] at hE2
     have st3:∀K:aA,bM 0 3 (.ptr 0 0 0 0) (.agg [aC aG w,.ref 2 k 0 (k+1) (k+1),aC aG r]) (dI::K)=some (.row 0 [.agg [aC aG w,.ref 2 k 0 (k+1) (k+1),aC aG r]] 3 true::K):=fun K=>by
      unfold dI
      rw[bS (e:=3) aQ (by exact aOo) (aLe _) rfl rfl]
      rfl
     have ZE:∀K:aA,bG true 3 (.ptr 0 0 0 0) (.row 0 [.agg [aC aG w,.ref 2 k 0 (k+1) (k+1),aC aG r]] 3 true::K)=some (.agg [aC aG w,.ref 2 k 0 (k+1) (k+1),aC aG r]):=fun K=>by
      rw[bJ,aQ]
      rfl
     simp only[hE2,hC,g2,st3,ZE,Bool.not_not,gC,Nat.reduceLeDiff,Nat.reduceLT,Nat.reduceSub,mX,cA,cM,gB,lB,pT,bne_iff_ne,ne_eq,not_false_eq_true,not_true_eq_false,VX,Nat.reduceEqDiff,Nat.reduceAdd]
     refine bN (d:=6) (Gv (d:=5) ?_) (aM (v:=VB _) rfl)
     have hf3:=Gf (d:=4) (c:=k+1) (b:=2) (g:=k) (w:=false) (H:=[.row 0 [.agg [aC aG w,.ref 2 k 0 (k+1) (k+1),aC aG r]] 3 true,.row 0 [.agg [aC aG w,.ref 2 k 0 (k+1) (k+1),aC aG r]] 3 true,.row k (out.map (aC aG)) 1 false]) (gN ·) (by rw[cL,cL,aQ]) (by omega)
     rw[hJ,hk] at hf3
     rw[aMB,aM (gN w),aMB,hf3,aMB,aM (gN r)]
     rfl
end Go.PM
namespace Go.PM
theorem xL.add {s:Int} {g:Nat} {a b:Rat} (ha:xL s g a) (hb:xL s g b):xL s (g+1) (a+b):=by
 obtain⟨M,m1,m2⟩:=ha
 obtain⟨N,n1,n2⟩:=hb
 refine⟨M+N,by rw[Rat.add_mul,m1,n1,Rat.intCast_add],?_⟩
 have:=Int.natAbs_add_le M N
 rw[Nat.pow_succ]
 omega
theorem xL.neg {s:Int} {g:Nat} {a:Rat} (ha:xL s g a):xL s g (-a):=by
 obtain⟨M,m1,m2⟩:=ha
 exact⟨-M,by rw[Rat.neg_mul,m1,Rat.intCast_neg],by rw[Int.natAbs_neg];exact m2⟩
theorem dQ.congr {h n:Nat} {X Y:Nat→Rat} (hX:dQ h n X) (he:∀i,i<n→X i=Y i):dQ h n Y:=by
 obtain⟨t,h1,h2,h3⟩:=hX
 exact⟨t,h1,h2,fun i hi=>by rw[←he i hi];exact h3 i hi⟩
abbrev G1:=List Rat×List (List Rat)×List Rat
def gE (g:List (List Rat)) (i j:Nat):Rat:=(g.getD i []).getD j 0
def eE (e:List Rat) (i:Nat):Rat:=e.getD i 0
def svU (x:G1) (r:Rat):Nat→Nat→Rat:=svA x.1.length (gE x.2.1) (eE x.2.2) r
structure yM (x:G1):Prop where
 n:1≤x.1.length∧x.1.length≤6
 g:x.2.1.length=x.1.length
 e:x.2.2.length=x.1.length
 w:jT x.1=true
 wb:∀q∈x.1,aL q≤665
 gr:∀r∈x.2.1,r.length=x.1.length∧∀q∈r,0≤q∧aL q≤665
 er:∀q∈x.2.2,0≤q∧aL q≤665
 gd:∀i,gE x.2.1 i i=0
 ok:B2 x=true
theorem wE {P:Rat→Prop} {u:List Rat} (h:∀q∈u,P q) (h0:P 0) (i:Nat):P (u.getD i 0):=by
 rw[aLb]
 cases hu:u[i]? with
 | none=>exact h0
 | some q=>exact h q (aL8 hu)
section
variable {x:G1} (hx:yM x)
include hx
theorem yM.vP {P:Rat→Prop} (h:∀q,0≤q∧aL q≤665→P q) (i j:Nat):P (gE x.2.1 i j):=by
 refine h _ ?_
 unfold gE
 have h0:(0:Rat)≤0∧aL 0≤665:=⟨aOu,by rw[nC];decide⟩
 rw[aLb (l:=x.2.1)]
 cases hr:x.2.1[i]? with
 | none=>exact wE (P:=fun q=>0≤q∧aL q≤665) (u:=[]) (fun q hq=>by cases hq) h0 j
 | some r=>exact wE (P:=fun q=>0≤q∧aL q≤665) (hx.gr r (aL8 hr)).2 h0 j
theorem yM.Am {P:Rat→Prop} (h:∀q,0≤q∧aL q≤665→P q) (i:Nat):P (eE x.2.2 i) :=
 h _ (wE (P:=fun q=>0≤q∧aL q≤665) hx.er ⟨aOu,by rw[nC];decide⟩ i)
theorem yM.aE8 {r:Rat} (hr:0≤r):Bh x.1.length (svU x r):=by
 refine UG (hx.vP fun q h=>h.1) (hx.Am fun q h=>h.1) hr fun S h1 h2 i hi hS => ?_
 have hno:=UA (g:=x.2.1) (e:=x.2.2) (n:=x.2.2.length) (S:=fun i=>i<x.1.length∧S i) (fun i j hi hj hg=>⟨by rw[←hx.e];exact hj,h1 i j hi.1 (by rw[←hx.e];exact hj) hi.2 hg⟩) (fun i hi h=>by
  have:=h2 i hi.1 hi.2
  unfold eE at this
  rw[this] at h
  exact absurd h (by decide)) x.2.2.length i ⟨hi,hS⟩
 have kV:=aLs.1 hx.ok
 have hlen:=BD x.2.1 x.2.2 x.2.2.length x.2.2.length
 obtain⟨v,vM⟩:∃v,(oS x.2.1 x.2.2 x.2.2.length x.2.2.length)[i]? = some v:=⟨_,aLl (by rw[hlen,hx.e];exact hi)⟩
 rw[aLb,vM,Option.getD_some] at hno
 have:=kV _ (aL8 vM)
 rw[hno] at this
 cases this
theorem yM.scaled {r:Rat} {K:Nat} (hK:K=43) (hr:aL r≤665):pR (K*665+9) x.1.length x.1.length (svU x r):=by
 obtain⟨s,h1,h2,h3⟩:=common (β:=665) (K:=K) (f:=fun k=>if k<36 then gE x.2.1 (k / 6) (k % 6) else if k<42 then eE x.2.2 (k-36) else r) fun k hk=>by
  split
  ·exact hx.vP (fun q h=>h.2) _ _
  ·split
   ·exact hx.Am (fun q h=>h.2) _
   ·exact hr
 have hn:=hx.n
 have kg:∀i j,i<6→j<6→xL s (K*665+1) (gE x.2.1 i j):=fun i j hi hj=>by
  have h:=h3 (i*6+j) (by omega)
  rw[if_pos (by omega)] at h
  have e1:(i*6+j) / 6=i:=by omega
  have e2:(i*6+j) % 6=j:=by omega
  rw[e1,e2] at h
  exact h
 have ke:∀i,i<6→xL s (K*665+1) (eE x.2.2 i):=fun i hi=>by
  have h:=h3 (36+i) (by omega)
  rw[if_neg (by omega),if_pos (by omega),show 36+i-36=i by omega] at h
  exact h
 have kr:xL s (K*665+1) r:=by
  have h:=h3 42 (by omega)
  rw[if_neg (by omega),if_neg (by omega)] at h
  exact h
 refine⟨s,h1,aLg h2 (aNh (by decide) (by omega)),fun i j hi hj => ?_⟩
 unfold svU svA
 have e:∀a b:Rat,a-b=a + -b:=fun a b=>Rat.sub_eq_add_neg a b
 rw[e]
 have amJ:xL s (K*665+5) (Sg (gE x.2.1 i) x.1.length):=xL.We (by omega) fun j hj=>kg i j (by omega) (by omega)
 have hd:xL s (K*665+8) (if j=i then Sg (gE x.2.1 i) x.1.length+eE x.2.2 i+r else 0):=by
  split
  ·exact((amJ.add ((ke i (by omega)).wide (by omega))).add (kr.wide (by omega))).wide (by omega)
  ·exact xL.zero
 exact(hd.add ((kg i j (by omega) (by omega)).neg.wide (by omega)))
theorem yM.step {γ:Nat} (hγ:γ=132000000) {r:Rat} (h0:0≤r) (hr:aL r≤665) {b:Nat→Rat} {h:Nat} (hb:dQ h x.1.length b):∃X,gT x.1.length (svU x r) b X∧dQ (h+γ) x.1.length X:=by
 have hn:=hx.n
 obtain⟨K,hK⟩:∃K,K=43:=⟨43,rfl⟩
 obtain⟨X,h1,h2⟩:=(hx.aE8 h0).Zv (hx.scaled hK hr) (by omega) b h hb
 refine⟨X,h1,h2.wide ?_⟩
 have e1:2^x.1.length≤2^6:=aNh (by decide) hn.2
 have e2:2^x.1.length*(K*665+9+1)≤2^6*(K*665+9+1):=aLF _ e1
 have e3:x.1.length*x.1.length≤6*6:=aNw hn.2 hn.2
 have e4:x.1.length*x.1.length*(2*(2^x.1.length*(K*665+9+1)))≤6*6*(2*(2^6*(K*665+9+1))):=aNw e3 (Nat.mul_le_mul_left _ e2)
 have e5:6*6*(2*(2^6*(K*665+9+1)))=4608*(K*665+10):=by rw[show (2:Nat)^6=64 by decide];omega
 omega
omit hx in
end
open Classical in
noncomputable def awO (n:Nat) (A:Nat→Nat→Rat) (b:Nat→Rat):Nat→Rat:=if h:∃X,gT n A b X then Classical.choose h else fun _=>0
theorem VG {n:Nat} {A:Nat→Nat→Rat} {b:Nat→Rat} (h:∃X,gT n A b X):gT n A b (awO n A b):=by
 unfold awO
 rw[dif_pos h]
 exact Classical.choose_spec h
theorem rz0:aL (0:Rat)≤665:=by rw[nC];decide
theorem alY {f:Nat→Rat} {B n:Nat} (h:∀i,i<n→aL (f i)≤B):∀m,m≤n→aL (Sg f m)≤m*(B+1)+1
 | 0,_=>by show aL 0≤_;rw[nC];omega
 |
  m+1,hm=>by
  have h1:=alY h m (by omega)
  have h2:=yS (Sg f m) (f m)
  have h3:=h m (by omega)
  rw[Sg,Nat.add_mul]
  omega
end Go.PM
namespace Go.PM
theorem oB {i j m:Nat} (hj:j<m):(i*m+j) % m=j:=by rw[aMG,Nat.mul_add_mod,Nat.mod_eq_of_lt hj]
theorem lW {i j m:Nat} (hj:j<m):(i*m+j) / m=i:=by rw[aMG,Nat.mul_add_div (by omega),Nat.div_eq_of_lt hj,aNq]
theorem wU {i j n m:Nat} (hi:i<n) (hj:j<m):i*m+j<n*m:=by
 have:=aLF m (show i+1≤n from hi)
 rw[aL3] at this
 omega
theorem SF (c m:Nat):c / m*m+c % m=c:=by rw[aMG];exact Nat.div_add_mod c m
theorem AR {c n m:Nat} (h:c<n*m):c / m<n:=Nat.div_lt_of_lt_mul (by rw[aMG];exact h)
theorem aiF (F:Nat→Rat) (a:Nat):∀b,Sg F (a+b)=Sg F a+Sg (fun j=>F (a+j)) b
 | 0=>by show Sg F a=Sg F a+0;grind
 | b+1=>by rw[←Nat.add_assoc,Sg,aiF F a b,Sg];grind
theorem SB (F:Nat→Rat) (m:Nat):∀n,Sg F (n*m)=Sg (fun i=>Sg (fun j=>F (i*m+j)) m) n
 | 0=>by rw[Nat.zero_mul];rfl
 | n+1=>by rw[aL3,aiF,SB F m n,Sg]
section
variable (x y:G1)
def pG (a c:Nat):Rat:=(if c % y.1.length=a % y.1.length then gE x.2.1 (a / y.1.length) (c / y.1.length) else 0)+(if c / y.1.length=a / y.1.length then gE y.2.1 (a % y.1.length) (c % y.1.length) else 0)
def pE (a:Nat):Rat:=eE x.2.2 (a / y.1.length)+eE y.2.2 (a % y.1.length)
def pN:Nat:=x.1.length*y.1.length
def pU:Nat→Nat→Rat:=svA (pN x y) (pG x y) (pE x y) 0
def pB (a:Nat):Rat:=eE x.2.2 (a / y.1.length)
noncomputable def pX:Nat→Rat:=awO (pN x y) (pU x y) (pB x y)
def pC (k:Nat):Rat:=x.1.getD (k / y.1.length) 0*y.1.getD (k % y.1.length) 0
noncomputable def No (k:Nat):Rat:=Sg (fun k=>pC x y k*pX x y k) k
theorem aiL {a:Nat} (ha:a<pN x y):Sg (pG x y a) (pN x y)=Sg (gE x.2.1 (a / y.1.length)) x.1.length+Sg (gE y.2.1 (a % y.1.length)) y.1.length:=by
 have Z7:a / y.1.length<x.1.length:=AR ha
 have hm:0<y.1.length:=by
  rcases Nat.eq_zero_or_pos y.1.length with h | h
  ·unfold pN at ha
   rw[h] at ha
   omega
  ·exact h
 have hr:a % y.1.length<y.1.length:=aLG _ hm
 unfold pG
 rw[YD]
 congr 1
 ·unfold pN
  rw[SB]
  refine fW fun i hi => ?_
  rw[IN (k:=a % y.1.length) hr fun j hj fN=>by rw[oB hj,if_neg fN]]
  rw[oB hr,if_pos rfl,lW hr]
 ·unfold pN
  rw[SB,IN (k:=a / y.1.length) Z7 fun i hi fN=>JY fun j hj=>by rw[lW hj,if_neg fN]]
  refine fW fun j hj => ?_
  rw[lW hj,if_pos rfl,oB hj]
end
theorem yM.noS {x:G1} (hx:yM x) {S:Nat→Prop} (h1:∀i j,i<x.1.length→j<x.1.length→S i→0<gE x.2.1 i j→S j) (h2:∀i,i<x.1.length→S i→eE x.2.2 i=0):∀i,i<x.1.length→¬S i:=fun i hi hS=>by
 have hno:=UA (g:=x.2.1) (e:=x.2.2) (n:=x.2.2.length) (S:=fun i=>i<x.1.length∧S i) (fun i j hi hj hg=>⟨by rw[←hx.e];exact hj,h1 i j hi.1 (by rw[←hx.e];exact hj) hi.2 hg⟩) (fun i hi h=>by
  have:=h2 i hi.1 hi.2
  unfold eE at this
  rw[this] at h
  exact absurd h (by decide)) x.2.2.length i ⟨hi,hS⟩
 have kV:=aLs.1 hx.ok
 have hlen:=BD x.2.1 x.2.2 x.2.2.length x.2.2.length
 obtain⟨v,vM⟩:∃v,(oS x.2.1 x.2.2 x.2.2.length x.2.2.length)[i]? = some v:=⟨_,aLl (by rw[hlen,hx.e];exact hi)⟩
 rw[aLb,vM,Option.getD_some] at hno
 have:=kV _ (aL8 vM)
 rw[hno] at this
 cases this
section
variable {x y:G1} (hx:yM x) (hy:yM y)
include hx hy
theorem aCI (a c:Nat):0≤pG x y a c:=by
 have h1:=hx.vP (P:=fun q=>0≤q) (fun q h=>h.1) (a / y.1.length) (c / y.1.length)
 have h2:=hy.vP (P:=fun q=>0≤q) (fun q h=>h.1) (a % y.1.length) (c % y.1.length)
 unfold pG
 split<;>split<;>grind
theorem aBs (a:Nat):0≤pE x y a:=by
 have h1:=hx.Am (P:=fun q=>0≤q) (fun q h=>h.1) (a / y.1.length)
 have h2:=hy.Am (P:=fun q=>0≤q) (fun q h=>h.1) (a % y.1.length)
 unfold pE
 grind
theorem ND:Bh (pN x y) (pU x y):=by
 refine UG (aCI hx hy) (aBs hx hy) aOu fun S h1 h2 a ha hS => ?_
 have hm:=hy.n.1
 have Z7:a / y.1.length<x.1.length:=AR ha
 have hr:a % y.1.length<y.1.length:=aLG _ hm
 have bH:∀i,i<x.1.length→i*y.1.length+a % y.1.length<pN x y:=fun i hi=>wU hi hr
 refine hx.noS (S:=fun i=>i<x.1.length∧S (i*y.1.length+a % y.1.length)) (fun i j hi hj hs hg=>⟨hj,h1 _ _ (bH i hi) (bH j hj) hs.2 ?_⟩) (fun i hi hs => ?_) (a / y.1.length) Z7 ⟨Z7,by rw[SF];exact hS⟩
 ·unfold pG
  rw[oB hr,oB hr,if_pos rfl,lW hr,lW hr]
  have h2:=hy.vP (P:=fun q=>0≤q) (fun q h=>h.1) (a % y.1.length) (a % y.1.length)
  split<;>grind
 ·have h3:=h2 _ (bH i hi) hs.2
  unfold pE at h3
  rw[lW hr,oB hr] at h3
  have h4:=hx.Am (P:=fun q=>0≤q) (fun q h=>h.1) i
  have h5:=hy.Am (P:=fun q=>0≤q) (fun q h=>h.1) (a % y.1.length)
  grind
theorem LJ {K:Nat} (hK:K=84):pR (K*665+10) (pN x y) (pN x y) (pU x y):=by
 obtain⟨s,h1,h2,h3⟩:=common (β:=665) (K:=K) (f:=fun k=>if k<36 then gE x.2.1 (k / 6) (k % 6) else if k<72 then gE y.2.1 ((k-36) / 6) ((k-36) % 6) else if k<78 then eE x.2.2 (k-72) else eE y.2.2 (k-78)) fun k hk=>by
  split
  ·exact hx.vP (fun q h=>h.2) _ _
  ·split
   ·exact hy.vP (fun q h=>h.2) _ _
   ·split
    ·exact hx.Am (fun q h=>h.2) _
    ·exact hy.Am (fun q h=>h.2) _
 have hn:=hx.n
 have hm:=hy.n
 have kgx:∀i j,i<6→j<6→xL s (K*665+1) (gE x.2.1 i j):=fun i j hi hj=>by
  have h:=h3 (i*6+j) (by omega)
  rw[if_pos (by omega)] at h
  have e1:(i*6+j) / 6=i:=by omega
  have e2:(i*6+j) % 6=j:=by omega
  rw[e1,e2] at h
  exact h
 have kgy:∀i j,i<6→j<6→xL s (K*665+1) (gE y.2.1 i j):=fun i j hi hj=>by
  have h:=h3 (36+(i*6+j)) (by omega)
  rw[if_neg (by omega),if_pos (by omega)] at h
  have e0:36+(i*6+j)-36=i*6+j:=by omega
  have e1:(i*6+j) / 6=i:=by omega
  have e2:(i*6+j) % 6=j:=by omega
  rw[e0,e1,e2] at h
  exact h
 have kex:∀i,i<6→xL s (K*665+1) (eE x.2.2 i):=fun i hi=>by
  have h:=h3 (72+i) (by omega)
  rw[if_neg (by omega),if_neg (by omega),if_pos (by omega),show 72+i-72=i by omega] at h
  exact h
 have key:∀i,i<6→xL s (K*665+1) (eE y.2.2 i):=fun i hi=>by
  have h:=h3 (78+i) (by omega)
  rw[if_neg (by omega),if_neg (by omega),if_neg (by omega),show 78+i-78=i by omega] at h
  exact h
 refine⟨s,h1,aLg h2 (aNh (by decide) (by omega)),fun a c ha hc => ?_⟩
 have a1:a / y.1.length<x.1.length:=AR ha
 have a2:a % y.1.length<y.1.length:=aLG _ hm.1
 have c1:c / y.1.length<x.1.length:=AR hc
 have c2:c % y.1.length<y.1.length:=aLG _ hm.1
 unfold pU svA
 rw[aiL x y ha,Rat.sub_eq_add_neg]
 have hG:xL s (K*665+2) (pG x y a c):=by
  unfold pG
  refine xL.add (g:=K*665+1) ?_ ?_
  ·split
   ·exact kgx _ _ (by omega) (by omega)
   ·exact xL.zero
  ·split
   ·exact kgy _ _ (by omega) (by omega)
   ·exact xL.zero
 have s1:xL s (K*665+5) (Sg (gE x.2.1 (a / y.1.length)) x.1.length):=xL.We (by omega) fun j hj=>kgx _ j (by omega) (by omega)
 have s2:xL s (K*665+5) (Sg (gE y.2.1 (a % y.1.length)) y.1.length):=xL.We (by omega) fun j hj=>kgy _ j (by omega) (by omega)
 have s3:xL s (K*665+2) (pE x y a):=(kex _ (by omega)).add (key _ (by omega))
 have hd:xL s (K*665+9) (if c=a then Sg (gE x.2.1 (a / y.1.length)) x.1.length+Sg (gE y.2.1 (a % y.1.length)) y.1.length+pE x y a+0 else 0):=by
  split
  ·exact(((s1.add s2).add (s3.wide (by omega))).add xL.zero).wide (by omega)
  ·exact xL.zero
 exact hd.add (hG.neg.wide (by omega))
set_option maxRecDepth 4000 in
theorem ajC {γ K:Nat} (hγ:γ=66000000000) (hK:K=12) (h12:pN x y≤12):gT (pN x y) (pU x y) (pB x y) (pX x y)∧dQ (K*665+1+γ) (pN x y) (pX x y):=by
 obtain⟨K8,hK8⟩:∃K,K=84:=⟨84,rfl⟩
 have hb:dQ (K*665+1) (pN x y) (pB x y):=(dQ.of (β:=665) (n:=pN x y) (f:=pB x y) fun k _=>hx.Am (P:=fun q=>aL q≤665) (fun q h=>h.2) _).wide (by have:=aLF 665 (show pN x y≤K by omega);omega)
 obtain⟨X,h1,h2⟩:=(ND hx hy).Zv (LJ hx hy hK8) (by omega) (pB x y) _ hb
 have h3:=VG ⟨X,h1⟩
 refine⟨h3,(h2.wide ?_).congr fun i hi=>(ND hx hy).uniq h1 h3 i hi⟩
 generalize hN:pN x y=N at *
 have e1:2^N≤2^12:=aNh (by decide) h12
 have e2:2^N*(K8*665+10+1)≤2^12*(K8*665+10+1):=aLF _ e1
 have e3:N*N≤12*12:=aNw h12 h12
 have e4:N*N*(2*(2^N*(K8*665+10+1)))≤12*12*(2*(2^12*(K8*665+10+1))):=aNw e3 (Nat.mul_le_mul_left _ e2)
 have e5:12*12*(2*(2^12*(K8*665+10+1)))=1179648*(K8*665+11):=by rw[show (2:Nat)^12=4096 by decide];omega
 omega
theorem arE (k:Nat):aL (pC x y k)≤1330:=by
 have h1:aL (x.1.getD (k / y.1.length) 0)≤665:=wE (P:=fun q=>aL q≤665) hx.wb rz0 _
 have h2:aL (y.1.getD (k % y.1.length) 0)≤665:=wE (P:=fun q=>aL q≤665) hy.wb rz0 _
 have h3:=oA (x.1.getD (k / y.1.length) 0) (y.1.getD (k % y.1.length) 0)
 unfold pC
 omega
set_option maxRecDepth 4000 in
theorem PN (h12:pN x y≤12) {k:Nat} (hk:k≤pN x y):aL (No x y k)≤800000000000:=by
 obtain⟨γ,hγ⟩:∃γ,γ=66000000000:=⟨66000000000,rfl⟩
 obtain⟨K,hK⟩:∃K,K=12:=⟨12,rfl⟩
 have hX:=(ajC hx hy hγ hK h12).2
 have h1:=alY (f:=fun k=>pC x y k*pX x y k) (B:=K*665+1+γ+1330) (n:=pN x y) (fun i hi=>by
  have h2:=oA (pC x y i) (pX x y i)
  have h3:=hX.bits hi
  have h4:=arE hx hy i
  omega) k hk
 have h2:k*(K*665+1+γ+1330+1)≤12*(K*665+1+γ+1330+1):=aLF _ (by omega)
 unfold No
 omega
end
section
variable {x y:G1}
def r1 (x y:G1) (i j k c:Nat):Rat:=if c % y.1.length=j∧c / y.1.length<k then 0-gE x.2.1 i (c / y.1.length) else 0
def r2 (x y:G1) (i j k c:Nat):Rat:=if c / y.1.length=i∧c % y.1.length<k then r1 x y i j x.1.length c-gE y.2.1 j (c % y.1.length) else r1 x y i j x.1.length c
theorem aAS {i j c:Nat}:(0:Rat)=r1 x y i j 0 c:=by unfold r1;rw[if_neg (fun h=>absurd h.2 (Nat.not_lt_zero _))]
theorem alN {i j k:Nat} (hj:j<y.1.length):r1 x y i j k (k*y.1.length+j)=0:=by unfold r1;rw[lW hj,if_neg (by omega)]
theorem alG {i j k c:Nat} (hj:j<y.1.length):(if c=k*y.1.length+j then 0-gE x.2.1 i k else r1 x y i j k c)=r1 x y i j (k+1) c:=by
 unfold r1
 by_cases h:c=k*y.1.length+j
 ·rw[if_pos h,h,oB hj,lW hj,if_pos ⟨rfl,by omega⟩]
 ·rw[if_neg h]
  have h2:¬(c % y.1.length=j∧c / y.1.length=k):=fun h3=>h (by rw[←h3.1,←h3.2,SF])
  by_cases h3:c % y.1.length=j∧c / y.1.length<k
  ·rw[if_pos h3,if_pos (by omega)]
  ·rw[if_neg h3,if_neg (by omega)]
theorem aBu {i j c:Nat}:r1 x y i j x.1.length c=r2 x y i j 0 c:=by unfold r2;rw[if_neg (fun h=>absurd h.2 (Nat.not_lt_zero _))]
theorem anX {i j k:Nat} (hk:k<y.1.length):r2 x y i j k (i*y.1.length+k)=r1 x y i j x.1.length (i*y.1.length+k):=by unfold r2;rw[oB hk,if_neg (by omega)]
theorem alS {i j k c:Nat} (hk:k<y.1.length):(if c=i*y.1.length+k then r1 x y i j x.1.length (i*y.1.length+k)-gE y.2.1 j k else r2 x y i j k c)=r2 x y i j (k+1) c:=by
 unfold r2
 by_cases h:c=i*y.1.length+k
 ·rw[if_pos h,h,oB hk,lW hk,if_pos ⟨rfl,by omega⟩]
 ·rw[if_neg h]
  have h2:¬(c / y.1.length=i∧c % y.1.length=k):=fun h3=>h (by rw[←h3.1,←h3.2,SF])
  by_cases h3:c / y.1.length=i∧c % y.1.length<k
  ·rw[if_pos h3,if_pos (by omega)]
  ·rw[if_neg h3,if_neg (by omega)]
theorem akQ {i j c:Nat} (hi:i<x.1.length) (hj:j<y.1.length) (hc:c<pN x y):(if c=i*y.1.length+j then r2 x y i j y.1.length (i*y.1.length+j)+((Sg (gE x.2.1 i) x.1.length+eE x.2.2 i)+(Sg (gE y.2.1 j) y.1.length+eE y.2.2 j)) else r2 x y i j y.1.length c)=pU x y (i*y.1.length+j) c:=by
 have hN:=wU hi hj
 have hc1:c / y.1.length<x.1.length:=AR hc
 have hc2:c % y.1.length<y.1.length:=aLG _ (by omega)
 have e1:r2 x y i j y.1.length c=0-pG x y (i*y.1.length+j) c:=by
  unfold r2 r1 pG
  rw[oB hj,lW hj]
  by_cases h1:c / y.1.length=i
  ·rw[if_pos ⟨h1,hc2⟩,if_pos h1]
   by_cases h2:c % y.1.length=j
   ·rw[if_pos ⟨h2,hc1⟩,if_pos h2];grind
   ·rw[if_neg (fun h=>h2 h.1),if_neg h2];grind
  ·rw[if_neg (fun h=>h1 h.1),if_neg h1]
   by_cases h2:c % y.1.length=j
   ·rw[if_pos ⟨h2,hc1⟩,if_pos h2];grind
   ·rw[if_neg (fun h=>h2 h.1),if_neg h2];grind
 unfold pU svA
 by_cases h:c=i*y.1.length+j
 ·rw[if_pos h,if_pos h,←h,e1,←h,h,aiL x y hN,oB hj,lW hj]
  unfold pE
  rw[oB hj,lW hj]
  grind
 ·rw[if_neg h,if_neg h,e1]
end
end Go.PM
namespace Go.PM
abbrev Qb:=Nat×Nat×Rat
def Nl (F:Nat→Nat→Rat) (i j:Nat) (q:Rat) (a b:Nat):Rat:=if i≠j∧a=i∧b=j then F a b+q else F a b
theorem adG {F:Nat→Nat→Rat} {i:Nat} {q:Rat}:Nl F i i q=F:=by
 funext a b
 exact if_neg fun h=>h.1 rfl
def I9 (F:Nat→Nat→Rat) (L:List Qb):Nat→Nat→Rat:=L.foldl (fun F t=>Nl F t.1 t.2.1 t.2.2) F
def iV (L:List Qb):Nat→Nat→Rat:=I9 (fun _ _=>0) L
theorem HV {F:Nat→Nat→Rat} {t:Qb} {L:List Qb}:I9 F (t::L)=I9 (Nl F t.1 t.2.1 t.2.2) L:=rfl
theorem Ja {F:Nat→Nat→Rat} {L M:List Qb}:I9 F (L++M)=I9 (I9 F L) M:=List.foldl_append
theorem YF {L:List Qb} {i j:Nat} {q:Rat}:iV (L++[(i,j,q)])=Nl (iV L) i j q:=Ja
theorem YX {L:List Qb} {i:Nat} {q:Rat}:iV (L++[(i,i,q)])=iV L:=by rw[YF,adG]
theorem Pd {Q:Nat}:∀(L:List Qb) (F:Nat→Nat→Rat) (B:Nat),(∀t∈L,aL t.2.2≤Q)→(∀a b,aL (F a b)≤B)→∀a b,aL (I9 F L a b)≤B+L.length*(Q+1)
 |
  [],F,B,_,hF,a,b=>by
  have:=hF a b
  show aL (F a b)≤_
  omega
 |
  t::L,F,B,hL,hF,a,b=>by
  rw[HV]
  have ht:=hL t List.mem_cons_self
  have:=Pd L (Nl F t.1 t.2.1 t.2.2) (B+(Q+1)) (fun s hs=>hL s (aLN _ hs)) (fun a b=>by
   unfold Nl
   have h1:=hF a b
   have h2:=yS (F a b) t.2.2
   split<;>omega) a b
  rw[aLo,aL3]
  omega
theorem N9 {Q:Nat} {L:List Qb} (h:∀t∈L,aL t.2.2≤Q) (a b:Nat):aL (iV L a b)≤1+L.length*(Q+1) :=
 Pd L _ 1 h (fun _ _=>by show aL 0≤1;rw[nC];exact aLe _) a b
theorem P0:∀(L:List Qb) (F:Nat→Nat→Rat),(∀t∈L,0≤t.2.2)→∀a b,F a b≤I9 F L a b
 | [],F,_,a,b=>aOu
 |
  t::L,F,hL,a,b=>by
  rw[HV]
  have ht:=hL t List.mem_cons_self
  have h1:=P0 L (Nl F t.1 t.2.1 t.2.2) (fun s hs=>hL s (aLN _ hs)) a b
  have h2:F a b≤Nl F t.1 t.2.1 t.2.2 a b:=by
   unfold Nl
   split<;>grind
  exact Rat.le_trans h2 h1
theorem Je {L:List Qb} (h:∀t∈L,0≤t.2.2) (a b:Nat):0≤iV L a b:=P0 L _ h a b
theorem adR {L:List Qb} {i j:Nat} {q:Rat} (h:∀t∈L,0≤t.2.2) (ht:(i,j,q)∈L) (Qq:i≠j) (hq:0<q):0<iV L i j:=by
 obtain⟨s,r,rfl⟩:=List.append_of_mem ht
 have hs:∀t∈s,0≤t.2.2:=fun t ht=>h t (List.mem_append_left _ ht)
 have hr:∀t∈r,0≤t.2.2:=fun t ht=>h t (List.mem_append_right _ (aLN _ ht))
 have h1:=P0 r (Nl (iV s) i j q) hr i j
 have h2:iV (s++(i,j,q)::r)=I9 (Nl (iV s) i j q) r:=by
  unfold iV
  rw[Ja,HV]
 rw[h2]
 have h3:=Je hs i j
 have h4:Nl (iV s) i j q i j=iV s i j+q:=if_pos ⟨Qq,rfl,rfl⟩
 rw[h4] at h1
 grind
theorem arZ {qs:List Rat} (h:∀q∈qs,0≤q) {q:Rat} (hq:q∈qs):q≤dF qs:=by
 have key:∀i,i≤qs.length→0≤dF (qs.take i)∧∀p∈qs.take i,p≤dF (qs.take i):=by
  intro i
  induction i with
  | zero=>intro _;exact⟨by show (0:Rat)≤0;exact aOu,by simp⟩
  |
   succ i ih =>
   intro hi
   have hq:qs[i]? = some qs[i]:=aLl (by omega)
   obtain⟨h1,h2⟩:=ih (by omega)
   have h3:=h _ (aLr (by omega:i<qs.length))
   rw[Dg hq]
   refine⟨by grind,fun p hp => ?_⟩
   rw[sZ hq] at hp
   rcases aMa.1 hp with hp | hp
   ·have:=h2 p hp
    grind
   ·rw[aMk] at hp
    subst hp
    grind
 have:=(key qs.length (aLe _)).2
 rw[aMr] at this
 exact this q hq
theorem Xs {N:Nat} {L:List Qb} {i j:Nat} {q:Rat} (h:∀t∈L,0≤t.2.2) (ht:(i,j,q)∈L) (Qq:i≠j) (hq:0<q) (hi:i<N) (hj:j<N):HW (QN N N (iV L))≠0:=by
 have hnn:∀r∈QN N N (iV L),∀q∈r,0≤q:=fun r hr q hq=>by
  obtain⟨a,_,rfl⟩:=Z0 hr
  obtain⟨b,_,rfl⟩:=Kg.1 hq
  exact Je h a b
 obtain⟨_,_,_,h4⟩:=OG (fun r hr=>WT (hnn r hr)) (QN N N (iV L)).length
 rw[aMr] at h4
 intro h0
 rw[←HW,h0,decide_eq_true rfl,Bool.not_true] at h4
 have mA:=aL8 (Np (m:=N) (F:=iV L) hi)
 have h5:=List.any_eq_false.1 h4 _ mA
 have h6:=arZ (hnn _ mA) (q:=iV L i j) (Kg.2 ⟨j,hj,rfl⟩)
 have h7:=adR h ht Qq hq
 simp only[Bool.not_eq_true',decide_eq_false_iff_not,not_true_eq_false,Classical.not_not] at h5
 rw[h5] at h6
 grind
theorem Yd {Q N:Nat} {L:List Qb} (h:∀t∈L,aL t.2.2≤Q):∀r∈QN N N (iV L),r.length=N∧∀q∈r,aL q≤1+L.length*(Q+1):=fun r hr=>by
 obtain⟨a,_,rfl⟩:=Z0 hr
 refine⟨oV ..,fun q hq => ?_⟩
 obtain⟨b,_,rfl⟩:=Kg.1 hq
 exact N9 h a b
end Go.PM
namespace Go.PM
theorem lK (q:Rat):(aB (aG q)).all bP=true:=rfl
def OH (F:Nat→Nat→Rat) (i j:Nat) (y:Rat) (a b:Nat):Rat:=if a=i∧b=j then y else F a b
def Tb (f:Rat→VV) (lo hi N M b g:Nat) (F:Nat→Nat→Rat) (H:aA):Prop:=∃rs,MG f 3 lo hi b g H rs∧rs.map (·.xs)=QN N M F
def Ss (lo hi:Nat) (H H':aA):Prop:=H'.length=H.length∧∀b g x,b<lo∨hi≤b→aJ H b g=some x→aJ H' b g=some x
theorem Ss.refl {lo hi:Nat} {H:aA}:Ss lo hi H H:=⟨rfl,fun _ _ _ _ h=>h⟩
section
variable {f:Rat→VV} {lo hi N M b g:Nat} {F:Nat→Nat→Rat} {H H':aA}
theorem Tb.cW (h:Tb f lo hi N M b g F H) (hk:jX lo hi H H'):Tb f lo hi N M b g F H':=by
 obtain⟨rs,h1,h2⟩:=h
 exact⟨rs,h1.cW hk,h2⟩
theorem Tb.pre (h:Tb f lo hi N M b g F H) (hh:H <+: H'):Tb f lo hi N M b g F H':=h.cW (jX.pre hh)
theorem Tb.congr {G:Nat→Nat→Rat} (h:Tb f lo hi N M b g F H) (hF:∀a c,a<N→c<M→F a c=G a c):Tb f lo hi N M b g G H:=by
 obtain⟨rs,h1,h2⟩:=h
 exact⟨rs,h1,h2.trans (Ky hF)⟩
theorem Tb.lt (h:Tb f lo hi N M b g F H):lo≤b∧b<hi∧b<H.length:=by
 obtain⟨rs,h1,_⟩:=h
 exact⟨h1.blo,h1.bhi,lZ h1.out⟩
theorem Tb.addr {c i:Nat} (h:Tb f lo hi N M b g F H) (qK:i<N):bI 1 (.ref b g 0 N c) (VI i) H=some (.ptr b g i 0):=by
 obtain⟨rs,h1,_⟩:=h
 exact h1.addr qK
theorem Tb.len {c:Nat} (h:Tb f lo hi N M b g F H):pV (.ref b g 0 N c) H=some (VI N):=by
 obtain⟨rs,h1,_⟩:=h
 exact h1.len
theorem Tb.fz {d c:Nat} (h:Tb f lo hi N M b g F H) (hc:N≤c) (hp:∀x,aY (f x)=true):PM.fz (d+3) H (.ref b g 0 N c)=some (aC (aC f) (QN N M F)):=by
 obtain⟨rs,h1,h2⟩:=h
 have hl:=congrArg aN9 h2
 rw[aMV,GU] at hl
 rw[←h2,←hl]
 exact h1.fz (by omega) hp
theorem TabIs.tb {v:VV} (h:TabIs f 3 (QN N M F) lo hi H v):∃b g c,v = .ref b g 0 N c∧N≤c∧Tb f lo hi N M b g F H:=by
 obtain⟨b,g,c,rs,h1,h2,h3,h4⟩:=h
 rw[GU] at h1 h2
 exact⟨b,g,c,h1,h2,rs,h3,h4⟩
theorem Tb.spot {i j:Nat} (h:Tb f lo hi N M b g F H) (qK:i<N) (hj:j<M) (hfs:∀x,(aB (f x)).length=3) (hfa:∀x,(aB (f x)).all bP=true) :
  ∃rb rg rc,bG false 1 (.ptr b g i 0) H=some (.ref rb rg 0 M rc)∧bI 3 (.ref rb rg 0 M rc) (VI j) H=some (.ptr rb rg j 0)∧(∀ag,bG ag 3 (.ptr rb rg j 0) H=dJ ag 3 (f (F i j)) 0) ∧
  ∀fV y,fV≤lo→∃H',bM fV 3 (.ptr rb rg j 0) (f y) H=some H'∧Ss lo hi H H'∧Tb f lo hi N M b g (OH F i j y) H'∧∀k,bG false 1 (.ptr b g k 0) H'=bG false 1 (.ptr b g k 0) H:=by
 obtain⟨rs,hM,hx⟩:=h
 have hl:=congrArg aN9 hx
 rw[aMV,GU] at hl
 obtain⟨r,hr⟩:∃r,rs[i]? = some r:=⟨_,aLl (by omega)⟩
 have Nd:r.xs=vec M (F i):=by
  have h1:(rs.map (·.xs))[i]? = some r.xs:=by rw[List.getElem?_map,hr];rfl
  rw[hx,Np qK] at h1
  exact(Option.some.inj h1).symm
 have B7:r.xs.length=M:=by rw[Nd,oV]
 have hgj:r.xs[j]? = some (F i j):=by rw[Nd,Ct hj]
 refine⟨r.b,r.g,r.c,?_,hM.at hr hj,fun ag=>hM.get hr hgj,fun fV y eT => ?_⟩
 ·have:=hM.cell hr
  rw[B7] at this
  exact this
 ·have h1:=hM.put (j:=j) (fV:=fV) (y:=y) hr (by omega) eT (hfs y) (hfa y)
  have h2:=hM.set (ys:=r.xs.set j y) hr (by rw[aNt])
  have SM:=hM.rows.row r (aL8 hr)
  refine⟨_,h1,⟨by rw[aNt],fun b' g' x xR FH=>aW (by have h7:=SM.1;have h8:=SM.2.1;omega) FH⟩,⟨_,h2,?_⟩,fun k => ?_⟩
  ·have e:(rs.set i { r with xs:=r.xs.set j y }).map (fun r:CM Rat=>r.xs)=(rs.map (fun r:CM Rat=>r.xs)).set i (r.xs.set j y):=aOH
   rw[e,hx,Nd,TG,Tv]
   exact Ky fun a c _ _=>by unfold OH;by_cases ha:a=i<;>by_cases hc:c=j<;>simp[ha,hc]
  ·rw[bJ,bJ,aW SM.2.2.1 hM.out,hM.out]
end
theorem aoS {N:Nat}:List.replicate N (List.replicate N (0:Rat))=QN N N fun _ _=>0:=adZ
end Go.PM
namespace Go.PM
theorem Tb.swap {f:Rat→VV} {lo hi N M b g:Nat} {F:Nat→Nat→Rat} {H:aA} (h:Tb f lo hi N M b g F H) {k m:Nat} (hk:k<N) (hm:m<N) :
  ∃u v,bG false 1 (.ptr b g k 0) H=some u∧bG false 1 (.ptr b g m 0) H=some v∧∀fV,fV≤lo→∃H1 H2,bM fV 1 (.ptr b g k 0) v H=some H1∧(∀c,bI 1 (.ref b g 0 N c) (VI m) H1=some (.ptr b g m 0))∧bM fV 1 (.ptr b g m 0) u H1=some H2∧Ss lo hi H H1∧Ss lo hi H H2∧Tb f lo hi N M b g (swp k m F) H2:=by
 obtain⟨rs,hM,hx⟩:=h
 have hl:=congrArg aN9 hx
 rw[aMV,GU] at hl
 have hkl:k<rs.length:=by omega
 have hml:m<rs.length:=by omega
 have hrk:rs[k]? = some rs[k]:=aLl hkl
 have SM:rs[m]? = some rs[m]:=aLl hml
 have Nd:∀i (hi:i<rs.length),rs[i].xs=vec M (F i):=fun i hi=>by
  have h1:(rs.map (·.xs))[i]? = some rs[i].xs:=by rw[List.getElem?_map,aLl hi];rfl
  rw[hx,Np (by omega)] at h1
  exact(Option.some.inj h1).symm
 have avK:((rs.set k rs[m]).set m rs[k]).Perm rs:=List.set_set_perm hkl hml
 refine⟨_,_,hM.cell hrk,hM.cell SM,fun fV eT => ?_⟩
 have s1:=eG (f:=uH) (e:=1) (x:=rs[m]) (j:=k) (lo:=fV) hM.out hkl (aLf eT hM.blo) rfl rfl
 have o1:=cP (es:=(rs.set k rs[m]).map uH) (e:=1) (w:=true) (g:=g) hM.out
 have s2:=eG (f:=uH) (e:=1) (x:=rs[k]) (j:=m) (lo:=fV) o1 (by rw[aNt];exact hml) (aLf eT hM.blo) rfl rfl
 have o2:=cP (es:=((rs.set k rs[m]).set m rs[k]).map uH) (e:=1) (w:=true) (g:=g) o1
 have Dh:=hM.blo
 have hb2:=hM.bhi
 refine⟨_,_,s1,fun c => ?_,s2,⟨by rw[aNt],fun b' g' x xR h=>aW (by omega) h⟩,⟨by rw[aNt,aNt],fun b' g' x xR h=>aW (by omega) (aW (by omega) h)⟩,(rs.set k rs[m]).set m rs[k],⟨o2,hM.blo,hM.bhi,?_,fun r hr => ?_⟩,?_⟩
 ·have:=bC (o:=0) (n:=N) (c:=c) (i:=m) (k := .i64) o1 hm
  rwa [aMM] at this
 ·exact(avK.map (·.b)).nodup_iff.2 hM.rows.nd
 ·obtain⟨k1,k2,k3,k4,k5⟩:=hM.rows.row r (avK.mem_iff.1 hr)
  exact⟨k1,k2,k3,k4,aW (Ne.symm k3) (aW (Ne.symm k3) k5)⟩
 ·have e:((rs.set k rs[m]).set m rs[k]).map (fun r:CM Rat=>r.xs)=((rs.map (fun r:CM Rat=>r.xs)).set k rs[m].xs).set m rs[k].xs:=by rw[aOH,aOH]
  rw[e,hx,Nd m hml,Nd k hkl,Tv,Tv]
  refine Ky fun a c _ _ => ?_
  unfold swp
  by_cases h1:a=m
  ·subst h1
   rw[if_pos rfl]
   by_cases h2:a=k
   ·subst h2;rw[if_pos rfl]
   ·rw[if_neg h2,if_pos rfl]
  ·rw[if_neg h1]
   by_cases h2:a=k
   ·rw[if_pos h2,if_pos h2]
   ·rw[if_neg h2,if_neg h2,if_neg h1]
def GZ (bb:Nat→Rat) (i:Nat) (y:Rat) (j:Nat):Rat:=if j=i then y else bb j
def Rw (f:Rat→VV) (rb rg n:Nat) (bb:Nat→Rat) (H:aA):Prop:=aJ H rb rg=some ((vec n bb).map f,3,true)
section
variable {f:Rat→VV} {rb rg n i:Nat} {bb:Nat→Rat} {H:aA}
theorem Rw.addr {c:Nat} (h:Rw f rb rg n bb H) (hi:i<n):bI 3 (.ref rb rg 0 n c) (VI i) H=some (.ptr rb rg i 0):=by
 have:=bC (o:=0) (n:=n) (c:=c) (i:=i) (k := .i64) h hi
 rwa [aMM] at this
theorem Rw.get (h:Rw f rb rg n bb H) (hi:i<n) (ag:Bool):bG ag 3 (.ptr rb rg i 0) H=dJ ag 3 (f (bb i)) 0:=qI (f:=f) h (Ct hi)
theorem Rw.put {lo:Nat} (h:Rw f rb rg n bb H) (hi:i<n) (eT:lo≤rb) (hfs:∀x,(aB (f x)).length=3) (hfa:∀x,(aB (f x)).all bP=true) (y:Rat) :
  ∃H',bM lo 3 (.ptr rb rg i 0) (f y) H=some H'∧H'.length=H.length∧(∀b g x,b≠rb→aJ H b g=some x→aJ H' b g=some x)∧Rw f rb rg n (GZ bb i y) H':=by
 have s:=eG (lo:=lo) (f:=f) (x:=y) (j:=i) h (by rw[oV];exact hi) eT (hfs y) (hfa y)
 rw[TG] at s
 exact⟨_,s,by rw[aNt],fun b g x hb h=>aW (Ne.symm hb) h,cP h⟩
theorem Rw.congr {Iz:Nat→Rat} (h:Rw f rb rg n bb H) (he:∀j,j<n→bb j=Iz j):Rw f rb rg n Iz H:=by
 unfold Rw at *
 rw[←xX he]
 exact h
end
structure Sy (f:Rat→VV) (lo hi n b g rb rg:Nat) (A:Nat→Nat→Rat) (bb:Nat→Rat) (H:aA):Prop where
 t:Tb f lo hi n n b g A H
 r:Rw f rb rg n bb H
 d:rb<lo∨hi≤rb
def DF (lo hi rb:Nat) (H H':aA):Prop:=H.length≤H'.length∧∀b g x,(b<lo∨hi≤b)→b≠rb→aJ H b g=some x→aJ H' b g=some x
theorem DF.refl {lo hi rb:Nat} {H:aA}:DF lo hi rb H H:=⟨aLe _,fun _ _ _ _ _ h=>h⟩
theorem DF.trans {lo hi rb:Nat} {H H' VU:aA} (h:DF lo hi rb H H') (h':DF lo hi rb H' VU):DF lo hi rb H VU:=⟨aLf h.1 h'.1,fun b g x h1 h2 h3=>h'.2 b g x h1 h2 (h.2 b g x h1 h2 h3)⟩
theorem DF.app {lo hi rb:Nat} {H L:aA}:DF lo hi rb H (H++L):=⟨by simp,fun _ _ _ _ _ h=>dC h⟩
theorem Ss.aA8 {lo hi rb:Nat} {H H':aA} (h:Ss lo hi H H'):DF lo hi rb H H':=⟨Nat.le_of_eq h.1.symm,fun b g x h1 _ h3=>h.2 b g x h1 h3⟩
section
variable {f:Rat→VV} {lo hi n b g rb rg i j:Nat} {A:Nat→Nat→Rat} {bb:Nat→Rat} {H H':aA}
theorem Sy.app {L:aA} (h:Sy f lo hi n b g rb rg A bb H):Sy f lo hi n b g rb rg A bb (H++L):=⟨h.t.pre (List.prefix_append _ _),dC h.r,h.d⟩
theorem Sy.congr {A':Nat→Nat→Rat} {Iz:Nat→Rat} (h:Sy f lo hi n b g rb rg A bb H) (h1:∀a c,a<n→c<n→A a c=A' a c) (h2:∀a,a<n→bb a=Iz a):Sy f lo hi n b g rb rg A' Iz H:=⟨h.t.congr h1,h.r.congr h2,h.d⟩
theorem Sy.spot (h:Sy f lo hi n b g rb rg A bb H) (qK:i<n) (hj:j<n) (hfs:∀x,(aB (f x)).length=3) (hfa:∀x,(aB (f x)).all bP=true) :
  ∃p q,bG false 1 (.ptr b g i 0) H=some p∧bI 3 p (VI j) H=some q∧(∀ag,bG ag 3 q H=dJ ag 3 (f (A i j)) 0) ∧
  ∀fV y,fV≤lo→∃H',bM fV 3 q (f y) H=some H'∧DF lo hi rb H H'∧Sy f lo hi n b g rb rg (OH A i j y) bb H':=by
 obtain⟨rb1,rg1,rc1,c1,c2,c3,c4⟩:=h.t.spot qK hj hfs hfa
 refine⟨_,_,c1,c2,c3,fun fV y eT => ?_⟩
 obtain⟨H',d1,d2,d3,_⟩:=c4 fV y eT
 exact⟨H',d1,d2.aA8,d3,d2.2 _ _ _ h.d h.r,h.d⟩
theorem Sy.put {fV:Nat} (h:Sy f lo hi n b g rb rg A bb H) (qK:i<n) (eT:fV≤rb) (hfs:∀x,(aB (f x)).length=3) (hfa:∀x,(aB (f x)).all bP=true) (y:Rat) :
  ∃H',bM fV 3 (.ptr rb rg i 0) (f y) H=some H'∧DF lo hi rb H H'∧Sy f lo hi n b g rb rg A (GZ bb i y) H':=by
 obtain⟨H',h1,h2,h3,h4⟩:=h.r.put qK eT hfs hfa y
 have hd:=h.d
 exact⟨H',h1,⟨Nat.le_of_eq h2.symm,fun b g x _ hb hx=>h3 b g x hb hx⟩,h.t.cW fun b' g' x k1 k2 hx=>h3 b' g' x (by omega) hx,h4,h.d⟩
end
end Go.PM
namespace Go.PM
def OD (p:Nat×List Qb):List (List Rat):=QN p.1 p.1 (iV p.2)
structure QOk (p:Nat×List Qb):Prop where
 n:p.1≤12
 l:p.2.length≤400
 t:∀t∈p.2,aL t.2.2≤1331∧0≤t.2.2
 s:∃i j q,(i,j,q)∈p.2∧i≠j∧0<q∧i<p.1∧j<p.1
theorem QOk.aIN {p:Nat×List Qb} (h:QOk p):HW (OD p)≠0:=by
 obtain⟨i,j,q,h1,h2,h3,h4,h5⟩:=h.s
 exact Xs (fun t ht=>(h.t t ht).2) h1 h2 h3 h4 h5
theorem QOk.rows {p:Nat×List Qb} (h:QOk p):∀r∈OD p,r.length=p.1∧∀q∈r,aL q≤600000:=fun r hr=>by
 obtain⟨h1,h2⟩:=Yd (Q:=1331) (fun t ht=>(h.t t ht).1) r hr
 have h3:p.2.length*(1331+1)≤400*(1331+1):=aLF _ h.l
 exact⟨h1,fun q hq=>by have:=h2 q hq;omega⟩
theorem YA {p:Nat×List Qb}:(OD p).length=p.1:=GU ..
end Go.PM
namespace Go.PM
structure Lin where
 u:List ByteArray
 d:List ByteArray
 deriving Inhabited
end Go.PM
namespace Go.PM
end Go.PM
namespace Go.PM
open Go.Lib
theorem aoJ (d:Nat) (h:d≤9223372036854775807):TC 219 [VI (d:Int)] (bE (decDigits d)):=by
 have:=QD (d:Int) (by omega) (by omega)
 rw[if_neg (by omega),aMw,Int.natAbs_natCast] at this
 exact this
theorem anB {n i:Nat} (hi:i+1=(aD 1000000000 n).length):n / 1000000000^i=n / 1000000000^i % 1000000000:=by
 have h1:=aeL (b:=1000000000) (by decide) n (i+1)
 rw[List.drop_of_length_le (by omega)] at h1
 have h2:=(nQ (b:=1000000000) (by decide)).1 h1.symm
 rw[xD] at h2
 rcases Nat.div_eq_zero_iff.1 h2 with h | h
 ·exact absurd h (by decide)
 ·exact(Nat.mod_eq_of_lt h).symm
theorem Mz (l:List UInt8) (a b:Nat):(⟨l.toArray⟩:ByteArray).extract a b=⟨((l.drop a).take (b-a)).toArray⟩:=by
 rw[ByteArray.ext_iff,ByteArray.data_extract]
 simp[List.extract_toArray,List.extract_eq_take_drop]
theorem ahC (l:List UInt8) {a b:Nat} (h:a≤b) (hb:b≤l.length):zW (bE l) (some (VI (a:Int))) (some (VI (b:Int)))=some (bE ((l.drop a).take (b-a))):=by
 have hs:(⟨l.toArray⟩:ByteArray).size=l.length:=by simp[ByteArray.size]
 have e1:(0:Int)≤b∧(b:Int)≤(l.length:Int):=by omega
 have e2:(0:Int)≤a∧(a:Int)≤(b:Int):=by omega
 simp only[zW,IC,Cl,hs,fM,e1,e2,and_self,if_true,aMA,Mz]
theorem Rp (l:List UInt8) {a:Nat} (h:a≤l.length):zW (bE l) (some (VI (a:Int))) none=some (bE (l.drop a)):=by
 have hs:(⟨l.toArray⟩:ByteArray).size=l.length:=by simp[ByteArray.size]
 have e2:(0:Int)≤a∧(a:Int)≤(l.length:Int):=by omega
 simp only[zW,IC,Cl,hs,fM,e2,and_self,if_true,aMA,Mz]
 rw[aL7 (by simp)]
theorem aAT (l:List UInt8) (h:1≤l.length):zW (bE l) (some (VI 1)) none=some (bE (l.drop 1)):=Rp l h
theorem adQ {a:Nat} (h:a<1000000000):IntKind.i64.wrap ((a:Int)+1000000000)=((a+1000000000:Nat):Int):=wrapN _ (by omega) (by omega)
theorem qW (n:Nat) (hn:bl n≤2199023255552):TC 208 [bW n] (bE (decDigits n)):=by
 refine TC.walk ⟨true,false⟩ Kb rfl (aM2 rfl) (by simp[aO,cG]) rfl ?_
 by_cases h0:n=0
 ·subst h0
  have hl:(((aD 1000000000 0).length:Nat):Int)=0:=by rw[cC];rfl
  simp only[Ak,wH,cJ,hl,VX,Nat.reduceEqDiff,Nat.reduceAdd]
  rw[jZ (by decide)]
  exact aK rfl
 have hl:¬(((aD 1000000000 n).length:Nat):Int)=0:=by have:=(uI (n:=n)).2 h0;omega
 obtain⟨L,hL⟩:∃L,(aD 1000000000 n).length=L+1:=⟨(aD 1000000000 n).length-1,by omega⟩
 have E5:=oX (n:=n) (by omega)
 have hlT:=auP n
 have hdl:=C1 n
 have w1:IntKind.i64.wrap (((L+1:Nat):Int)-1)=(L:Int):=wrapN _ (by omega) (by omega)
 have w2:IntKind.i64.wrap (((L+1:Nat):Int)-2)=(L:Int)-1:=by rw[wrap64 (by omega) (by omega)];omega
 have at':∀i,i≤L→bI 1 (bW n) (VI (i:Int)) []=some (.cS (tV (n / 1000000000^i % 1000000000)) 0):=fun i hi=>aF (f:=tV) (t := .op) (H:=[]) (size:=1) (k := .i64) (NV (b:=1000000000) (by decide) (n:=n) (i:=i) (by omega)) rfl
 have eL:=at' L (aLe _)
 have akB:=anB (n:=n) (i:=L) (by omega)
 rw[←akB] at eL
 have TW:n / 1000000000^L≠0:=(Gr (b:=1000000000) (by decide)).1 (by omega)
 have hqT:n / 1000000000^L<1000000000:=by rw[akB];exact aLG _ (by decide)
 have c1:=aoJ (n / 1000000000^L) (by omega)
 rw[hL] at hl
 simp only[Ak,wH,cJ,hL,hl,w1,w2,eL,c1,VX,Nat.reduceEqDiff,Nat.reduceAdd]
 refine aN (fun(j:Nat) ρ H=>j≤L∧H=[]∧ρ 0=bW n∧ρ 3=bE (decDigits (n / 1000000000^j))∧ρ 4=VI ((j:Int)-1)) (fun j=>j) L ⟨aLe _,rfl,rfl,rfl,rfl⟩ ?_
 rintro j ρ H ⟨hj,rfl,g0,g3,g4⟩
 by_cases hz:(0:Int)≤(j:Int)-1
 ·obtain⟨i,rfl⟩:∃i,j=i+1:=⟨j-1,by omega⟩
  have Ea:((i+1:Nat):Int)-1=(i:Int):=by omega
  rw[Ea] at g4 hz
  have e1:=at' i (by omega)
  have hm:=aLG (n / 1000000000^i) (show 0<1000000000 by decide)
  have hq1:n / 1000000000^(i+1)≠0:=(Gr (b:=1000000000) (by decide)).1 (by omega)
  have hdm:=Nat.mod_add_div (n / 1000000000^i) 1000000000
  rw[←xD] at hdm
  have hch:=Kq (Nat.pos_of_ne_zero hq1) hm
  have hle:n / 1000000000^i≤n:=Nat.div_le_self _ _
  have hdi:=C1 (n / 1000000000^i)
  have hbi:=lY hle
  rw[show n / 1000000000^(i+1)*1000000000+n / 1000000000^i % 1000000000=n / 1000000000^i by omega] at hch
  generalize hAA:n / 1000000000^i=A at *
  generalize n / 1000000000^(i+1)=B at *
  have w4:IntKind.i64.wrap ((i:Int)-1)=(i:Int)-1:=wrap64 (by omega) (by omega)
  have c2:=aoJ (A % 1000000000+1000000000) (by omega)
  rw[aqN hm] at c2
  have e2:=aAT (d10 1::E2 9 (A % 1000000000)) (by simp)
  rw[List.drop_succ_cons,List.drop_zero] at e2
  have hlen:=congrArg aN9 hch
  rw[aLp] at hlen
  have a1:=zC (decDigits B) (E2 9 (A % 1000000000)) (by omega)
  rw[←hch] at a1
  have aD6:i≤L:=by omega
  have hmu:i<i+1:=by omega
  have w3:=adQ hm
  simp only[vE,g0,g3,g4,hz,e1,w3,w4,c2,e2,a1,VX,Nat.reduceEqDiff,Nat.reduceAdd]
  refine⟨i,hmu,aD6,?_⟩
  rw[hAA]
  exact⟨rfl,rfl⟩
 ·have YS:j=0:=by omega
  subst YS
  rw[Nat.pow_zero,Nat.div_one] at g3
  simp only[vE,g0,g3,g4,hz,VX,Nat.reduceEqDiff,Nat.reduceAdd]
  exact aK rfl
theorem Pf (q:Rat) (hk:aL q≤1099511627776):TC 188 [aS q] (VB (ED q)):=by
 refine TC.walk ⟨true,false⟩ OO rfl (aM2 rfl) (by simp[aO,qC]) rfl ?_
 have la:=uW hk
 have lb:=uZ hk
 have t1:=qW q.num.natAbs (by omega)
 have t2:=qW q.den (by omega)
 have hf:ED q=(decide (((decDigits q.num.natAbs).length:Int)≤200)&&decide (((decDigits q.den).length:Int)≤200)):=by
  unfold ED
  congr 1<;>exact decide_eq_decide.2 (by omega)
 rw[hf]
 by_cases hl:((decDigits q.num.natAbs).length:Int)≤200
 ·simp only[D1,AU,t1,t2,hl,bQ,bR,iJ,jQ,jM,aR,gC,Nat.reduceLeDiff,Nat.reduceLT,Nat.reduceSub,VX,Nat.reduceEqDiff,Nat.reduceAdd]
  exact aK rfl
 ·simp only[D1,AU,t1,t2,hl,bQ,bR,iJ,jQ,jM,aR,gC,Nat.reduceLeDiff,Nat.reduceLT,Nat.reduceSub,VX,Nat.reduceEqDiff,Nat.reduceAdd]
  exact aK rfl
theorem Of (q:Rat) (hk:aL q≤1099511627776):TC 189 [aS q] (bE (Ps q)):=by
 refine TC.walk ⟨true,false⟩ Oi rfl (aM2 rfl) (by simp[aO,qC]) rfl ?_
 have la:=uW hk
 have lb:=uZ hk
 have t1:=qW q.num.natAbs (by omega)
 have t2:=qW q.den (by omega)
 have d1:=C1 q.num.natAbs
 have d2:=C1 q.den
 have c1:∀lo H K,_:=fun lo H K=>Nq (n:=q.den) (lo:=lo) (H:=H) (K:=K) (aLV (oX (by omega)))
 have a1:dO .add (.string ⟨#[45]⟩) (.string ⟨(decDigits q.num.natAbs).toArray⟩)=some (.string ⟨(45::decDigits q.num.natAbs).toArray⟩):=zC [45] _ (by simp only[aLo,aMR];omega)
 have a2:dO .add (.string ⟨#[47]⟩) (.string ⟨(decDigits q.den).toArray⟩)=some (.string ⟨(47::decDigits q.den).toArray⟩):=zC [47] (decDigits q.den) (by simp only[aLo,aMR];omega)
 have a3:=zC (45::decDigits q.num.natAbs) (47::decDigits q.den) (by simp only[aLo];omega)
 have a4:=zC (decDigits q.num.natAbs) (47::decDigits q.den) (by simp only[aLo];omega)
 have hs:Ps q=(if q.num<0 then (45::decDigits q.num.natAbs) else decDigits q.num.natAbs)++(if q.den=1 then [] else 47::decDigits q.den):=by
  unfold Ps
  by_cases hn:q.num<0
  ·rw[if_pos hn,if_pos hn];rfl
  ·rw[if_neg hn,if_neg hn];rfl
 rw[hs]
 by_cases hd:gA q.den 1=0
 ·rw[if_pos (AP.1 hd),List.append_nil]
  by_cases hn:q.num<0
  all_goals
   simp only[DW,BO,t1,t2,a1,a2,a3,a4,c1,hd,hn,eU,bR,iJ,jQ,jM,aR,gC,Nat.reduceLeDiff,Nat.reduceLT,Nat.reduceSub,VX,Nat.reduceEqDiff,Nat.reduceAdd]
   exact aK rfl
 ·rw[if_neg (mt AP.2 hd)]
  by_cases hn:q.num<0
  all_goals
   simp only[DW,BO,t1,t2,a1,a2,a3,a4,c1,hd,hn,eU,bR,iJ,jQ,jM,aR,gC,Nat.reduceLeDiff,Nat.reduceLT,Nat.reduceSub,VX,Nat.reduceEqDiff,Nat.reduceAdd]
   exact aK rfl
theorem NO (q:Rat) (hk:aL q≤1099511627776):TC 171 [aS q] (Dq q):=by
 refine TC.walk ⟨true,false⟩ OA rfl (aM2 rfl) (by simp[aO,qC]) (Gh q) ?_
 have t1:=Pf q hk
 have t2:=Of q hk
 unfold Dq
 by_cases h:ED q=true
 ·rw[h] at t1
  rw[if_pos h]
  simp only[D5,Bk,t1,t2,bR,cF,gL,aR,gC,Nat.reduceLeDiff,Nat.reduceLT,Nat.reduceSub,VX,Nat.reduceEqDiff,Nat.reduceAdd]
  exact aK rfl
 ·have h':ED q=false:=by simpa using h
  rw[h'] at t1
  rw[if_neg h]
  simp only[D5,Bk,t1,bR,cF,gL,aR,gC,Nat.reduceLeDiff,Nat.reduceLT,Nat.reduceSub,VX,Nat.reduceEqDiff,Nat.reduceAdd]
  exact aK rfl
end Go.PM
namespace Go.PM
open Go.Lib
def iZ (c:UInt8):List UInt8→List (List UInt8)
 | []=>[[]]
 |
  x::r=>if x=c then []::iZ c r else match iZ c r with
  | []=>[[x]]
  | a::t=>(x::a)::t
theorem Ow {c:UInt8} {r:List UInt8}:∀ {a:List UInt8},c∉a→iZ c (a++c::r)=a::iZ c r:=by
 intro a
 induction a with
 | nil=>intro _;rw[aMw,iZ,if_pos rfl]
 |
  cons x a ih =>
  intro h
  rw[List.mem_cons,not_or] at h
  rw[aME,iZ,if_neg (fun he=>h.1 he.symm),ih h.2]
theorem Ih {c:UInt8}:∀ {a:List UInt8},c∉a→iZ c a=[a]:=by
 intro a
 induction a with
 | nil=>intro _;rfl
 |
  cons x a ih =>
  intro h
  rw[List.mem_cons,not_or] at h
  rw[iZ,if_neg (fun he=>h.1 he.symm),ih h.2]
theorem X4 {c:UInt8} (l:List UInt8):iZ c l≠[]:=by
 cases l with
 | nil=>simp[iZ]
 |
  cons x r =>
  rw[iZ]
  split
  ·simp
  ·split<;>simp
theorem Wn {c:UInt8} {l:List UInt8} (h:(oF c l).2=none):iZ c l=[l]:=Ih (Dc h).2.2
theorem L7 {c:UInt8} {l r:List UInt8} (h:(oF c l).2=some r):iZ c l=(oF c l).1::iZ c r:=by
 obtain⟨_,h2,h3⟩:=K6 h
 have:=Ow (r:=r) h3
 rw[←h2] at this
 exact this
theorem Uw {c:UInt8} {l:List UInt8} (h:c∈l):2≤(iZ c l).length:=by
 cases hc:(oF c l).2 with
 | none=>exact absurd h (Dc hc).2.2
 |
  some r =>
  rw[L7 hc,aLo]
  have:=aNM.2 (X4 (c:=c) r)
  omega
theorem afY {l:List UInt8} {i:Nat} (h:i<l.length):(l.take (i+1)).all jR=((l.take i).all jR&&jR (l.getD i 0)):=by
 rw[aM4,List.all_append]
 have:l[i]? = some (l.getD i 0):=by rw[aLl h,aLb,aLl h];rfl
 rw[this]
 simp
set_option maxHeartbeats 1000000 in
theorem sX (l:List UInt8) (hl:l.length≤1000000000000):TC 168 [bE l] (VB (jE l)):=by
 refine TC.walk ⟨true,false⟩ KV rfl (aM2 rfl) rfl rfl ?_
 simp only[Fw,Di,VX,Nat.reduceEqDiff,Nat.reduceAdd]
 refine aN (fun(i:Nat) ρ H=>i≤l.length∧H=[]∧(l.take i).all jR=true∧ρ 0=bE l∧ρ 3=VI i) (fun i=>l.length-i) 0 ⟨aLI _,rfl,rfl,rfl,rfl⟩ ?_
 rintro i ρ H ⟨hi,rfl,hd,g0,g3⟩
 by_cases bX:(i:Int)<(l.length:Int)
 ·have XB:i<l.length:=by omega
  have e1:=FM l XB
  have wi:IntKind.i64.wrap ((i:Int)+1)=((i+1:Nat):Int):=wrapN (i+1) (by omega) (by omega)
  have ht:=afY XB
  rw[hd,Bool.true_and] at ht
  have Yn:jR (l.getD i 0)=(decide (48≤(l.getD i 0).toNat)&&decide ((l.getD i 0).toNat≤57)):=rfl
  have kV:jR (l.getD i 0)=false→jE l=false:=by
   intro h
   rw[h] at ht
   have:l.all jR=false:=by rw[←aMn (i+1) l,List.all_append,ht,Bool.false_and]
   unfold jE
   rw[this]
   rfl
  generalize (l.getD i 0).toNat=c at *
  by_cases q1:(c:Int)<48
  ·rw[kV (by rw[Yn,decide_eq_false (by omega)];rfl)]
   simp only[eJ,g0,g3,bQ,bX,e1,q1,VX,Nat.reduceEqDiff,Nat.reduceAdd]
   exact aK rfl
  ·by_cases q2:(57:Int)<(c:Int)
   ·rw[kV (by rw[Yn,decide_eq_false (show ¬c≤57 by omega),Bool.and_false])]
    simp only[eJ,g0,g3,bQ,bX,e1,q1,q2,VX,Nat.reduceEqDiff,Nat.reduceAdd]
    exact aK rfl
   ·rw[Yn,decide_eq_true (by omega),decide_eq_true (by omega),aMC] at ht
    simp only[eJ,g0,g3,bQ,bX,e1,q1,q2,wi,VX,Nat.reduceEqDiff,Nat.reduceAdd]
    exact⟨i+1,by omega,by omega,ht,rfl⟩
 ·have mZ:i=l.length:=by omega
  subst mZ
  rw[aMr] at hd
  by_cases h1:(1:Int)≤(l.length:Int)
  ·by_cases h2:(l.length:Int)≤200
   ·by_cases h3:(l.length:Int)=1
    ·rw[lC.2 ⟨hd,by omega,by omega,.inl (by omega)⟩]
     simp only[eJ,g0,g3,bQ,bX,ge_iff_le,h1,h2,h3,Int.reduceLE,Int.reduceLT,VX,Nat.reduceEqDiff,Nat.reduceAdd]
     exact aK rfl
    ·have e1:=KN l (by omega)
     by_cases h4:(((l.getD 0 0).toNat:Int)=48)
     ·have hk:jE l=false:=by
       cases h:jE l with
       | false=>rfl
       |
        true =>
        rcases(lC.1 h).2.2.2 with h5 | h5
        ·omega
        ·exact absurd (UInt8.toNat_inj.1 (by rw[show (48:UInt8).toNat=48 from rfl];omega)) h5
      rw[hk]
      simp only[eJ,g0,g3,bQ,bX,ge_iff_le,h1,h2,h3,h4,e1,VX,Nat.reduceEqDiff,Nat.reduceAdd]
      exact aK rfl
     ·have h5:l.getD 0 0≠48:=fun h=>h4 (by rw[h];rfl)
      rw[lC.2 ⟨hd,by omega,by omega,.inr h5⟩]
      simp only[eJ,g0,g3,bQ,bX,ge_iff_le,h1,h2,h3,h4,e1,VX,Nat.reduceEqDiff,Nat.reduceAdd]
      exact aK rfl
   ·have hk:jE l=false:=by
     cases h:jE l with
     | false=>rfl
     | true=>have:=(lC.1 h).2.2.1;omega
    rw[hk]
    simp only[eJ,g0,g3,bQ,bX,ge_iff_le,h1,h2,VX,Nat.reduceEqDiff,Nat.reduceAdd]
    exact aK rfl
  ·have hk:jE l=false:=by
    cases h:jE l with
    | false=>rfl
    | true=>have:=(lC.1 h).2.1;omega
   rw[hk]
   simp only[eJ,g0,g3,bQ,bX,ge_iff_le,h1,VX,Nat.reduceEqDiff,Nat.reduceAdd]
   exact aK rfl
set_option maxHeartbeats 1000000 in
theorem HN (l:List UInt8) (c:UInt8) (hl:l.length≤1000000000000):TC 167 [bE l,.sc (.int .u8 (c.toNat:Int))] (aC bE (iZ c l)):=by
 refine TC.walk ⟨true,false⟩ Qn rfl (aM2 rfl) rfl (zX (size:=1) (fun _=>rfl) (fun _=>rfl) fun _=>rfl) ?_
 have e3:∀lr,nT lr [.string ⟨#[]⟩] 0 [] []=some (.ref 0 0 0 0 0,[.row 0 (([]:List (List UInt8)).map bE) 1 true]):=fun lr=>mQ (H:=[]) (lr:=lr) (z:=[.string ⟨#[]⟩]) rfl
 have e4:∀(x:List UInt8) (H:aA),nT false [.string ⟨#[]⟩] 1 [(0,bE x)] H=some (.tree [bE x] (.cl 1),H):=fun x H=>lO (z:=[.string ⟨#[]⟩]) rfl rfl rfl
 have e5:∀(x:List UInt8) (H:aA),dG 1 (.tree [bE x] (.cl 1)) H=some [bE x]:=fun x H=>gR rfl rfl
 simp only[MP,Hu,e3,VX,Nat.reduceEqDiff,Nat.reduceAdd]
 refine aN (fun(s:List (List UInt8)×Nat×Nat) ρ H=>H=[.row s.1.length (s.1.map bE) 1 true]∧s.2.1≤s.2.2∧s.2.2≤l.length+1∧s.1.length≤s.2.1 ∧
  ((s.2.2≤l.length∧iZ c l=s.1++iZ c (l.drop s.2.1)∧c∉(l.drop s.2.1).take (s.2.2-s.2.1))∨(s.2.2=l.length+1∧iZ c l=s.1)) ∧
  ρ 0=bE l∧ρ 1 = .sc (.int .u8 (c.toNat:Int))∧ρ 5 = .ref 0 s.1.length 0 s.1.length s.1.length∧ρ 6=VI s.2.1∧ρ 7=VI s.2.2) (fun s=>l.length+1-s.2.2) ([],0,0) ⟨rfl,aLI _,aLI _,aLI _,.inl ⟨aLI _,rfl,by simp⟩,rfl,rfl,rfl,rfl,rfl⟩ ?_
 rintro⟨out,fr,i⟩ ρ H ⟨rfl,hfi,hi,hJ,xI,g0,g1,g5,g6,g7⟩
 simp only at hfi hi hJ xI g5 g6 g7
 by_cases bX:(i:Int)≤(l.length:Int)
 ·have XB:i≤l.length:=by omega
  obtain⟨hp,hc⟩:iZ c l=out++iZ c (l.drop fr)∧c∉(l.drop fr).take (i-fr):=by
   rcases xI with⟨_,h1,h2⟩ | ⟨h,_⟩
   ·exact⟨h1,h2⟩
   ·omega
  have wi:IntKind.i64.wrap ((i:Int)+1)=((i+1:Nat):Int):=wrapN (i+1) (by omega) (by omega)
  have e2:=ahC l hfi XB
  have eP:=jK (f:=bE) (xs:=out) (x:=(l.drop fr).take (i-fr)) (lo:=0) (b:=0) (g:=out.length) (n:=out.length) (e:=1) (bytes:=16) (H:=[.row out.length (out.map bE) 1 true]) aQ rfl (aLI _) (by decide) (by decide) (by omega)
  have KW:([.row out.length (out.map bE) 1 true]:aA).set 0 (.row (out.length+1) ((out++[(l.drop fr).take (i-fr)]).map bE) 1 true)=[.row (out.length+1) ((out++[(l.drop fr).take (i-fr)]).map bE) 1 true]:=rfl
  rw[KW] at eP
  by_cases q1:i=l.length
  ·subst q1
   have anY:iZ c l=out++[(l.drop fr).take (l.length-fr)]:=by
    rw[hp]
    have:(l.drop fr).take (l.length-fr)=l.drop fr:=aL7 (by rw[aNE];omega)
    rw[this] at hc ⊢
    rw[Ih hc]
   simp only[sB,g0,g1,g5,g6,g7,bQ,bX,eq_self,e2,e4,e5,eP,wi,VX,Nat.reduceEqDiff,Nat.reduceAdd]
   refine⟨(out++[(l.drop fr).take (l.length-fr)],l.length+1,l.length+1),by simp only;omega,?_,by simp only;omega,by simp only;omega,?_,.inr ⟨rfl,anY⟩,?_⟩
   ·simp
   ·simp only[aLp,aLo,aMR];omega
   ·simp
  ·have aqY:i<l.length:=by omega
   have q1':¬(i:Int)=(l.length:Int):=by omega
   have e1:=FM l aqY
   have hgd:l.drop i=l.getD i 0::l.drop (i+1):=by rw[List.drop_eq_getElem_cons aqY,aLb,aLl aqY];rfl
   by_cases q2:l.getD i 0=c
   ·have q2':((l.getD i 0).toNat:Int)=(c.toNat:Int):=by rw[q2]
    have anY:iZ c l=(out++[(l.drop fr).take (i-fr)])++iZ c (l.drop (i+1)):=by
     have US:l.drop fr=(l.drop fr).take (i-fr)++c::l.drop (i+1):=by
      have h1:(l.drop fr).drop (i-fr)=l.drop i:=by rw[List.drop_drop];congr 1;omega
      conv=>lhs;rw[←aMn (i-fr) (l.drop fr),h1,hgd,q2]
     rw[hp]
     conv=>lhs;rw[US]
     rw[Ow hc,List.append_assoc]
     rfl
    simp only[sB,g0,g1,g5,g6,g7,bQ,bX,q1',e1,q2',eq_self,e2,e4,e5,eP,wi,VX,Nat.reduceEqDiff,Nat.reduceAdd]
    refine⟨(out++[(l.drop fr).take (i-fr)],i+1,i+1),by simp only;omega,?_,by simp only;omega,by simp only;omega,?_,.inl ⟨by simp only;omega,anY,by simp⟩,?_⟩
    ·simp
    ·simp only[aLp,aLo,aMR];omega
    ·simp
   ·have q2':¬((l.getD i 0).toNat:Int)=(c.toNat:Int):=fun h=>q2 (UInt8.toNat_inj.1 (by omega))
    simp only[sB,g0,g1,g5,g6,g7,bQ,bX,q1',e1,q2',wi,VX,Nat.reduceEqDiff,Nat.reduceAdd]
    refine⟨(out,fr,i+1),by simp only;omega,rfl,by simp only;omega,by simp only;omega,hJ,.inl ⟨by simp only;omega,hp,?_⟩,rfl,rfl,rfl⟩
    simp only
    rw[show i+1-fr=(i-fr)+1 by omega,aM4,aMa,not_or]
    refine⟨hc,?_⟩
    have:(l.drop fr)[i-fr]? = some (l.getD i 0):=by
     rw[List.getElem?_drop,show fr+(i-fr)=i by omega,aLb,aLl aqY]
     rfl
    rw[this]
    simp
    exact fun h=>q2 h.symm
 ·have anY:iZ c l=out:=by
   rcases xI with⟨h,_⟩ | ⟨_,h⟩
   ·omega
   ·exact h
  rw[anY]
  simp only[sB,g0,g5,g7,bQ,bX,VX,Nat.reduceEqDiff,Nat.reduceAdd]
  exact Ia (es:=out.map bE) aQ (by simp) (aLe _) (fO fun _=>rfl)
theorem ajP {l:List UInt8} (h:l.all jR=true) {i:Nat} (hi:i<l.length):48≤(l.getD i 0).toNat∧(l.getD i 0).toNat≤57:=by
 have:=aLs.1 h (l.getD i 0) (by rw[aLb,aLl hi];exact aLr hi)
 simpa[jR] using this
theorem Ph {l:List UInt8} (hd:l.all jR=true) (hl:l.length≤1000000000000) {fr tq:Nat} (hft:fr≤tq) (h9:tq-fr≤9) (htl:tq≤l.length) {H:aA} {lo:Nat} {ρ:cV} {Q:VQ} (h0:ρ 0=bE l) (h4:ρ 4=VI tq) (h6:ρ 6=VI 0) (h7:ρ 7=VI fr)
  (hQ:∀aP,(∀t,t<6→aP t=ρ t)→aP 6=VI (bU ((l.drop fr).take (tq-fr)))→Q .normal aP H):VW ⟨true,false⟩ lo (.loop pS) (tL 2 Q) ρ H:=by
 refine aN (fun(i:Nat) aP H'=>fr≤i∧i≤tq∧H'=H∧(∀t,t<6→aP t=ρ t)∧aP 6=VI (bU ((l.drop fr).take (i-fr)))∧aP 7=VI i) (fun i=>tq-i) fr ⟨aLe _,hft,rfl,fun _ _=>rfl,by rw[h6,Nat.sub_self];rfl,h7⟩ ?_
 rintro i aP H' ⟨hfi,hi,rfl,hk,g6,g7⟩
 have g0:=(hk 0 (by decide)).trans h0
 have g4:=(hk 4 (by decide)).trans h4
 by_cases bX:(i:Int)<(tq:Int)
 ·have XB:i<l.length:=by omega
  have e1:=FM l XB
  obtain⟨c1,c2⟩:=ajP hd XB
  have wi:IntKind.i64.wrap ((i:Int)+1)=((i+1:Nat):Int):=wrapN (i+1) (by omega) (by omega)
  have hcd:((l.drop fr).take (i-fr)).all jR=true:=by
   rw[aLs] at hd ⊢
   exact fun x hx=>hd x (aMc (aMb hx))
  have bH:=JE hcd
  rw[List.length_take,aNE,Nat.min_eq_left (by omega)] at bH
  have hp9:10^(i-fr)≤10^8:=aNh (by decide) (by omega)
  have e8:(10:Nat)^8=100000000:=by decide
  have qB:bU ((l.drop fr).take (i+1-fr))=bU ((l.drop fr).take (i-fr))*10+dv (l.getD i 0):=by
   have:(l.drop fr)[i-fr]? = some (l.getD i 0):=by
    rw[List.getElem?_drop,show fr+(i-fr)=i by omega,aLb,aLl XB]
    rfl
   rw[show i+1-fr=(i-fr)+1 by omega,aM4,this]
   exact aeY _ _
  have hdv:dv (l.getD i 0)=(l.getD i 0).toNat-48:=rfl
  rw[hdv] at qB
  generalize (l.getD i 0).toNat=c at *
  generalize bU ((l.drop fr).take (i-fr))=D at *
  have w1:IntKind.i64.wrap (10*(D:Int))=((10*D:Nat):Int):=wrapN _ (by omega) (by omega)
  have w2:IntKind.u8.wrap ((c:Int)-48)=((c-48:Nat):Int):=by
   simp[IntKind.wrap,IntKind.bits,IntKind.signed]
   omega
  have w3:IntKind.i64.wrap ((c-48:Nat):Int)=((c-48:Nat):Int):=wrapN _ rfl (by omega)
  have w4:IntKind.i64.wrap (((10*D:Nat):Int)+((c-48:Nat):Int))=((D*10+(c-48):Nat):Int):=wrapN _ (by omega) (by omega)
  simp only[pS,g0,g4,g6,g7,bX,e1,w1,w2,w3,w4,wi,VX,Nat.reduceEqDiff,Nat.reduceAdd]
  refine⟨i+1,by omega,by omega,by omega,fun t ht => ?_,by rw[qB],rfl⟩
  try simp only[zT]
  repeat rw[if_neg (by omega)]
  exact hk t ht
 ·have mZ:i=tq:=by omega
  subst mZ
  simp only[pS,g4,g7,bX,VX,Nat.reduceEqDiff,Nat.reduceAdd]
  refine hQ _ (fun t ht => ?_) ?_
  ·try simp only[zT]
   repeat rw[if_neg (by omega)]
   exact hk t ht
  ·simp only[g6,VX,Nat.reduceEqDiff,Nat.reduceAdd]
set_option maxHeartbeats 1000000 in
theorem vW (l:List UInt8) (hd:l.all jR=true) (hl:l.length≤1000000000):TC 169 [bE l] (bW (bU l)):=by
 refine TC.walk ⟨true,false⟩ J5 rfl (aM2 rfl) rfl (pZ _) ?_
 have e3:∀lr,nT lr [.int .i64 0] 0 [] []=some (.ref 0 0 0 0 0,[.row 0 (([]:List Nat).map tV) 1 true]):=fun lr=>mQ (H:=[]) (lr:=lr) (z:=[.int .i64 0]) rfl
 have e4:∀(x:Nat) (H:aA),nT false [.int .i64 0] 1 [(0,tV x)] H=some (.tree [tV x] (.cl 1),H):=fun x H=>lO (z:=[.int .i64 0]) rfl rfl rfl
 have e5:∀(x:Nat) (H:aA),dG 1 (.tree [tV x] (.cl 1)) H=some [tV x]:=fun x H=>gR rfl rfl
 simp only[Ez,Co,e3,bQ,VX,Nat.reduceEqDiff,Nat.reduceAdd]
 refine aN (fun(s:List Nat×Int) ρ H=>H=[.row s.1.length (s.1.map tV) 1 true]∧s.2≤l.length ∧ -9≤s.2∧s.1.length+s.2.toNat≤l.length∧(∀d∈s.1,d<1000000000)∧bU l=val 1000000000 s.1+1000000000^s.1.length*bU (l.take s.2.toNat) ∧
  ρ 0=bE l∧ρ 3 = .ref 0 s.1.length 0 s.1.length s.1.length∧ρ 4=VI s.2) (fun s=>s.2.toNat) ([],(l.length:Int)) ⟨rfl,Int.le_refl _,by simp only;omega,by simp,by simp,?_,rfl,rfl,rfl⟩ ?_
 ·simp only[aMA,aMr,aMR,Nat.pow_zero,Nat.one_mul,val,aMM]
 rintro⟨out,z⟩ ρ H ⟨rfl,hz,hz9,hJ,hds,hv,g0,g3,g4⟩
 simp only at hz hz9 hJ hds hv g3 g4
 by_cases lQ:0<z
 ·obtain⟨tq,rfl⟩:∃tq:Nat,z=tq:=⟨z.toNat,by omega⟩
  rw[aMA] at hJ hv
  have hto:0<tq:=by omega
  have key:∀fr:Nat,fr≤tq→tq-fr≤9→bU (l.take tq)=bU (l.take fr)*10^(tq-fr)+bU ((l.drop fr).take (tq-fr))∧bU ((l.drop fr).take (tq-fr))<1000000000:=by
   intro fr h1 h2
   have hcd:((l.drop fr).take (tq-fr)).all jR=true:=by
    rw[aLs] at hd ⊢
    exact fun x hx=>hd x (aMc (aMb hx))
   have hlen:((l.drop fr).take (tq-fr)).length=tq-fr:=by rw[List.length_take,aNE];omega
   constructor
   ·have:=List.take_add (l:=l) (i:=fr) (j:=tq-fr)
    rw[show fr+(tq-fr)=tq by omega] at this
    rw[this,Oo,hlen]
   ·have:=JE hcd
    rw[hlen] at this
    exact aLg this (aLf (aNh (by decide) h2) (by decide))
  have eP:=fun X=>jK (f:=tV) (xs:=out) (x:=X) (lo:=0) (b:=0) (g:=out.length) (n:=out.length) (e:=1) (bytes:=8) (H:=[.row out.length (out.map tV) 1 true]) aQ rfl (aLI _) (by decide) (by decide) (by omega)
  have KW:∀X,([.row out.length (out.map tV) 1 true]:aA).set 0 (.row (out.length+1) ((out++[X]).map tV) 1 true)=[.row (out.length+1) ((out++[X]).map tV) 1 true]:=fun _=>rfl
  simp only[KW] at eP
  by_cases h9:(9:Int)<(tq:Int)
  ·obtain⟨k1,k2⟩:=key (tq-9) (by omega) (by omega)
   have wz:IntKind.i64.wrap ((tq:Int)-9)=((tq-9:Nat):Int):=wrapN _ (by omega) (by omega)
   rw[show tq-(tq-9)=9 by omega] at k1 k2
   rw[show (10:Nat)^9=1000000000 by decide] at k1
   simp only[oM,g0,g3,g4,lQ,h9,wz,VX,Nat.reduceEqDiff,Nat.reduceAdd]
   refine Ph (l:=l) hd (by omega) (fr:=tq-9) (tq:=tq) (by omega) (by omega) (by omega) ?_ ?_ ?_ ?_ fun AN q q6 => ?_
   all_goals first | (simp only[g0,g4,VX,Nat.reduceEqDiff,Nat.reduceAdd];done) | skip
   rw[show tq-(tq-9)=9 by omega] at q6
   have u3:AN 3 = .ref 0 out.length 0 out.length out.length:=by rw[q 3 (by decide)];simp only[g3,VX,Nat.reduceEqDiff,Nat.reduceAdd]
   have u0:AN 0=bE l:=by rw[q 0 (by decide)];simp only[g0,VX,Nat.reduceEqDiff,Nat.reduceAdd]
   have u4:AN 4=VI tq:=by rw[q 4 (by decide)];simp only[g4,VX,Nat.reduceEqDiff,Nat.reduceAdd]
   generalize bU ((l.drop (tq-9)).take 9)=X at *
   have e4:=e4 X
   have e5:=e5 X
   have eP:=eP X
   simp only[u0,u3,u4,q6,e4,e5,eP,wz,VX,Nat.reduceEqDiff,Nat.reduceAdd]
   refine⟨(out++[X],((tq-9:Nat):Int)),by simp only;omega,?_,by simp only;omega,by simp only;omega,?_,?_,?_,?_⟩
   ·simp
   ·simp only[aLp,aLo,aMR];omega
   ·intro d hdm
    rcases aMa.1 hdm with h | h
    ·exact hds d h
    ·rw[aMk] at h;omega
   ·simp only[aMA]
    rw[hv,k1,wF,aLp,List.length_singleton,Nat.pow_succ]
    grind
   ·simp
  ·obtain⟨k1,k2⟩:=key 0 (by omega) (by omega)
   rw[aOl,NW,Nat.zero_mul,aMM,aOI] at k1
   rw[aOI] at k2
   have wz:IntKind.i64.wrap ((tq:Int)-9)=(tq:Int)-9:=wrap64 (by omega) (by omega)
   simp only[oM,g0,g3,g4,lQ,h9,VX,Nat.reduceEqDiff,Nat.reduceAdd]
   refine Ph (l:=l) hd (by omega) (fr:=0) (tq:=tq) (by omega) (by omega) (by omega) ?_ ?_ ?_ ?_ fun AN q q6 => ?_
   all_goals first | (simp only[g0,g4,VX,Nat.reduceEqDiff,Nat.reduceAdd];done) | (simp only[VX,Nat.reduceEqDiff,Nat.reduceAdd];rfl) | skip
   rw[aOI] at q6
   have u3:AN 3 = .ref 0 out.length 0 out.length out.length:=by rw[q 3 (by decide)];simp only[g3,VX,Nat.reduceEqDiff,Nat.reduceAdd]
   have u0:AN 0=bE l:=by rw[q 0 (by decide)];simp only[g0,VX,Nat.reduceEqDiff,Nat.reduceAdd]
   have u4:AN 4=VI tq:=by rw[q 4 (by decide)];simp only[g4,VX,Nat.reduceEqDiff,Nat.reduceAdd]
   generalize bU ((l.drop 0).take tq)=X at *
   have e4:=e4 X
   have e5:=e5 X
   have eP:=eP X
   simp only[u0,u3,u4,q6,e4,e5,eP,wz,VX,Nat.reduceEqDiff,Nat.reduceAdd]
   refine⟨(out++[X],(tq:Int)-9),by simp only;omega,?_,by simp only;omega,by simp only;omega,?_,?_,?_,?_⟩
   ·simp
   ·simp only[aLp,aLo,aMR];omega
   ·intro d hdm
    rcases aMa.1 hdm with h | h
    ·exact hds d h
    ·rw[aMk] at h;omega
   ·simp only
    rw[show ((tq:Int)-9).toNat=0 by omega,aOl,NW,Nat.mul_zero,aNq,hv,k1,wF]
   ·simp
 ·have h0:z.toNat=0:=by omega
  rw[h0,aOl,NW,Nat.mul_zero,aNq] at hv
  rw[hv]
  have ct:=TC.asM (f:=tV) (xs:=out) (size:=1) (e:=1) (w:=true) (H:=[.row out.length (out.map tV) 1 true]) (b:=0) (gn:=out.length) (n:=out.length) (c:=out.length) (wG out hds (by show out.length≤70368744177664;omega)) aQ rfl (aLe _) IJ (fun _=>rfl) rfl rfl
  simp only[oM,g0,g3,g4,lQ,ct,VX,Nat.reduceEqDiff,Nat.reduceAdd]
  exact aK (cG _)
end Go.PM
namespace Go.PM
open Go.Lib
def FN (l:List UInt8):VV:=match Bo l with
 | some q => .eH [aS q,VB true]
 | none => .eH [Oe,VB false]
theorem Bj (q:Rat):aY (aS q)=true:=by simp[aS,aY,aO,cG,qM]
theorem Q7 (q:Rat):gV (aS q)=true:=by simp[aS,gV,rE,pZ,qM]
theorem XA (l:List UInt8):gV (FN l)=true:=by
 unfold FN
 split<;>simp[gV,rE,Q7,UE,qM]
theorem Pz {neg:Bool} {t b:Nat} (hb:b≠0) (hg:aNN t b=1) (hn:¬(neg=true∧t=0)):aS (mkRat (mF neg t) b) = .agg [VB neg,bW t,bW b]:=by
 obtain⟨e1,e2⟩:=My (neg:=neg) hb hg
 refine NL ?_ (by rw[e1,qX]) e2
 rw[e1]
 cases neg with
 | false=>unfold mF;simp
 |
  true =>
  have:t≠0:=fun h=>hn ⟨rfl,h⟩
  unfold mF
  simp
  omega
theorem Gt {n:Nat}:(((aD 1000000000 n).length:Nat):Int)=0↔n=0:=by
 rw[←nQ (b:=1000000000) (n:=n) (by decide),←aOn]
 omega
theorem UX {neg:Bool} {d t:List UInt8} (h:(47:UInt8)∈t):sF neg d (some t)=none:=by
 have ht:jE t=false:=by
  cases hk:jE t with
  | false=>rfl
  | true=>exact absurd h (alJ (lC.1 hk).1)
 unfold sF
 split
 ·rfl
 ·simp only
  rw[if_neg (fun h=>by rw[ht] at h;exact absurd h.1 (by decide))]
theorem at_one (x:List UInt8) (H:aA):bI 1 (aC bE [x]) (VI 0) H=some (.cS (bE x) 0):=aF (f:=bE) (t := .op) (H:=H) (size:=1) (k := .i64) (xs:=[x]) (i:=0) rfl rfl
theorem asP (x y:List UInt8) (H:aA):bI 1 (aC bE [x,y]) (VI 0) H=some (.cS (bE x) 0):=aF (f:=bE) (t := .op) (H:=H) (size:=1) (k := .i64) (xs:=[x,y]) (i:=0) rfl rfl
theorem auF (x y:List UInt8) (H:aA):bI 1 (aC bE [x,y]) (VI 1) H=some (.cS (bE y) 0):=aF (f:=bE) (t := .op) (H:=H) (size:=1) (k := .i64) (xs:=[x,y]) (i:=1) rfl rfl
theorem ZH (x:List UInt8) (H:aA):pV (aC bE [x]) H=some (VI 1):=eK (f:=bE) (xs:=[x])
theorem asX (x y:List UInt8) (H:aA):pV (aC bE [x,y]) H=some (VI 2):=eK (f:=bE) (xs:=[x,y])
set_option maxRecDepth 100000 in
set_option maxHeartbeats 4000000 in
theorem Nj (l:List UInt8) (hl:l.length≤1000000000):TC 110 [bE l] (FN l):=by
 refine TC.walk ⟨true,false⟩ Nn rfl (aM2 rfl) rfl (XA l) ?_
 by_cases Ci:l=[]
 ·subst Ci
  have eC:TC 167 [.sc (.string ⟨#[]⟩),.sc (.int .u8 47)] (aC bE [[]]):=HN [] 47 (by simp)
  have eD:TC 168 [.sc (.string ⟨#[]⟩)] (VB false):=sX [] (by simp)
  have e1:Dw (.string ⟨#[]⟩)=some (.int .i64 0):=rfl
  have a1:=at_one []
  have a2:=ZH []
  simp only[cB,bL,e1,eC,eD,a1,a2,Int.reduceLT,Int.reduceLE,aI,gC,Nat.reduceLeDiff,Nat.reduceLT,Nat.reduceSub,VX,Nat.reduceEqDiff,Nat.reduceAdd]
  exact bN (d:=6) iA (aM (v:=VB false) rfl)
 have hp:0<l.length:=aNM.2 Ci
 have lQ:(0:Int)<(l.length:Int):=by omega
 have e0:=KN l hp
 unfold FN
 unfold Bo
 have mG:isNeg l=decide (((l.getD 0 0).toNat:Int)=45):=by
  unfold isNeg
  rw[decide_eq_true (show 1≤l.length from hp),Bool.true_and]
  refine decide_eq_decide.2 ⟨fun h=>by rw[h];rfl,fun h=>UInt8.toNat_inj.1 (by rw[show (45:UInt8).toNat=45 from rfl];omega)⟩
 have Xi:(if isNeg l=true then l.drop 1 else l).length≤l.length:=by split<;>simp
 have q0:isNeg l=false→¬((l.getD 0 0).toNat:Int)=45:=fun h=>by rw[mG] at h;exact of_decide_eq_false h
 have q9:isNeg l=true→((l.getD 0 0).toNat:Int)=45:=fun h=>by rw[mG] at h;exact of_decide_eq_true h
 have r0:isNeg l=false→(if isNeg l=true then l.drop 1 else l)=l:=fun h=>by rw[h];rfl
 have r9:isNeg l=true→zW (bE l) (some (VI 1)) none=some (bE (if isNeg l=true then l.drop 1 else l)):=fun h=>by rw[h];exact Rp l (a:=1) hp
 generalize (if isNeg l=true then l.drop 1 else l)=r at *
 generalize isNeg l=neg at *
 clear mG
 have eC:TC 167 [bE r,.sc (.int .u8 47)] (aC bE (iZ 47 r)):=HN r 47 (by omega)
 obtain⟨l1,l2⟩:=U6 (c:=47) (l:=r)
 cases hs:(oF 47 r).2 with
 |
  none =>
  have hd:=(Dc hs).2.1
  rw[Wn hs] at eC
  rw[hd]
  have a1:=at_one r
  have a2:=ZH r
  have eD:=sX r (by omega)
  cases hk:jE r with
  |
   false =>
   rw[hk] at eD
   have hpa:sF neg r none=none:=if_pos (.inl hk)
   rw[hpa]
   cases neg with
   |
    false =>
    have q1:=q0 rfl
    have Xi:=r0 rfl
    subst Xi
    simp only[cB,bL,bQ,lQ,e0,q1,eC,eD,a1,a2,Int.reduceLT,aI,bD,aR,aX,eU,gP,eQ,gO,gC,Nat.reduceLeDiff,Nat.reduceLT,Nat.reduceSub,VX,Nat.reduceEqDiff,Nat.reduceAdd]
    exact bN (d:=6) iA (aM (v:=VB false) rfl)
   |
    true =>
    have q1:=q9 rfl
    have e9:=r9 rfl
    simp only[cB,bL,bQ,lQ,e0,q1,eC,eD,a1,a2,Int.reduceLT,e9,aI,bD,aR,aX,eU,gP,eQ,gO,gC,Nat.reduceLeDiff,Nat.reduceLT,Nat.reduceSub,VX,Nat.reduceEqDiff,Nat.reduceAdd]
    exact bN (d:=6) iA (aM (v:=VB false) rfl)
  |
   true =>
   rw[hk] at eD
   have hbt:=AZ hk
   have eN:=vW r (lC.1 hk).1 (by omega)
   by_cases hz:neg=true∧bU r=0
   ·have hpa:sF neg r none=none:=if_pos (.inr hz)
    rw[hpa]
    obtain⟨rfl,KU⟩:=hz
    have q1:=q9 rfl
    have e9:=r9 rfl
    have K0:(((aD 1000000000 (bU r)).length:Nat):Int)=0:=Gt.2 KU
    simp only[cB,bL,bQ,lQ,e0,q1,eC,eD,a1,a2,eN,e9,cJ,K0,Int.reduceLT,aI,bD,aR,aX,eU,gP,eQ,gO,gC,Nat.reduceLeDiff,Nat.reduceLT,Nat.reduceSub,VX,Nat.reduceEqDiff,Nat.reduceAdd]
    exact bN (d:=6) iA (aM (v:=VB false) rfl)
   ·have Cz:neg=true→¬(((aD 1000000000 (bU r)).length:Nat):Int)=0:=fun h h0=>hz ⟨h,Gt.1 h0⟩
    have hpa:sF neg r none=some (mkRat (mF neg (bU r)) 1):=if_neg (by rw[hk];rintro(h | h);exact absurd h (by decide);exact hz h)
    rw[hpa]
    simp only[]
    rw[Pz (by decide) (Nat.gcd_one_right _) hz]
    cases neg with
    |
     false =>
     have q1:=q0 rfl
     have Xi:=r0 rfl
     subst Xi
     simp only[cB,bL,bQ,lQ,e0,q1,eC,eD,a1,a2,eN,Int.reduceLT,Int.reduceEq,aI,bD,aR,aX,eU,gP,eQ,gO,gC,Nat.reduceLeDiff,Nat.reduceLT,Nat.reduceSub,VX,Nat.reduceEqDiff,Nat.reduceAdd]
     exact bN (d:=6) (uT (aM (v:=VB false) rfl) (aM (cG _)) Sz) (aM (v:=VB true) rfl)
    |
     true =>
     have q1:=q9 rfl
     have e9:=r9 rfl
     have K0:=Cz rfl
     simp only[cB,bL,bQ,lQ,e0,q1,eC,eD,a1,a2,eN,Int.reduceLT,Int.reduceEq,e9,cJ,K0,aI,bD,aR,aX,eU,gP,eQ,gO,gC,Nat.reduceLeDiff,Nat.reduceLT,Nat.reduceSub,VX,Nat.reduceEqDiff,Nat.reduceAdd]
     exact bN (d:=6) (uT (aM (v:=VB true) rfl) (aM (cG _)) Sz) (aM (v:=VB true) rfl)
 |
  some t =>
  have ltt:=l2 t hs
  rw[L7 hs] at eC
  generalize (oF 47 r).1=d at *
  by_cases hm:(47:UInt8)∈t
  ·rw[UX hm]
   have hP:=Uw hm
   generalize hPP:iZ 47 t=P at *
   have a2:∀H,pV (aC bE (d::P)) H=some (VI ((d::P).length:Int)):=fun H=>eK (f:=bE) (xs:=d::P)
   have hq3:(2:Int)<((d::P).length:Int):=by rw[aLo];omega
   generalize hQQ:d::P=PP at *
   clear hQQ hPP hP
   cases neg with
   |
    false =>
    have q1:=q0 rfl
    have Xi:=r0 rfl
    subst Xi
    simp only[cB,bL,bQ,lQ,e0,q1,eC,a2,hq3,aI,bD,aR,aX,eU,gP,eQ,gO,gC,Nat.reduceLeDiff,Nat.reduceLT,Nat.reduceSub,VX,Nat.reduceEqDiff,Nat.reduceAdd]
    exact bN (d:=6) iA (aM (v:=VB false) rfl)
   |
    true =>
    have q1:=q9 rfl
    have e9:=r9 rfl
    simp only[cB,bL,bQ,lQ,e0,q1,eC,a2,hq3,e9,aI,bD,aR,aX,eU,gP,eQ,gO,gC,Nat.reduceLeDiff,Nat.reduceLT,Nat.reduceSub,VX,Nat.reduceEqDiff,Nat.reduceAdd]
    exact bN (d:=6) iA (aM (v:=VB false) rfl)
  ·rw[Ih hm] at eC
   have a1:=asP d t
   have a3:=auF d t
   have a2:=asX d t
   have eD:=sX d (by omega)
   have eF:=sX t (by omega)
   cases hk:jE d with
   |
    false =>
    rw[hk] at eD
    have hpa:sF neg d (some t)=none:=if_pos (.inl hk)
    rw[hpa]
    cases neg with
    |
     false =>
     have q1:=q0 rfl
     have Xi:=r0 rfl
     subst Xi
     simp only[cB,bL,bQ,lQ,e0,q1,eC,eD,a1,a2,Int.reduceLT,aI,bD,aR,aX,eU,gP,eQ,gO,gC,Nat.reduceLeDiff,Nat.reduceLT,Nat.reduceSub,VX,Nat.reduceEqDiff,Nat.reduceAdd]
     exact bN (d:=6) iA (aM (v:=VB false) rfl)
    |
     true =>
     have q1:=q9 rfl
     have e9:=r9 rfl
     simp only[cB,bL,bQ,lQ,e0,q1,eC,eD,a1,a2,Int.reduceLT,e9,aI,bD,aR,aX,eU,gP,eQ,gO,gC,Nat.reduceLeDiff,Nat.reduceLT,Nat.reduceSub,VX,Nat.reduceEqDiff,Nat.reduceAdd]
     exact bN (d:=6) iA (aM (v:=VB false) rfl)
   |
    true =>
    rw[hk] at eD
    have hbt:=AZ hk
    have eN:=vW d (lC.1 hk).1 (by omega)
    by_cases hz:neg=true∧bU d=0
    ·have hpa:sF neg d (some t)=none:=if_pos (.inr hz)
     rw[hpa]
     obtain⟨rfl,KU⟩:=hz
     have q1:=q9 rfl
     have e9:=r9 rfl
     have K0:(((aD 1000000000 (bU d)).length:Nat):Int)=0:=Gt.2 KU
     simp only[cB,bL,bQ,lQ,e0,q1,eC,eD,a1,a2,eN,e9,cJ,K0,Int.reduceLT,aI,bD,aR,aX,eU,gP,eQ,gO,gC,Nat.reduceLeDiff,Nat.reduceLT,Nat.reduceSub,VX,Nat.reduceEqDiff,Nat.reduceAdd]
     exact bN (d:=6) iA (aM (v:=VB false) rfl)
    ·have Cz:neg=true→¬(((aD 1000000000 (bU d)).length:Nat):Int)=0:=fun h h0=>hz ⟨h,Gt.1 h0⟩
     have hpa:sF neg d (some t)=if jE t=true∧1<bU t∧aNN (bU d) (bU t)=1 then some (mkRat (mF neg (bU d)) (bU t)) else none:=if_neg (by rw[hk];rintro(h | h);exact absurd h (by decide);exact hz h)
     rw[hpa]
     clear hpa
     cases ht:jE t with
     |
      false =>
      rw[ht] at eF
      rw[if_neg (fun h=>absurd h.1 (by decide))]
      cases neg with
      |
       false =>
       have q1:=q0 rfl
       have Xi:=r0 rfl
       subst Xi
       simp only[cB,bL,bQ,lQ,e0,q1,eC,eD,eF,a1,a2,a3,eN,Int.reduceLT,Int.reduceEq,aI,bD,aR,aX,eU,gP,eQ,gO,gC,Nat.reduceLeDiff,Nat.reduceLT,Nat.reduceSub,VX,Nat.reduceEqDiff,Nat.reduceAdd]
       exact bN (d:=6) iA (aM (v:=VB false) rfl)
      |
       true =>
       have q1:=q9 rfl
       have e9:=r9 rfl
       have K0:=Cz rfl
       simp only[cB,bL,bQ,lQ,e0,q1,eC,eD,eF,a1,a2,a3,eN,Int.reduceLT,Int.reduceEq,e9,cJ,K0,aI,bD,aR,aX,eU,gP,eQ,gO,gC,Nat.reduceLeDiff,Nat.reduceLT,Nat.reduceSub,VX,Nat.reduceEqDiff,Nat.reduceAdd]
       exact bN (d:=6) iA (aM (v:=VB false) rfl)
     |
      true =>
      rw[ht] at eF
      have N7:=AZ ht
      have eM:=vW t (lC.1 ht).1 (by omega)
      have c2:∀lo H K,_:=fun lo H K=>Nq (n:=bU t) (lo:=lo) (H:=H) (K:=K) (aLV (oX (by omega)))
      have c3:=HR (bU d) (bU t) (oX (by omega)) (oX (by omega))
      by_cases h1:gA (bU t) 1≤0
      ·have hle:¬1<bU t:=fun h=>by unfold gA at h1;rw[if_neg (by omega),if_neg (by omega)] at h1;exact absurd h1 (by decide)
       rw[if_neg (fun h=>hle h.2.1)]
       cases neg with
       |
        false =>
        have q1:=q0 rfl
        have Xi:=r0 rfl
        subst Xi
        simp only[cB,bL,bQ,lQ,e0,q1,eC,eD,eF,a1,a2,a3,eN,eM,c2,h1,Int.reduceLT,Int.reduceEq,aI,bD,aR,aX,eU,gP,eQ,gO,gC,Nat.reduceLeDiff,Nat.reduceLT,Nat.reduceSub,VX,Nat.reduceEqDiff,Nat.reduceAdd]
        exact bN (d:=6) iA (aM (v:=VB false) rfl)
       |
        true =>
        have q1:=q9 rfl
        have e9:=r9 rfl
        have K0:=Cz rfl
        simp only[cB,bL,bQ,lQ,e0,q1,eC,eD,eF,a1,a2,a3,eN,eM,c2,h1,Int.reduceLT,Int.reduceEq,e9,cJ,K0,aI,bD,aR,aX,eU,gP,eQ,gO,gC,Nat.reduceLeDiff,Nat.reduceLT,Nat.reduceSub,VX,Nat.reduceEqDiff,Nat.reduceAdd]
        exact bN (d:=6) iA (aM (v:=VB false) rfl)
      ·have bH:1<bU t:=by
        rcases Nat.lt_or_ge 1 (bU t) with h | h
        ·exact h
        ·exfalso
         apply h1
         unfold gA
         split<;>(try split)<;>first | decide | omega
       have hgl:bl (aNN (bU d) (bU t))≤665:=aLf (lY (Nat.le_of_dvd (by omega) (Nat.gcd_dvd_right _ _))) N7
       have c4:∀lo H K,_:=fun lo H K=>Nq (n:=aNN (bU d) (bU t)) (lo:=lo) (H:=H) (K:=K) (aLV (oX (by omega)))
       by_cases hg:aNN (bU d) (bU t)=1
       ·have h4:gA (aNN (bU d) (bU t)) 1=0:=by rw[hg];rfl
        rw[if_pos ⟨rfl,bH,hg⟩]
        simp only[]
        rw[Pz (by omega) hg hz]
        cases neg with
        |
         false =>
         have q1:=q0 rfl
         have Xi:=r0 rfl
         subst Xi
         simp only[cB,bL,bQ,lQ,e0,q1,eC,eD,eF,a1,a2,a3,eN,eM,c2,c3,c4,h1,h4,Int.reduceLT,Int.reduceEq,aI,bD,aR,aX,eU,gP,eQ,gO,gC,Nat.reduceLeDiff,Nat.reduceLT,Nat.reduceSub,VX,Nat.reduceEqDiff,Nat.reduceAdd]
         exact bN (d:=6) (uT (aM (v:=VB false) rfl) (aM (cG _)) (aM (cG _))) (aM (v:=VB true) rfl)
        |
         true =>
         have q1:=q9 rfl
         have e9:=r9 rfl
         have K0:=Cz rfl
         simp only[cB,bL,bQ,lQ,e0,q1,eC,eD,eF,a1,a2,a3,eN,eM,c2,c3,c4,h1,h4,Int.reduceLT,Int.reduceEq,e9,cJ,K0,aI,bD,aR,aX,eU,gP,eQ,gO,gC,Nat.reduceLeDiff,Nat.reduceLT,Nat.reduceSub,VX,Nat.reduceEqDiff,Nat.reduceAdd]
         exact bN (d:=6) (uT (aM (v:=VB true) rfl) (aM (cG _)) (aM (cG _))) (aM (v:=VB true) rfl)
       ·have h4:¬gA (aNN (bU d) (bU t)) 1=0:=by
         unfold gA
         split<;>(try split)<;>first | decide | omega
        rw[if_neg (fun h=>hg h.2.2)]
        cases neg with
        |
         false =>
         have q1:=q0 rfl
         have Xi:=r0 rfl
         subst Xi
         simp only[cB,bL,bQ,lQ,e0,q1,eC,eD,eF,a1,a2,a3,eN,eM,c2,c3,c4,h1,h4,Int.reduceLT,Int.reduceEq,aI,bD,aR,aX,eU,gP,eQ,gO,gC,Nat.reduceLeDiff,Nat.reduceLT,Nat.reduceSub,VX,Nat.reduceEqDiff,Nat.reduceAdd]
         exact bN (d:=6) iA (aM (v:=VB false) rfl)
        |
         true =>
         have q1:=q9 rfl
         have e9:=r9 rfl
         have K0:=Cz rfl
         simp only[cB,bL,bQ,lQ,e0,q1,eC,eD,eF,a1,a2,a3,eN,eM,c2,c3,c4,h1,h4,Int.reduceLT,Int.reduceEq,e9,cJ,K0,aI,bD,aR,aX,eU,gP,eQ,gO,gC,Nat.reduceLeDiff,Nat.reduceLT,Nat.reduceSub,VX,Nat.reduceEqDiff,Nat.reduceAdd]
         exact bN (d:=6) iA (aM (v:=VB false) rfl)
end Go.PM
namespace Go.PM
open Go.Lib
end Go.PM