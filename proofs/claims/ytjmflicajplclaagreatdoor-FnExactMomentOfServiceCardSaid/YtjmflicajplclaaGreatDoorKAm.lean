/- Texts of a claim, in one: part 13. -/
import Derived.KernelRfl
import Derived.Test.YtjmflicajplclaaGreatDoorKAl
open And renaming intro → aMk
open Bool renaming and_self → aL2,true_and → aOg
open Int renaming toNat_natCast → aL0
open List renaming all_eq_true → aKS,append_assoc → aMq,cons_append → aL4,findIdx?_eq_none_iff → aNX,findIdx?_eq_some_iff_getElem → aNY,getD_eq_getElem?_getD → aKB,getElem?_cons_succ → aMo,getElem?_cons_zero → aKY,getElem?_eq_getElem → aKL,getElem?_eq_some_iff → aKD,length_append → aKP,length_cons → aKO,length_drop → aM5,length_eq_zero_iff → aMM,length_nil → aMh,length_pos_iff → aNC,length_take → aMd,mapM_cons → aL1,mem_append → aLA,mem_of_getElem? → aLy,mem_of_mem_drop → aLC,mem_of_mem_take → aLB,mem_singleton → aLK,nil_append → aLW,set_cons_zero → aMi,take_add_one → aMu,take_append_drop → aLN,take_length → aLR,take_of_length_le → aLx,take_zero → aNT
open Nat renaming gcd → aNm,le_of_ble_eq_true → aMs,le_of_lt → aLl,le_refl → aKE,pow_le_pow_right → aMH,sub_zero → aOh,zero_add → aMc,zero_le → aK8,zero_lt_one → aNW
set_option linter.unusedSimpArgs false
set_option linter.unusedVariables false
namespace Go.PM
open Go.Lib
def eH (s:vJ):Option (List Rat×List (List Rat)×List Rat):=if (1≤s.b.length∧s.b.length≤6)∧s.g.length=s.b.length∧s.e.length=s.b.length then
  match mT s.b,tC s.e with
  | some w,some r=>if (r.any fun q=>decide (q<0))=false then (iR s.g s.b.length).map fun m=>(w,m,r) else none
  | _,_=>none
 else none
def EW (x:List Rat×List (List Rat)×List Rat):Bool:=(qJ x.2.1 x.2.2 x.2.2.length x.2.2.length).all id
def ZQ:VV := .agg [.tree [] .op,.tree [] .op,.tree [] .op]
def QC (s:vJ):VV:=match eH s with
 | some x => .dW [CJ aF x.1 x.2.1 x.2.2,VB (EW x)]
 | none => .dW [ZQ,VB false]
theorem K0 (b:List Rat) (g:List (List Rat)) (e:List Rat):aY (CJ aF b g e)=true:=by
 show aO [aC aF b,aC (aC aF) g,aC aF e]=true
 simp only[aO,gO,Jq,aL2]
theorem alN (b:List Rat) (g:List (List Rat)) (e:List Rat):gU (CJ aF b g e)=true:=by
 show sO [aC aF b,aC (aC aF) g,aC aF e]=true
 simp only[sO,Gx,arX,aL2]
theorem aiR (s:vJ):gU (QC s)=true:=by
 unfold QC
 split
 ·exact zY (alN _ _ _) rfl
 ·exact zY (by decide) rfl
theorem TR {s:vJ} {x:List Rat×List (List Rat)×List Rat} (h:eH s=some x):(1≤x.1.length∧x.1.length≤6)∧x.2.1.length=x.1.length∧x.2.2.length=x.1.length∧kE x.1=true∧(∀q∈x.1,aL q≤665)∧(∀r∈x.2.1,r.length=x.1.length∧∀q∈r,0≤q∧aL q≤665)∧(∀q∈x.2.2,0≤q∧aL q≤665):=by
 unfold eH at h
 split at h
 ·rename_i hl
  split at h
  ·rename_i w r h1 h2
   split at h
   ·rename_i mK
    obtain⟨m,hm,rfl⟩:=Option.map_eq_some_iff.1 h
    obtain⟨k1,k2⟩:=Qe h1
    obtain⟨b1,_,b3⟩:=nH k1
    obtain⟨c1,_,c3⟩:=nH h2
    obtain⟨d1,d2⟩:=tZ hm
    refine⟨by simp only;omega,by simp only;omega,by simp only;omega,k2,b1,fun r hr=>⟨by have:=(d2 r hr).1;simp only;omega,(d2 r hr).2⟩,fun q hq=>⟨?_,c1 q hq⟩⟩
    have:=List.any_eq_false.1 mK q hq
    exact Rat.not_lt.1 (by simpa using this)
   ·cases h
  ·cases h
 ·cases h
theorem Hq (bs:List Bool) (b:Bool) (hn:bs.length≤1000000):TC 213 [aC (fun b=>VB b) bs,VB b] (VI (match bs.findIdx? (· == b) with | some i=>(i:Int) | none => -1)):=by
 refine TC.walk ⟨true,false⟩ AA rfl (aMs rfl) (Ak (MM _) rfl) rfl ?_
 simp only[tD,qS,dR,VX,Nat.reduceEqDiff,Nat.reduceAdd,Nat.reduceLeDiff,Nat.reduceLT,Nat.reduceSub]
 refine aP (fun(i:Nat) ρ H=>i≤bs.length∧H=[]∧(∀x∈bs.take i,(x == b)=false)∧ρ 0=aC (fun b=>VB b) bs∧ρ 1=VB b∧ρ 7=VI bs.length∧ρ 8=VI i) (fun i=>bs.length-i) 0 ⟨aK8 _,rfl,by simp,rfl,rfl,rfl,rfl⟩ ?_
 rintro i ρ H ⟨hi,rfl,ht,g0,g1,g7,g8⟩
 by_cases bW:(i:Int)<(bs.length:Int)
 ·obtain⟨x,hx⟩:∃x,bs[i]? = some x:=⟨_,aKL (by omega)⟩
  have a1:=fun H=>aH (f:=fun b=>VB b) (t := .op) (H:=H) (size:=1) (k := .i64) hx rfl
  have wi:IntKind.i64.wrap ((i:Int)+1)=((i+1:Nat):Int):=wrapN (i+1) (by omega) (by omega)
  by_cases hxb:(x == b)=true
  ·have hf:bs.findIdx? (· == b)=some i:=by
    rw[aNY]
    refine⟨by omega,by rw[aKD] at hx;obtain⟨h1,h2⟩:=hx;rw[h2];exact hxb,fun j hj => ?_⟩
    have:=ht bs[j] (List.mem_take_iff_getElem.2 ⟨j,by omega,rfl⟩)
    simpa using this
   have e1:OO false (.bool b) (.bool x)=some (.bool true):=by
    have:x=b:=by simpa using hxb
    subst this
    cases x<;>rfl
   rw[hf]
   simp only[gI,g0,g1,g7,g8,bW,a1,e1,dR,VX,Nat.reduceEqDiff,Nat.reduceAdd,Nat.reduceLeDiff,Nat.reduceLT,Nat.reduceSub]
   exact aJ rfl
  ·have e1:OO false (.bool b) (.bool x)=some (.bool false):=by
    cases x<;>cases b<;>first | rfl | exact absurd rfl hxb
   simp only[gI,g0,g1,g7,g8,bW,a1,e1,wi,dR,VX,Nat.reduceEqDiff,Nat.reduceAdd,Nat.reduceLeDiff,Nat.reduceLT,Nat.reduceSub]
   refine⟨i+1,by omega,by omega,fun y hy => ?_,by (repeat' apply aMk)<;>first | rfl | trivial | assumption⟩
   rw[sP hx] at hy
   rcases aLA.1 hy with h | h
   ·exact ht y h
   ·rw[aLK] at h
    subst h
    simpa using hxb
 ·have mH:i=bs.length:=by omega
  subst mH
  rw[aLR] at ht
  have hf:bs.findIdx? (· == b)=none:=by
   rw[aNX]
   exact ht
  rw[hf]
  simp only[gI,g7,g8,bW,dR,VX,Nat.reduceEqDiff,Nat.reduceAdd,Nat.reduceLeDiff,Nat.reduceLT,Nat.reduceSub]
  exact aJ rfl
theorem D0 (bs:List Bool) (hn:bs.length≤1000000):TC 194 [aC (fun b=>VB b) bs,VB false] (VB (!bs.all id)):=by
 refine TC.walk ⟨true,false⟩ yT rfl (aMs rfl) (Ak (MM _) rfl) rfl ?_
 have e1:=Hq bs false hn
 cases hf:bs.findIdx? (· == false) with
 |
  none =>
  rw[hf] at e1
  have ha:bs.all id=true:=by
   rw[aNX] at hf
   rw[aKS]
   intro x hx
   have:=hf x hx
   cases x<;>first | rfl | cases this
  have g:¬(0:Int) ≤ -1:=by decide
  rw[ha]
  simp only[kK,jF,e1,g,ge_iff_le,Int.reduceNeg,Bool.not_true,dR,VX,Nat.reduceEqDiff,Nat.reduceAdd,Nat.reduceLeDiff,Nat.reduceLT,Nat.reduceSub]
  exact aJ rfl
 |
  some i =>
  rw[hf] at e1
  have ha:bs.all id=false:=by
   rw[aNY] at hf
   obtain⟨h1,h2,_⟩:=hf
   cases jO:bs.all id with
   | false=>rfl
   |
    true =>
    have:=aKS.1 jO bs[i] (List.getElem_mem h1)
    simp only[id] at this
    rw[this] at h2
    cases h2
  have g:(0:Int)≤(i:Int):=by omega
  rw[ha]
  simp only[kK,jF,e1,g,ge_iff_le,Bool.not_false,dR,VX,Nat.reduceEqDiff,Nat.reduceAdd,Nat.reduceLeDiff,Nat.reduceLT,Nat.reduceSub]
  exact aJ rfl
def W8 (B E:VV) (i:Nat) (out:List (List Rat)):aA:=match i with
 | 0=>[kQ,.row 0 [.agg [B,.tree [] .nil,E]] 3 true]
 | i+1=>[kQ,.row 0 [.agg [B,.ref 2 i 0 (i+1) (i+1),E]] 3 true,.row i (out.map (aC aF)) 1 true]
theorem apT {H:aA}:PM.fz depth H (.dW [.agg [.tree [] .nil,.tree [] .nil,.tree [] .nil],VB false])=some (.dW [ZQ,VB false]):=by
 refine bN (d:=6) (GQ (d:=5) ?_) (aM (v:=VB false) rfl)
 rw[aL1,Cd,aL1,Cd,aL1,Cd]
 rfl
set_option maxHeartbeats 4000000 in
theorem Kn (s:vJ) (hb:Sx s):TC 176 [vU s] (QC s):=by
 refine TC.walk ⟨true,false⟩ Ld rfl (aMs rfl) (KR (rE _)) (aiR _) ?_
 have zD:=hb.b4
 have hel:=hb.e4
 have bad:eH s=none→∀K,PM.fz depth K (.dW [.agg [.tree [] .nil,.tree [] .nil,.tree [] .nil],VB false])=some (QC s):=fun h K=>by
  have:QC s = .dW [ZQ,VB false]:=by unfold QC;rw[h]
  rw[this]
  exact apT
 have K7:∀K:aA,bL 0 3 (.ptr 0 0 0 0) (.agg [.tree [] .nil,.tree [] .nil,.tree [] .nil]) (kQ::K)=some (kQ::K):=fun K=>by
  unfold kQ
  rw[bS (e:=3) aU (by exact aNW) (aKE _) rfl rfl]
  rfl
 have S8:∀K:aA,bF true 3 (.ptr 0 0 0 0) (kQ::K)=some (.agg [.tree [] .nil,.tree [] .nil,.tree [] .nil]):=fun K=>by
  rw[bK,aU]
  rfl
 by_cases h1:(s.b.length:Int)<1
 ·have bad:=bad (by unfold eH;exact if_neg (by omega))
  simp only[gA,dY,vU,h1,K7,S8,dU,aKY,aMo,aMc,aLW,aMh,dR,VX,Nat.reduceEqDiff,Nat.reduceAdd,Nat.reduceLeDiff,Nat.reduceLT,Nat.reduceSub]
  exact bad _
 by_cases h6:(6:Int)<(s.b.length:Int)
 ·have bad:=bad (by unfold eH;exact if_neg (by omega))
  simp only[gA,dY,vU,h1,h6,K7,S8,dU,aKY,aMo,aMc,aLW,aMh,dR,VX,Nat.reduceEqDiff,Nat.reduceAdd,Nat.reduceLeDiff,Nat.reduceLT,Nat.reduceSub]
  exact bad _
 by_cases hg:(s.g.length:Int)=(s.b.length:Int)
 case neg =>
  have bad:=bad (by unfold eH;exact if_neg (by omega))
  simp only[gA,dY,vU,h1,h6,hg,K7,S8,dU,aKY,aMo,aMc,aLW,aMh,ne_eq,not_false_eq_true,decide_true,dR,VX,Nat.reduceEqDiff,Nat.reduceAdd,Nat.reduceLeDiff,Nat.reduceLT,Nat.reduceSub]
  exact bad _
 by_cases he:(s.e.length:Int)=(s.b.length:Int)
 case neg =>
  have bad:=bad (by unfold eH;exact if_neg (by omega))
  simp only[gA,dY,vU,h1,h6,hg,he,K7,S8,dU,aKY,aMo,aMc,aLW,aMh,ne_eq,not_false_eq_true,not_true_eq_false,decide_true,decide_false,dR,VX,Nat.reduceEqDiff,Nat.reduceAdd,Nat.reduceLeDiff,Nat.reduceLT,Nat.reduceSub]
  exact bad _
 have uO:(1≤s.b.length∧s.b.length≤6)∧s.g.length=s.b.length∧s.e.length=s.b.length:=by omega
 have e1:=Lt s.b (by omega) hb.bs
 have e2:=Gc s.e (by omega) hb.es
 cases hw:mT s.b with
 |
  none =>
  rw[hw,rI] at e1
  have bad:=bad (by unfold eH;rw[if_pos uO,hw])
  cases hr:tC s.e with
  |
   none =>
   rw[hr,rI] at e2
   simp only[gA,dY,vU,h1,h6,hg,he,e1,e2,K7,S8,dU,aKY,aMo,aMc,aLW,aMh,ne_eq,not_true_eq_false,decide_false,dR,VX,Nat.reduceEqDiff,Nat.reduceAdd,Nat.reduceLeDiff,Nat.reduceLT,Nat.reduceSub]
   exact bad _
  |
   some r =>
   rw[hr,yJ] at e2
   simp only[gA,dY,vU,h1,h6,hg,he,e1,e2,K7,S8,dU,aKY,aMo,aMc,aLW,aMh,ne_eq,not_true_eq_false,decide_false,dR,VX,Nat.reduceEqDiff,Nat.reduceAdd,Nat.reduceLeDiff,Nat.reduceLT,Nat.reduceSub]
   exact bad _
 |
  some w =>
  rw[hw,yJ] at e1
  cases hr:tC s.e with
  |
   none =>
   rw[hr,rI] at e2
   have bad:=bad (by unfold eH;rw[if_pos uO,hw,hr])
   simp only[gA,dY,vU,h1,h6,hg,he,e1,e2,K7,S8,dU,aKY,aMo,aMc,aLW,aMh,ne_eq,not_true_eq_false,decide_false,dR,VX,Nat.reduceEqDiff,Nat.reduceAdd,Nat.reduceLeDiff,Nat.reduceLT,Nat.reduceSub]
   exact bad _
  |
   some r =>
   rw[hr,yJ] at e2
   obtain⟨A2,BZ,adE⟩:=nH hr
   have e3:=mG r 67 (fun q=>decide (q<0)) (fun q _=>Bn q) (by omega)
   cases Ae:r.any (fun q=>decide (q<0)) with
   |
    true =>
    rw[Ae] at e3
    have bad:=bad (by unfold eH;rw[if_pos uO,hw,hr];exact if_neg (by rw[Ae];decide))
    simp only[gA,dY,vU,h1,h6,hg,he,e1,e2,e3,K7,S8,dU,aKY,aMo,aMc,aLW,aMh,ne_eq,not_true_eq_false,decide_false,dR,VX,Nat.reduceEqDiff,Nat.reduceAdd,Nat.reduceLeDiff,Nat.reduceLT,Nat.reduceSub]
    exact bad _
   |
    false =>
    rw[Ae] at e3
    have Gn:eH s=(iR s.g s.b.length).map fun m=>(w,m,r):=by unfold eH;rw[if_pos uO,hw,hr];exact if_pos Ae
    have s1:bL 0 3 (.ptr 1 0 0 0) (.agg [aC aF w,.tree [] .nil,aC aF r]) [kQ,kQ]=some [kQ,.row 0 [.agg [aC aF w,.tree [] .nil,aC aF r]] 3 true]:=by
     rw[bS (e:=3) (g:=0) (j:=0) (eO.trans aU) (by exact aNW) (by omega) rfl rfl]
     rfl
    simp only[gA,dY,vU,h1,h6,hg,he,e1,e2,e3,s1,dU,aKY,aMo,aMc,aLW,aMh,aKO,aL4,ne_eq,not_true_eq_false,decide_false,dR,VX,Nat.reduceEqDiff,Nat.reduceAdd,Nat.reduceLeDiff,Nat.reduceLT,Nat.reduceSub]
    refine aP (fun(i:Nat) ρ H=>i≤s.b.length∧(∃out,iR s.g i=some out∧H=W8 (aC aF w) (aC aF r) i out)∧ρ 2 = .ptr 0 0 0 0∧ρ 4=VI s.b.length∧ρ 7=aC aF r∧ρ 9 = .ptr 1 0 0 0∧ρ 65=aC gJ s.g∧ρ 66=VI s.b.length∧ρ 67=VI i) (fun i=>s.b.length-i) 0
     ⟨aK8 _,⟨[],rfl,rfl⟩,by (repeat' apply aMk)<;>first | rfl | trivial | assumption⟩ ?_
    rintro i ρ H ⟨hi,⟨out,wM,rfl⟩,g2,g4,g7,g9,g65,g66,g67⟩
    obtain⟨gZ,hof⟩:=tZ wM
    by_cases bW:(i:Int)<(s.b.length:Int)
    ·obtain⟨x,hx⟩:∃x,s.g[i]? = some x:=⟨_,aKL (by omega)⟩
     have hxm:=aLy hx
     have hgd:s.g.getD i []=x:=by rw[aKB,hx];rfl
     have a1:=fun H=>aH (f:=gJ) (t := .op) (H:=H) (size:=1) (k := .i64) hx rfl
     have wi:IntKind.i64.wrap ((i:Int)+1)=((i+1:Nat):Int):=wrapN (i+1) (by omega) (by omega)
     have e4:=Gc x (hb.g9.2 x hxm) (hb.gs x hxm)
     have vL:iR s.g (i+1)=match iC s.g.length i x with | some q=>some (out++[q]) | none=>none:=by
      rw[iR,wM,hgd]
      cases iC s.g.length i x<;>rfl
     have bad:iC s.g.length i x=none→∀K,PM.fz depth K (.dW [.agg [.tree [] .nil,.tree [] .nil,.tree [] .nil],VB false])=some (QC s):=fun h=>by
      rw[h] at vL
      exact bad (by rw[Gn,DV vL s.b.length (by omega)];rfl)
     have arQ:∀i,bL 0 3 (.ptr 0 0 0 0) (.agg [.tree [] .nil,.tree [] .nil,.tree [] .nil]) (W8 (aC aF w) (aC aF r) i out)=some (W8 (aC aF w) (aC aF r) i out):=fun i=>by cases i<;>exact K7 _
     have atN:∀i,bF true 3 (.ptr 0 0 0 0) (W8 (aC aF w) (aC aF r) i out)=some (.agg [.tree [] .nil,.tree [] .nil,.tree [] .nil]):=fun i=>by cases i<;>exact S8 _
     cases HY:tC x with
     |
      none =>
      rw[HY,rI] at e4
      have bad:=bad (by unfold iC;rw[HY])
      simp only[fR,g2,g4,g65,g66,g67,bW,a1,e4,arQ,atN,dR,VX,Nat.reduceEqDiff,Nat.reduceAdd,Nat.reduceLeDiff,Nat.reduceLT,Nat.reduceSub]
      exact bad _
     |
      some y =>
      rw[HY,yJ] at e4
      obtain⟨hyb,hyl,_⟩:=nH HY
      by_cases hl:(y.length:Int)=(s.b.length:Int)
      case neg =>
       have bad:=bad (by unfold iC;rw[HY];exact if_neg (fun h=>hl (by omega)))
       simp only[fR,g2,g4,g65,g66,g67,bW,a1,e4,hl,arQ,atN,ne_eq,not_false_eq_true,decide_true,dR,VX,Nat.reduceEqDiff,Nat.reduceAdd,Nat.reduceLeDiff,Nat.reduceLT,Nat.reduceSub]
       exact bad _
      have e5:=mG y 67 (fun q=>decide (q<0)) (fun q _=>Bn q) (by omega)
      cases I5:y.any (fun q=>decide (q<0)) with
      |
       true =>
       rw[I5] at e5
       have bad:=bad (by unfold iC;rw[HY];exact if_neg (fun h=>by rw[I5] at h;cases h.2.1))
       simp only[fR,g2,g4,g65,g66,g67,bW,a1,e4,e5,hl,arQ,atN,ne_eq,not_true_eq_false,decide_false,dR,VX,Nat.reduceEqDiff,Nat.reduceAdd,Nat.reduceLeDiff,Nat.reduceLT,Nat.reduceSub]
       exact bad _
      |
       false =>
       rw[I5] at e5
       obtain⟨q,hq⟩:∃q,y[i]? = some q:=⟨_,aKL (by omega)⟩
       have hqd:y.getD i 0=q:=by rw[aKB,hq];rfl
       have a2:=fun H=>aH (f:=aF) (t := .op) (H:=H) (size:=3) (k := .i64) hq rfl
       have e6:=dI q
       by_cases hz:jI q=0
       case neg =>
        have bad:=bad (by unfold iC;rw[HY];exact if_neg (fun h=>hz (zJ.2 (by rw[←hqd];exact h.2.2))))
        simp only[fR,g2,g4,g65,g66,g67,bW,a1,a2,e4,e5,e6,hl,hz,arQ,atN,bH,ne_eq,not_true_eq_false,not_false_eq_true,decide_false,decide_true,dR,VX,Nat.reduceEqDiff,Nat.reduceAdd,Nat.reduceLeDiff,Nat.reduceLT,Nat.reduceSub]
        exact bad _
       have mA:iC s.g.length i x=some y:=by unfold iC;rw[HY];exact if_pos ⟨by omega,I5,by rw[hqd,zJ.1 hz]⟩
       rw[mA] at vL
       have eL:∀K,mV false [.slice none 0 0] 1 [(0,aC aF y)] K=some (.tree [aC aF y] (.cl 1),K):=fun K=>iU rfl rfl rfl
       have eS:∀K,cW 1 (.tree [aC aF y] (.cl 1)) K=some [aC aF y]:=fun K=>eU rfl rfl
       cases i with
       |
        zero =>
        have ho:out=[]:=aMM.1 gZ
        subst ho
        have eP:∀K:aA,dO 0 1 24 (.tree [] .nil) [aC aF y] K=some (.ref K.length 0 0 1 1,K++[.row 0 [aC aF y] 1 true]):=fun K=>by simp[dO]
        simp only[fR,W8,g2,g4,g9,g65,g66,g67,bW,a1,a2,e4,e5,e6,hl,hz,eL,eS,eP,wi,bH,ne_eq,not_true_eq_false,decide_false,aKO,aMh,aL4,aLW,gG,Nat.reduceLeDiff,Nat.reduceLT,Nat.reduceSub,nM,cD,cP,gN,lY,pS,bne_iff_ne,ne_eq,not_false_eq_true,not_true_eq_false,VX,Nat.reduceEqDiff,Nat.reduceAdd]
        exact⟨1,by omega,by omega,⟨[y],vL,rfl⟩,by (repeat' apply aMk)<;>first | rfl | trivial | assumption⟩
       |
        succ i =>
        have eP:dO 0 1 24 (.ref 2 i 0 (i+1) (i+1)) [aC aF y] (W8 (aC aF w) (aC aF r) (i+1) out)=some (.ref 2 (i+1) 0 (i+2) (i+2),[kQ,.row 0 [.agg [aC aF w,.ref 2 i 0 (i+1) (i+1),aC aF r]] 3 true,.row (i+1) ((out++[y]).map (aC aF)) 1 true]):=by
         rw[W8,jV (f:=aC aF) (xs:=out) (by rw[eO,eO,aU]) gZ.symm (aK8 _) (by decide) (by decide) (by omega)]
         rfl
        simp only[W8] at eP
        simp only[fR,W8,g2,g4,g9,g65,g66,g67,bW,a1,a2,e4,e5,e6,hl,hz,eL,eS,eP,wi,bH,ne_eq,not_true_eq_false,decide_false,gG,Nat.reduceLeDiff,Nat.reduceLT,Nat.reduceSub,nM,cD,cP,gN,lY,pS,bne_iff_ne,ne_eq,not_false_eq_true,not_true_eq_false,VX,Nat.reduceEqDiff,Nat.reduceAdd]
        exact⟨i+2,by omega,by omega,⟨out++[y],vL,rfl⟩,by (repeat' apply aMk)<;>first | rfl | trivial | assumption⟩
    ·have mH:i=s.b.length:=by omega
     rw[mH] at wM gZ
     obtain⟨k,hk⟩:∃k,s.b.length=k+1:=⟨s.b.length-1,by omega⟩
     have akJ:QC s = .dW [CJ aF w out r,VB (EW (w,out,r))]:=by unfold QC;rw[Gn,wM];rfl
     rw[akJ]
     have aB5:r.length=s.b.length:=by omega
     have WJ:i=k+1:=by omega
     subst WJ
     have hE:=SY (g:=out) (e:=r) (n:=r.length) (by omega) (by omega) (fun z hz=>by have:=(hof z hz).1;omega) rfl
     have Rf:aG (W8 (aC aF w) (aC aF r) (k+1) out) 2 k=some (out.map (aC aF),1,true):=by rw[W8,eO,eO,aU]
     have akB:=G5 (d:=6) (c:=k+1) (gO ·) Rf (by omega)
     rw[gZ,hk] at akB
     have hE2:=fun lo K=>TC.Dj (lo:=lo) (k:=K) (H:=W8 (aC aF w) (aC aF r) (k+1) out) (args:=[.ref 2 k 0 (k+1) (k+1),aC aF r]) hE rfl (Ak (Jq _) (gO _)) (fz2 akB (aJ (gO _))) rfl
     have aFg:[VV.ref 2 k 0 (k+1) (k+1),aC aF r].flatMap (iT depth (W8 (aC aF w) (aC aF r) (k+1) out))=[2]:=by
      rw[List.flatMap_cons,List.flatMap_cons,K9 Rf (by rw[List.length_map];omega) (fN gO),Ec (gO _)]
      rfl
     have aCn:Jh (aC (fun b=>VB b) (qJ out r r.length r.length))=false:=rfl
     rw[aFg] at hE2
     simp only[aCn,Bool.false_eq_true,if_false] at hE2
     have hfr:dC (W8 (aC aF w) (aC aF r) (k+1) out) [2]=[kQ,.row 0 [.agg [aC aF w,.ref 2 k 0 (k+1) (k+1),aC aF r]] 3 true,.row k (out.map (aC aF)) 1 false]:=rfl
     rw[hfr] at hE2
     have hC:=D0 (qJ out r r.length r.length) (by rw[DS];omega)
     simp only[fR,W8,g2,g7,g9,g66,g67,bW,dU,gG,Nat.reduceLeDiff,Nat.reduceLT,Nat.reduceSub,nM,cD,cP,gN,lY,pS,bne_iff_ne,ne_eq,not_false_eq_true,not_true_eq_false,VX,Nat.reduceEqDiff,Nat.reduceAdd]
     simp only[W8] at hE2
     have st3:∀K:aA,bL 0 3 (.ptr 0 0 0 0) (.agg [aC aF w,.ref 2 k 0 (k+1) (k+1),aC aF r]) (kQ::K)=some (.row 0 [.agg [aC aF w,.ref 2 k 0 (k+1) (k+1),aC aF r]] 3 true::K):=fun K=>by
      unfold kQ
      rw[bS (e:=3) aU (by exact aNW) (aKE _) rfl rfl]
      rfl
     have ld3:∀K:aA,bF true 3 (.ptr 0 0 0 0) (.row 0 [.agg [aC aF w,.ref 2 k 0 (k+1) (k+1),aC aF r]] 3 true::K)=some (.agg [aC aF w,.ref 2 k 0 (k+1) (k+1),aC aF r]):=fun K=>by
      rw[bK,aU]
      rfl
     simp only[hE2,hC,g2,st3,ld3,Bool.not_not,gG,Nat.reduceLeDiff,Nat.reduceLT,Nat.reduceSub,nM,cD,cP,gN,lY,pS,bne_iff_ne,ne_eq,not_false_eq_true,not_true_eq_false,VX,Nat.reduceEqDiff,Nat.reduceAdd]
     refine bN (d:=6) (GQ (d:=5) ?_) (aM (v:=VB _) rfl)
     have hf3:=G5 (d:=4) (c:=k+1) (b:=2) (g:=k) (w:=false) (H:=[.row 0 [.agg [aC aF w,.ref 2 k 0 (k+1) (k+1),aC aF r]] 3 true,.row 0 [.agg [aC aF w,.ref 2 k 0 (k+1) (k+1),aC aF r]] 3 true,.row k (out.map (aC aF)) 1 false]) (gO ·) (by rw[eO,eO,aU]) (by omega)
     rw[gZ,hk] at hf3
     rw[aL1,aM (gO w),aL1,hf3,aL1,aM (gO r)]
     rfl
end Go.PM
namespace Go.PM
structure Lin where
 u:List ByteArray
 d:List ByteArray
 deriving Inhabited
end Go.PM
namespace Go.PM
end Go.PM
namespace Go.PM
open Go.Lib
theorem aiU (d:Nat) (h:d≤9223372036854775807):TC 219 [VI (d:Int)] (bD (decDigits d)):=by
 have:=Qu (d:Int) (by omega) (by omega)
 rw[if_neg (by omega),aLW,Int.natAbs_natCast] at this
 exact this
theorem amT {n i:Nat} (hi:i+1=(aD 1000000000 n).length):n / 1000000000^i=n / 1000000000^i % 1000000000:=by
 have h1:=aeI (b:=1000000000) (by decide) n (i+1)
 rw[List.drop_of_length_le (by omega)] at h1
 have h2:=(nU (b:=1000000000) (by decide)).1 h1.symm
 rw[vN] at h2
 rcases Nat.div_eq_zero_iff.1 h2 with h | h
 ·exact absurd h (by decide)
 ·exact(Nat.mod_eq_of_lt h).symm
theorem Mh (l:List UInt8) (a b:Nat):(⟨l.toArray⟩:ByteArray).extract a b=⟨((l.drop a).take (b-a)).toArray⟩:=by
 rw[ByteArray.ext_iff,ByteArray.data_extract]
 simp[List.extract_toArray,List.extract_eq_take_drop]
theorem anK (l:List UInt8) {a b:Nat} (h:a≤b) (hb:b≤l.length):zO (bD l) (some (VI (a:Int))) (some (VI (b:Int)))=some (bD ((l.drop a).take (b-a))):=by
 have hs:(⟨l.toArray⟩:ByteArray).size=l.length:=by simp[ByteArray.size]
 have e1:(0:Int)≤b∧(b:Int)≤(l.length:Int):=by omega
 have e2:(0:Int)≤a∧(a:Int)≤(b:Int):=by omega
 simp only[zO,IH,Co,hs,fC,e1,e2,and_self,if_true,aL0,Mh]
theorem Q0 (l:List UInt8) {a:Nat} (h:a≤l.length):zO (bD l) (some (VI (a:Int))) none=some (bD (l.drop a)):=by
 have hs:(⟨l.toArray⟩:ByteArray).size=l.length:=by simp[ByteArray.size]
 have e2:(0:Int)≤a∧(a:Int)≤(l.length:Int):=by omega
 simp only[zO,IH,Co,hs,fC,e2,and_self,if_true,aL0,Mh]
 rw[aLx (by simp)]
theorem aA9 (l:List UInt8) (h:1≤l.length):zO (bD l) (some (VI 1)) none=some (bD (l.drop 1)):=Q0 l h
theorem adC {a:Nat} (h:a<1000000000):IntKind.i64.wrap ((a:Int)+1000000000)=((a+1000000000:Nat):Int):=wrapN _ (by omega) (by omega)
theorem qZ (n:Nat) (hn:bl n≤2199023255552):TC 208 [cA n] (bD (decDigits n)):=by
 refine TC.walk ⟨true,false⟩ I1 rfl (aMs rfl) (by simp[aO,cK]) rfl ?_
 by_cases h0:n=0
 ·subst h0
  have hl:(((aD 1000000000 0).length:Nat):Int)=0:=by rw[cE];rfl
  simp only[Ao,wR,cN,hl,VX,Nat.reduceEqDiff,Nat.reduceAdd]
  rw[kD (by decide)]
  exact aJ rfl
 have hl:¬(((aD 1000000000 n).length:Nat):Int)=0:=by have:=(tS (n:=n)).2 h0;omega
 obtain⟨L,hL⟩:∃L,(aD 1000000000 n).length=L+1:=⟨(aD 1000000000 n).length-1,by omega⟩
 have FH:=pO (n:=n) (by omega)
 have hlT:=avL n
 have hdl:=Dn n
 have w1:IntKind.i64.wrap (((L+1:Nat):Int)-1)=(L:Int):=wrapN _ (by omega) (by omega)
 have w2:IntKind.i64.wrap (((L+1:Nat):Int)-2)=(L:Int)-1:=by rw[wrap64 (by omega) (by omega)];omega
 have at':∀i,i≤L→bJ 1 (cA n) (VI (i:Int)) []=some (.cG (tV (n / 1000000000^i % 1000000000)) 0):=fun i hi=>aH (f:=tV) (t := .op) (H:=[]) (size:=1) (k := .i64) (O5 (b:=1000000000) (by decide) (n:=n) (i:=i) (by omega)) rfl
 have eL:=at' L (aKE _)
 have akA:=amT (n:=n) (i:=L) (by omega)
 rw[←akA] at eL
 have T0:n / 1000000000^L≠0:=(G2 (b:=1000000000) (by decide)).1 (by omega)
 have hqT:n / 1000000000^L<1000000000:=by rw[akA];exact Nat.mod_lt _ (by decide)
 have c1:=aiU (n / 1000000000^L) (by omega)
 rw[hL] at hl
 simp only[Ao,wR,cN,hL,hl,w1,w2,eL,c1,VX,Nat.reduceEqDiff,Nat.reduceAdd]
 refine aP (fun(j:Nat) ρ H=>j≤L∧H=[]∧ρ 0=cA n∧ρ 3=bD (decDigits (n / 1000000000^j))∧ρ 4=VI ((j:Int)-1)) (fun j=>j) L ⟨aKE _,rfl,rfl,rfl,rfl⟩ ?_
 rintro j ρ H ⟨hj,rfl,g0,g3,g4⟩
 by_cases hz:(0:Int)≤(j:Int)-1
 ·obtain⟨i,rfl⟩:∃i,j=i+1:=⟨j-1,by omega⟩
  have Ee:((i+1:Nat):Int)-1=(i:Int):=by omega
  rw[Ee] at g4 hz
  have e1:=at' i (by omega)
  have hm:=Nat.mod_lt (n / 1000000000^i) (show 0<1000000000 by decide)
  have hq1:n / 1000000000^(i+1)≠0:=(G2 (b:=1000000000) (by decide)).1 (by omega)
  have hdm:=Nat.mod_add_div (n / 1000000000^i) 1000000000
  rw[←vN] at hdm
  have hch:=KM (Nat.pos_of_ne_zero hq1) hm
  have hle:n / 1000000000^i≤n:=Nat.div_le_self _ _
  have hdi:=Dn (n / 1000000000^i)
  have hbi:=mB hle
  rw[show n / 1000000000^(i+1)*1000000000+n / 1000000000^i % 1000000000=n / 1000000000^i by omega] at hch
  generalize hAA:n / 1000000000^i=A at *
  generalize n / 1000000000^(i+1)=B at *
  have w4:IntKind.i64.wrap ((i:Int)-1)=(i:Int)-1:=wrap64 (by omega) (by omega)
  have c2:=aiU (A % 1000000000+1000000000) (by omega)
  rw[asL hm] at c2
  have e2:=aA9 (d10 1::Fb 9 (A % 1000000000)) (by simp)
  rw[List.drop_succ_cons,List.drop_zero] at e2
  have hlen:=congrArg List.length hch
  rw[aKP] at hlen
  have a1:=yU (decDigits B) (Fb 9 (A % 1000000000)) (by omega)
  rw[←hch] at a1
  have aFH:i≤L:=by omega
  have hmu:i<i+1:=by omega
  have w3:=adC hm
  simp only[uL,g0,g3,g4,hz,e1,w3,w4,c2,e2,a1,VX,Nat.reduceEqDiff,Nat.reduceAdd]
  refine⟨i,hmu,aFH,?_⟩
  rw[hAA]
  exact⟨rfl,rfl⟩
 ·have Xv:j=0:=by omega
  subst Xv
  rw[Nat.pow_zero,Nat.div_one] at g3
  simp only[uL,g0,g3,g4,hz,VX,Nat.reduceEqDiff,Nat.reduceAdd]
  exact aJ rfl
theorem Oi (q:Rat) (hk:aL q≤1099511627776):TC 188 [aN q] (VB (CW q)):=by
 refine TC.walk ⟨true,false⟩ OL rfl (aMs rfl) (by simp[aO,qG]) rfl ?_
 have la:=uW hk
 have lb:=uX hk
 have t1:=qZ q.num.natAbs (by omega)
 have t2:=qZ q.den (by omega)
 have hf:CW q=(decide (((decDigits q.num.natAbs).length:Int)≤200)&&decide (((decDigits q.den).length:Int)≤200)):=by
  unfold CW
  congr 1<;>exact decide_eq_decide.2 (by omega)
 rw[hf]
 by_cases hl:((decDigits q.num.natAbs).length:Int)≤200
 ·simp only[Ej,AW,t1,t2,hl,bO,bT,iE,jY,jR,aR,gG,Nat.reduceLeDiff,Nat.reduceLT,Nat.reduceSub,VX,Nat.reduceEqDiff,Nat.reduceAdd]
  exact aJ rfl
 ·simp only[Ej,AW,t1,t2,hl,bO,bT,iE,jY,jR,aR,gG,Nat.reduceLeDiff,Nat.reduceLT,Nat.reduceSub,VX,Nat.reduceEqDiff,Nat.reduceAdd]
  exact aJ rfl
theorem PD (q:Rat) (hk:aL q≤1099511627776):TC 189 [aN q] (bD (OC q)):=by
 refine TC.walk ⟨true,false⟩ PL rfl (aMs rfl) (by simp[aO,qG]) rfl ?_
 have la:=uW hk
 have lb:=uX hk
 have t1:=qZ q.num.natAbs (by omega)
 have t2:=qZ q.den (by omega)
 have d1:=Dn q.num.natAbs
 have d2:=Dn q.den
 have c1:∀lo H K,_:=fun lo H K=>NK (n:=q.den) (lo:=lo) (H:=H) (K:=K) (aLl (pO (by omega)))
 have a1:dK .add (.string ⟨#[45]⟩) (.string ⟨(decDigits q.num.natAbs).toArray⟩)=some (.string ⟨(45::decDigits q.num.natAbs).toArray⟩):=yU [45] _ (by simp only[aKO,aMh];omega)
 have a2:dK .add (.string ⟨#[47]⟩) (.string ⟨(decDigits q.den).toArray⟩)=some (.string ⟨(47::decDigits q.den).toArray⟩):=yU [47] (decDigits q.den) (by simp only[aKO,aMh];omega)
 have a3:=yU (45::decDigits q.num.natAbs) (47::decDigits q.den) (by simp only[aKO];omega)
 have a4:=yU (decDigits q.num.natAbs) (47::decDigits q.den) (by simp only[aKO];omega)
 have hs:OC q=(if q.num<0 then (45::decDigits q.num.natAbs) else decDigits q.num.natAbs)++(if q.den=1 then [] else 47::decDigits q.den):=by
  unfold OC
  by_cases hn:q.num<0
  ·rw[if_pos hn,if_pos hn];rfl
  ·rw[if_neg hn,if_neg hn];rfl
 rw[hs]
 by_cases hd:gC q.den 1=0
 ·rw[if_pos (AT.1 hd),List.append_nil]
  by_cases hn:q.num<0
  all_goals
   simp only[D8,BA,t1,t2,a1,a2,a3,a4,c1,hd,hn,eQ,bT,iE,jY,jR,aR,gG,Nat.reduceLeDiff,Nat.reduceLT,Nat.reduceSub,VX,Nat.reduceEqDiff,Nat.reduceAdd]
   exact aJ rfl
 ·rw[if_neg (mt AT.2 hd)]
  by_cases hn:q.num<0
  all_goals
   simp only[D8,BA,t1,t2,a1,a2,a3,a4,c1,hd,hn,eQ,bT,iE,jY,jR,aR,gG,Nat.reduceLeDiff,Nat.reduceLT,Nat.reduceSub,VX,Nat.reduceEqDiff,Nat.reduceAdd]
   exact aJ rfl
theorem OB (q:Rat) (hk:aL q≤1099511627776):TC 171 [aN q] (Bv q):=by
 refine TC.walk ⟨true,false⟩ Pf rfl (aMs rfl) (by simp[aO,qG]) (G4 q) ?_
 have t1:=Oi q hk
 have t2:=PD q hk
 unfold Bv
 by_cases h:CW q=true
 ·rw[h] at t1
  rw[if_pos h]
  simp only[D5,A3,t1,t2,bT,cI,gL,aR,gG,Nat.reduceLeDiff,Nat.reduceLT,Nat.reduceSub,VX,Nat.reduceEqDiff,Nat.reduceAdd]
  exact aJ rfl
 ·have h':CW q=false:=by simpa using h
  rw[h'] at t1
  rw[if_neg h]
  simp only[D5,A3,t1,bT,cI,gL,aR,gG,Nat.reduceLeDiff,Nat.reduceLT,Nat.reduceSub,VX,Nat.reduceEqDiff,Nat.reduceAdd]
  exact aJ rfl
end Go.PM
namespace Go.PM
open Go.Lib
def iZ (c:UInt8):List UInt8→List (List UInt8)
 | []=>[[]]
 |
  x::r=>if x=c then []::iZ c r else match iZ c r with
  | []=>[[x]]
  | a::t=>(x::a)::t
theorem OT {c:UInt8} {r:List UInt8}:∀ {a:List UInt8},c∉a→iZ c (a++c::r)=a::iZ c r:=by
 intro a
 induction a with
 | nil=>intro _;rw[aLW,iZ,if_pos rfl]
 |
  cons x a ih =>
  intro h
  rw[List.mem_cons,not_or] at h
  rw[aL4,iZ,if_neg (fun he=>h.1 he.symm),ih h.2]
theorem Is {c:UInt8}:∀ {a:List UInt8},c∉a→iZ c a=[a]:=by
 intro a
 induction a with
 | nil=>intro _;rfl
 |
  cons x a ih =>
  intro h
  rw[List.mem_cons,not_or] at h
  rw[iZ,if_neg (fun he=>h.1 he.symm),ih h.2]
theorem XM {c:UInt8} (l:List UInt8):iZ c l≠[]:=by
 cases l with
 | nil=>simp[iZ]
 |
  cons x r =>
  rw[iZ]
  split
  ·simp
  ·split<;>simp
theorem Wf {c:UInt8} {l:List UInt8} (h:(oL c l).2=none):iZ c l=[l]:=Is (Dl h).2.2
theorem MA {c:UInt8} {l r:List UInt8} (h:(oL c l).2=some r):iZ c l=(oL c l).1::iZ c r:=by
 obtain⟨_,h2,h3⟩:=Ln h
 have:=OT (r:=r) h3
 rw[←h2] at this
 exact this
theorem Vd {c:UInt8} {l:List UInt8} (h:c∈l):2≤(iZ c l).length:=by
 cases hc:(oL c l).2 with
 | none=>exact absurd h (Dl hc).2.2
 |
  some r =>
  rw[MA hc,aKO]
  have:=aNC.2 (XM (c:=c) r)
  omega
theorem adV {l:List UInt8} {i:Nat} (h:i<l.length):(l.take (i+1)).all jT=((l.take i).all jT&&jT (l.getD i 0)):=by
 rw[aMu,List.all_append]
 have:l[i]? = some (l.getD i 0):=by rw[aKL h,aKB,aKL h];rfl
 rw[this]
 simp
set_option maxHeartbeats 1000000 in
theorem sT (l:List UInt8) (hl:l.length≤1000000000000):TC 168 [bD l] (VB (jG l)):=by
 refine TC.walk ⟨true,false⟩ KS rfl (aMs rfl) rfl rfl ?_
 simp only[Fg,DD,VX,Nat.reduceEqDiff,Nat.reduceAdd]
 refine aP (fun(i:Nat) ρ H=>i≤l.length∧H=[]∧(l.take i).all jT=true∧ρ 0=bD l∧ρ 3=VI i) (fun i=>l.length-i) 0 ⟨aK8 _,rfl,rfl,rfl,rfl⟩ ?_
 rintro i ρ H ⟨hi,rfl,hd,g0,g3⟩
 by_cases bW:(i:Int)<(l.length:Int)
 ·have XQ:i<l.length:=by omega
  have e1:=F0 l XQ
  have wi:IntKind.i64.wrap ((i:Int)+1)=((i+1:Nat):Int):=wrapN (i+1) (by omega) (by omega)
  have ht:=adV XQ
  rw[hd,aOg] at ht
  have YR:jT (l.getD i 0)=(decide (48≤(l.getD i 0).toNat)&&decide ((l.getD i 0).toNat≤57)):=rfl
  have jO:jT (l.getD i 0)=false→jG l=false:=by
   intro h
   rw[h] at ht
   have:l.all jT=false:=by rw[←aLN (i+1) l,List.all_append,ht,Bool.false_and]
   unfold jG
   rw[this]
   rfl
  generalize (l.getD i 0).toNat=c at *
  by_cases q1:(c:Int)<48
  ·rw[jO (by rw[YR,decide_eq_false (by omega)];rfl)]
   simp only[eJ,g0,g3,bO,bW,e1,q1,VX,Nat.reduceEqDiff,Nat.reduceAdd]
   exact aJ rfl
  ·by_cases q2:(57:Int)<(c:Int)
   ·rw[jO (by rw[YR,decide_eq_false (show ¬c≤57 by omega),Bool.and_false])]
    simp only[eJ,g0,g3,bO,bW,e1,q1,q2,VX,Nat.reduceEqDiff,Nat.reduceAdd]
    exact aJ rfl
   ·rw[YR,decide_eq_true (by omega),decide_eq_true (by omega),aL2] at ht
    simp only[eJ,g0,g3,bO,bW,e1,q1,q2,wi,VX,Nat.reduceEqDiff,Nat.reduceAdd]
    exact⟨i+1,by omega,by omega,ht,rfl⟩
 ·have mH:i=l.length:=by omega
  subst mH
  rw[aLR] at hd
  by_cases h1:(1:Int)≤(l.length:Int)
  ·by_cases h2:(l.length:Int)≤200
   ·by_cases h3:(l.length:Int)=1
    ·rw[lI.2 ⟨hd,by omega,by omega,.inl (by omega)⟩]
     simp only[eJ,g0,g3,bO,bW,ge_iff_le,h1,h2,h3,Int.reduceLE,Int.reduceLT,VX,Nat.reduceEqDiff,Nat.reduceAdd]
     exact aJ rfl
    ·have e1:=KI l (by omega)
     by_cases h4:(((l.getD 0 0).toNat:Int)=48)
     ·have hk:jG l=false:=by
       cases h:jG l with
       | false=>rfl
       |
        true =>
        rcases(lI.1 h).2.2.2 with h5 | h5
        ·omega
        ·exact absurd (UInt8.toNat_inj.1 (by rw[show (48:UInt8).toNat=48 from rfl];omega)) h5
      rw[hk]
      simp only[eJ,g0,g3,bO,bW,ge_iff_le,h1,h2,h3,h4,e1,VX,Nat.reduceEqDiff,Nat.reduceAdd]
      exact aJ rfl
     ·have h5:l.getD 0 0≠48:=fun h=>h4 (by rw[h];rfl)
      rw[lI.2 ⟨hd,by omega,by omega,.inr h5⟩]
      simp only[eJ,g0,g3,bO,bW,ge_iff_le,h1,h2,h3,h4,e1,VX,Nat.reduceEqDiff,Nat.reduceAdd]
      exact aJ rfl
   ·have hk:jG l=false:=by
     cases h:jG l with
     | false=>rfl
     | true=>have:=(lI.1 h).2.2.1;omega
    rw[hk]
    simp only[eJ,g0,g3,bO,bW,ge_iff_le,h1,h2,VX,Nat.reduceEqDiff,Nat.reduceAdd]
    exact aJ rfl
  ·have hk:jG l=false:=by
    cases h:jG l with
    | false=>rfl
    | true=>have:=(lI.1 h).2.1;omega
   rw[hk]
   simp only[eJ,g0,g3,bO,bW,ge_iff_le,h1,VX,Nat.reduceEqDiff,Nat.reduceAdd]
   exact aJ rfl
set_option maxHeartbeats 1000000 in
theorem HA (l:List UInt8) (c:UInt8) (hl:l.length≤1000000000000):TC 167 [bD l,.sc (.int .u8 (c.toNat:Int))] (aC bD (iZ c l)):=by
 refine TC.walk ⟨true,false⟩ QF rfl (aMs rfl) rfl (Aa (size:=1) (fun _=>rfl) (fun _=>rfl) fun _=>rfl) ?_
 have e3:∀lr,mV lr [.string ⟨#[]⟩] 0 [] []=some (.ref 0 0 0 0 0,[.row 0 (([]:List (List UInt8)).map bD) 1 true]):=fun lr=>mX (H:=[]) (lr:=lr) (z:=[.string ⟨#[]⟩]) rfl
 have e4:∀(x:List UInt8) (H:aA),mV false [.string ⟨#[]⟩] 1 [(0,bD x)] H=some (.tree [bD x] (.cl 1),H):=fun x H=>iU (z:=[.string ⟨#[]⟩]) rfl rfl rfl
 have e5:∀(x:List UInt8) (H:aA),cW 1 (.tree [bD x] (.cl 1)) H=some [bD x]:=fun x H=>eU rfl rfl
 simp only[MN,HO,e3,VX,Nat.reduceEqDiff,Nat.reduceAdd]
 refine aP (fun(s:List (List UInt8)×Nat×Nat) ρ H=>H=[.row s.1.length (s.1.map bD) 1 true]∧s.2.1≤s.2.2∧s.2.2≤l.length+1∧s.1.length≤s.2.1 ∧
  ((s.2.2≤l.length∧iZ c l=s.1++iZ c (l.drop s.2.1)∧c∉(l.drop s.2.1).take (s.2.2-s.2.1))∨(s.2.2=l.length+1∧iZ c l=s.1)) ∧
  ρ 0=bD l∧ρ 1 = .sc (.int .u8 (c.toNat:Int))∧ρ 5 = .ref 0 s.1.length 0 s.1.length s.1.length∧ρ 6=VI s.2.1∧ρ 7=VI s.2.2) (fun s=>l.length+1-s.2.2) ([],0,0) ⟨rfl,aK8 _,aK8 _,aK8 _,.inl ⟨aK8 _,rfl,by simp⟩,rfl,rfl,rfl,rfl,rfl⟩ ?_
 rintro⟨out,fr,i⟩ ρ H ⟨rfl,hfi,hi,gZ,vL,g0,g1,g5,g6,g7⟩
 simp only at hfi hi gZ vL g5 g6 g7
 by_cases bW:(i:Int)≤(l.length:Int)
 ·have XQ:i≤l.length:=by omega
  obtain⟨hp,hc⟩:iZ c l=out++iZ c (l.drop fr)∧c∉(l.drop fr).take (i-fr):=by
   rcases vL with⟨_,h1,h2⟩ | ⟨h,_⟩
   ·exact⟨h1,h2⟩
   ·omega
  have wi:IntKind.i64.wrap ((i:Int)+1)=((i+1:Nat):Int):=wrapN (i+1) (by omega) (by omega)
  have e2:=anK l hfi XQ
  have eP:=jV (f:=bD) (xs:=out) (x:=(l.drop fr).take (i-fr)) (lo:=0) (b:=0) (g:=out.length) (n:=out.length) (e:=1) (bytes:=16) (H:=[.row out.length (out.map bD) 1 true]) aU rfl (aK8 _) (by decide) (by decide) (by omega)
  have Lp:([.row out.length (out.map bD) 1 true]:aA).set 0 (.row (out.length+1) ((out++[(l.drop fr).take (i-fr)]).map bD) 1 true)=[.row (out.length+1) ((out++[(l.drop fr).take (i-fr)]).map bD) 1 true]:=rfl
  rw[Lp] at eP
  by_cases q1:i=l.length
  ·subst q1
   have ahT:iZ c l=out++[(l.drop fr).take (l.length-fr)]:=by
    rw[hp]
    have:(l.drop fr).take (l.length-fr)=l.drop fr:=aLx (by rw[aM5];omega)
    rw[this] at hc ⊢
    rw[Is hc]
   simp only[rP,g0,g1,g5,g6,g7,bO,bW,eq_self,e2,e4,e5,eP,wi,VX,Nat.reduceEqDiff,Nat.reduceAdd]
   refine⟨(out++[(l.drop fr).take (l.length-fr)],l.length+1,l.length+1),by simp only;omega,?_,by simp only;omega,by simp only;omega,?_,.inr ⟨rfl,ahT⟩,?_⟩
   ·simp
   ·simp only[aKP,aKO,aMh];omega
   ·simp
  ·have asZ:i<l.length:=by omega
   have q1':¬(i:Int)=(l.length:Int):=by omega
   have e1:=F0 l asZ
   have hgd:l.drop i=l.getD i 0::l.drop (i+1):=by rw[List.drop_eq_getElem_cons asZ,aKB,aKL asZ];rfl
   by_cases q2:l.getD i 0=c
   ·have q2':((l.getD i 0).toNat:Int)=(c.toNat:Int):=by rw[q2]
    have ahT:iZ c l=(out++[(l.drop fr).take (i-fr)])++iZ c (l.drop (i+1)):=by
     have Ud:l.drop fr=(l.drop fr).take (i-fr)++c::l.drop (i+1):=by
      have h1:(l.drop fr).drop (i-fr)=l.drop i:=by rw[List.drop_drop];congr 1;omega
      conv=>lhs;rw[←aLN (i-fr) (l.drop fr),h1,hgd,q2]
     rw[hp]
     conv=>lhs;rw[Ud]
     rw[OT hc,aMq]
     rfl
    simp only[rP,g0,g1,g5,g6,g7,bO,bW,q1',e1,q2',eq_self,e2,e4,e5,eP,wi,VX,Nat.reduceEqDiff,Nat.reduceAdd]
    refine⟨(out++[(l.drop fr).take (i-fr)],i+1,i+1),by simp only;omega,?_,by simp only;omega,by simp only;omega,?_,.inl ⟨by simp only;omega,ahT,by simp⟩,?_⟩
    ·simp
    ·simp only[aKP,aKO,aMh];omega
    ·simp
   ·have q2':¬((l.getD i 0).toNat:Int)=(c.toNat:Int):=fun h=>q2 (UInt8.toNat_inj.1 (by omega))
    simp only[rP,g0,g1,g5,g6,g7,bO,bW,q1',e1,q2',wi,VX,Nat.reduceEqDiff,Nat.reduceAdd]
    refine⟨(out,fr,i+1),by simp only;omega,rfl,by simp only;omega,by simp only;omega,gZ,.inl ⟨by simp only;omega,hp,?_⟩,rfl,rfl,rfl⟩
    simp only
    rw[show i+1-fr=(i-fr)+1 by omega,aMu,aLA,not_or]
    refine⟨hc,?_⟩
    have:(l.drop fr)[i-fr]? = some (l.getD i 0):=by
     rw[List.getElem?_drop,show fr+(i-fr)=i by omega,aKB,aKL asZ]
     rfl
    rw[this]
    simp
    exact fun h=>q2 h.symm
 ·have ahT:iZ c l=out:=by
   rcases vL with⟨h,_⟩ | ⟨_,h⟩
   ·omega
   ·exact h
  rw[ahT]
  simp only[rP,g0,g5,g7,bO,bW,VX,Nat.reduceEqDiff,Nat.reduceAdd]
  exact IA (es:=out.map bD) aU (by simp) (aKE _) (fN fun _=>rfl)
theorem alH {l:List UInt8} (h:l.all jT=true) {i:Nat} (hi:i<l.length):48≤(l.getD i 0).toNat∧(l.getD i 0).toNat≤57:=by
 have:=aKS.1 h (l.getD i 0) (by rw[aKB,aKL hi];exact List.getElem_mem hi)
 simpa[jT] using this
theorem Pb {l:List UInt8} (hd:l.all jT=true) (hl:l.length≤1000000000000) {fr tq:Nat} (hft:fr≤tq) (h9:tq-fr≤9) (htl:tq≤l.length) {H:aA} {lo:Nat} {ρ:cV} {Q:VQ} (h0:ρ 0=bD l) (h4:ρ 4=VI tq) (h6:ρ 6=VI 0) (h7:ρ 7=VI fr)
  (hQ:∀aQ,(∀t,t<6→aQ t=ρ t)→aQ 6=VI (bZ ((l.drop fr).take (tq-fr)))→Q .normal aQ H):VW ⟨true,false⟩ lo (.loop pA) (tH 2 Q) ρ H:=by
 refine aP (fun(i:Nat) aQ H'=>fr≤i∧i≤tq∧H'=H∧(∀t,t<6→aQ t=ρ t)∧aQ 6=VI (bZ ((l.drop fr).take (i-fr)))∧aQ 7=VI i) (fun i=>tq-i) fr ⟨aKE _,hft,rfl,fun _ _=>rfl,by rw[h6,Nat.sub_self];rfl,h7⟩ ?_
 rintro i aQ H' ⟨hfi,hi,rfl,hk,g6,g7⟩
 have g0:=(hk 0 (by decide)).trans h0
 have g4:=(hk 4 (by decide)).trans h4
 by_cases bW:(i:Int)<(tq:Int)
 ·have XQ:i<l.length:=by omega
  have e1:=F0 l XQ
  obtain⟨c1,c2⟩:=alH hd XQ
  have wi:IntKind.i64.wrap ((i:Int)+1)=((i+1:Nat):Int):=wrapN (i+1) (by omega) (by omega)
  have hcd:((l.drop fr).take (i-fr)).all jT=true:=by
   rw[aKS] at hd ⊢
   exact fun x hx=>hd x (aLC (aLB hx))
  have bI:=JF hcd
  rw[aMd,aM5,Nat.min_eq_left (by omega)] at bI
  have hp9:10^(i-fr)≤10^8:=aMH (by decide) (by omega)
  have e8:(10:Nat)^8=100000000:=by decide
  have pY:bZ ((l.drop fr).take (i+1-fr))=bZ ((l.drop fr).take (i-fr))*10+dv (l.getD i 0):=by
   have:(l.drop fr)[i-fr]? = some (l.getD i 0):=by
    rw[List.getElem?_drop,show fr+(i-fr)=i by omega,aKB,aKL XQ]
    rfl
   rw[show i+1-fr=(i-fr)+1 by omega,aMu,this]
   exact adY _ _
  have hdv:dv (l.getD i 0)=(l.getD i 0).toNat-48:=rfl
  rw[hdv] at pY
  generalize (l.getD i 0).toNat=c at *
  generalize bZ ((l.drop fr).take (i-fr))=D at *
  have w1:IntKind.i64.wrap (10*(D:Int))=((10*D:Nat):Int):=wrapN _ (by omega) (by omega)
  have w2:IntKind.u8.wrap ((c:Int)-48)=((c-48:Nat):Int):=by
   simp[IntKind.wrap,IntKind.bits,IntKind.signed]
   omega
  have w3:IntKind.i64.wrap ((c-48:Nat):Int)=((c-48:Nat):Int):=wrapN _ rfl (by omega)
  have w4:IntKind.i64.wrap (((10*D:Nat):Int)+((c-48:Nat):Int))=((D*10+(c-48):Nat):Int):=wrapN _ (by omega) (by omega)
  simp only[pA,g0,g4,g6,g7,bW,e1,w1,w2,w3,w4,wi,VX,Nat.reduceEqDiff,Nat.reduceAdd]
  refine⟨i+1,by omega,by omega,by omega,fun t ht => ?_,by rw[pY],rfl⟩
  try simp only[zF]
  repeat rw[if_neg (by omega)]
  exact hk t ht
 ·have mH:i=tq:=by omega
  subst mH
  simp only[pA,g4,g7,bW,VX,Nat.reduceEqDiff,Nat.reduceAdd]
  refine hQ _ (fun t ht => ?_) ?_
  ·try simp only[zF]
   repeat rw[if_neg (by omega)]
   exact hk t ht
  ·simp only[g6,VX,Nat.reduceEqDiff,Nat.reduceAdd]
set_option maxHeartbeats 1000000 in
theorem wQ (l:List UInt8) (hd:l.all jT=true) (hl:l.length≤1000000000):TC 169 [bD l] (cA (bZ l)):=by
 refine TC.walk ⟨true,false⟩ JT rfl (aMs rfl) rfl (pW _) ?_
 have e3:∀lr,mV lr [.int .i64 0] 0 [] []=some (.ref 0 0 0 0 0,[.row 0 (([]:List Nat).map tV) 1 true]):=fun lr=>mX (H:=[]) (lr:=lr) (z:=[.int .i64 0]) rfl
 have e4:∀(x:Nat) (H:aA),mV false [.int .i64 0] 1 [(0,tV x)] H=some (.tree [tV x] (.cl 1),H):=fun x H=>iU (z:=[.int .i64 0]) rfl rfl rfl
 have e5:∀(x:Nat) (H:aA),cW 1 (.tree [tV x] (.cl 1)) H=some [tV x]:=fun x H=>eU rfl rfl
 simp only[EY,Cp,e3,bO,VX,Nat.reduceEqDiff,Nat.reduceAdd]
 refine aP (fun(s:List Nat×Int) ρ H=>H=[.row s.1.length (s.1.map tV) 1 true]∧s.2≤l.length ∧ -9≤s.2∧s.1.length+s.2.toNat≤l.length∧(∀d∈s.1,d<1000000000)∧bZ l=val 1000000000 s.1+1000000000^s.1.length*bZ (l.take s.2.toNat) ∧
  ρ 0=bD l∧ρ 3 = .ref 0 s.1.length 0 s.1.length s.1.length∧ρ 4=VI s.2) (fun s=>s.2.toNat) ([],(l.length:Int)) ⟨rfl,Int.le_refl _,by simp only;omega,by simp,by simp,?_,rfl,rfl,rfl⟩ ?_
 ·simp only[aL0,aLR,aMh,Nat.pow_zero,Nat.one_mul,val,aMc]
 rintro⟨out,z⟩ ρ H ⟨rfl,hz,hz9,gZ,hds,hv,g0,g3,g4⟩
 simp only at hz hz9 gZ hds hv g3 g4
 by_cases lR:0<z
 ·obtain⟨tq,rfl⟩:∃tq:Nat,z=tq:=⟨z.toNat,by omega⟩
  rw[aL0] at gZ hv
  have hto:0<tq:=by omega
  have key:∀fr:Nat,fr≤tq→tq-fr≤9→bZ (l.take tq)=bZ (l.take fr)*10^(tq-fr)+bZ ((l.drop fr).take (tq-fr))∧bZ ((l.drop fr).take (tq-fr))<1000000000:=by
   intro fr h1 h2
   have hcd:((l.drop fr).take (tq-fr)).all jT=true:=by
    rw[aKS] at hd ⊢
    exact fun x hx=>hd x (aLC (aLB hx))
   have hlen:((l.drop fr).take (tq-fr)).length=tq-fr:=by rw[aMd,aM5];omega
   constructor
   ·have:=List.take_add (l:=l) (i:=fr) (j:=tq-fr)
    rw[show fr+(tq-fr)=tq by omega] at this
    rw[this,OX,hlen]
   ·have:=JF hcd
    rw[hlen] at this
    exact Nat.lt_of_lt_of_le this (Nat.le_trans (aMH (by decide) h2) (by decide))
  have eP:=fun X=>jV (f:=tV) (xs:=out) (x:=X) (lo:=0) (b:=0) (g:=out.length) (n:=out.length) (e:=1) (bytes:=8) (H:=[.row out.length (out.map tV) 1 true]) aU rfl (aK8 _) (by decide) (by decide) (by omega)
  have Lp:∀X,([.row out.length (out.map tV) 1 true]:aA).set 0 (.row (out.length+1) ((out++[X]).map tV) 1 true)=[.row (out.length+1) ((out++[X]).map tV) 1 true]:=fun _=>rfl
  simp only[Lp] at eP
  by_cases h9:(9:Int)<(tq:Int)
  ·obtain⟨k1,k2⟩:=key (tq-9) (by omega) (by omega)
   have wz:IntKind.i64.wrap ((tq:Int)-9)=((tq-9:Nat):Int):=wrapN _ (by omega) (by omega)
   rw[show tq-(tq-9)=9 by omega] at k1 k2
   rw[show (10:Nat)^9=1000000000 by decide] at k1
   simp only[oT,g0,g3,g4,lR,h9,wz,VX,Nat.reduceEqDiff,Nat.reduceAdd]
   refine Pb (l:=l) hd (by omega) (fr:=tq-9) (tq:=tq) (by omega) (by omega) (by omega) ?_ ?_ ?_ ?_ fun AS q q6 => ?_
   all_goals first | (simp only[g0,g4,VX,Nat.reduceEqDiff,Nat.reduceAdd];done) | skip
   rw[show tq-(tq-9)=9 by omega] at q6
   have u3:AS 3 = .ref 0 out.length 0 out.length out.length:=by rw[q 3 (by decide)];simp only[g3,VX,Nat.reduceEqDiff,Nat.reduceAdd]
   have u0:AS 0=bD l:=by rw[q 0 (by decide)];simp only[g0,VX,Nat.reduceEqDiff,Nat.reduceAdd]
   have u4:AS 4=VI tq:=by rw[q 4 (by decide)];simp only[g4,VX,Nat.reduceEqDiff,Nat.reduceAdd]
   generalize bZ ((l.drop (tq-9)).take 9)=X at *
   have e4:=e4 X
   have e5:=e5 X
   have eP:=eP X
   simp only[u0,u3,u4,q6,e4,e5,eP,wz,VX,Nat.reduceEqDiff,Nat.reduceAdd]
   refine⟨(out++[X],((tq-9:Nat):Int)),by simp only;omega,?_,by simp only;omega,by simp only;omega,?_,?_,?_,?_⟩
   ·simp
   ·simp only[aKP,aKO,aMh];omega
   ·intro d hdm
    rcases aLA.1 hdm with h | h
    ·exact hds d h
    ·rw[aLK] at h;omega
   ·simp only[aL0]
    rw[hv,k1,vO,aKP,List.length_singleton,Nat.pow_succ]
    grind
   ·simp
  ·obtain⟨k1,k2⟩:=key 0 (by omega) (by omega)
   rw[aNT,NS,Nat.zero_mul,aMc,aOh] at k1
   rw[aOh] at k2
   have wz:IntKind.i64.wrap ((tq:Int)-9)=(tq:Int)-9:=wrap64 (by omega) (by omega)
   simp only[oT,g0,g3,g4,lR,h9,VX,Nat.reduceEqDiff,Nat.reduceAdd]
   refine Pb (l:=l) hd (by omega) (fr:=0) (tq:=tq) (by omega) (by omega) (by omega) ?_ ?_ ?_ ?_ fun AS q q6 => ?_
   all_goals first | (simp only[g0,g4,VX,Nat.reduceEqDiff,Nat.reduceAdd];done) | (simp only[VX,Nat.reduceEqDiff,Nat.reduceAdd];rfl) | skip
   rw[aOh] at q6
   have u3:AS 3 = .ref 0 out.length 0 out.length out.length:=by rw[q 3 (by decide)];simp only[g3,VX,Nat.reduceEqDiff,Nat.reduceAdd]
   have u0:AS 0=bD l:=by rw[q 0 (by decide)];simp only[g0,VX,Nat.reduceEqDiff,Nat.reduceAdd]
   have u4:AS 4=VI tq:=by rw[q 4 (by decide)];simp only[g4,VX,Nat.reduceEqDiff,Nat.reduceAdd]
   generalize bZ ((l.drop 0).take tq)=X at *
   have e4:=e4 X
   have e5:=e5 X
   have eP:=eP X
   simp only[u0,u3,u4,q6,e4,e5,eP,wz,VX,Nat.reduceEqDiff,Nat.reduceAdd]
   refine⟨(out++[X],(tq:Int)-9),by simp only;omega,?_,by simp only;omega,by simp only;omega,?_,?_,?_,?_⟩
   ·simp
   ·simp only[aKP,aKO,aMh];omega
   ·intro d hdm
    rcases aLA.1 hdm with h | h
    ·exact hds d h
    ·rw[aLK] at h;omega
   ·simp only
    rw[show ((tq:Int)-9).toNat=0 by omega,aNT,NS,Nat.mul_zero,Nat.add_zero,hv,k1,vO]
   ·simp
 ·have h0:z.toNat=0:=by omega
  rw[h0,aNT,NS,Nat.mul_zero,Nat.add_zero] at hv
  rw[hv]
  have ct:=TC.aqF (f:=tV) (xs:=out) (size:=1) (e:=1) (w:=true) (H:=[.row out.length (out.map tV) 1 true]) (b:=0) (gn:=out.length) (n:=out.length) (c:=out.length) (wT out hds (by show out.length≤70368744177664;omega)) aU rfl (aKE _) Iu (fun _=>rfl) rfl rfl
  simp only[oT,g0,g3,g4,lR,ct,VX,Nat.reduceEqDiff,Nat.reduceAdd]
  exact aJ (cK _)
end Go.PM
namespace Go.PM
open Go.Lib
def Fj (l:List UInt8):VV:=match A8 l with
 | some q => .dW [aN q,VB true]
 | none => .dW [PA,VB false]
theorem BE (q:Rat):aY (aN q)=true:=by simp[aN,aY,aO,cK,qH]
theorem QX (q:Rat):gU (aN q)=true:=by simp[aN,gU,sO,pW,qH]
theorem Xy (l:List UInt8):gU (Fj l)=true:=by
 unfold Fj
 split<;>simp[gU,sO,QX,W0,qH]
theorem Ot {neg:Bool} {t b:Nat} (hb:b≠0) (hg:aNm t b=1) (hn:¬(neg=true∧t=0)):aN (mkRat (mI neg t) b) = .agg [VB neg,cA t,cA b]:=by
 obtain⟨e1,e2⟩:=LU (neg:=neg) hb hg
 refine NM ?_ (by rw[e1,qY]) e2
 rw[e1]
 cases neg with
 | false=>unfold mI;simp
 |
  true =>
  have:t≠0:=fun h=>hn ⟨rfl,h⟩
  unfold mI
  simp
  omega
theorem GV {n:Nat}:(((aD 1000000000 n).length:Nat):Int)=0↔n=0:=by
 rw[←nU (b:=1000000000) (n:=n) (by decide),←aMM]
 omega
theorem Uk {neg:Bool} {d t:List UInt8} (h:(47:UInt8)∈t):rK neg d (some t)=none:=by
 have ht:jG t=false:=by
  cases hk:jG t with
  | false=>rfl
  | true=>exact absurd h (anT (lI.1 hk).1)
 unfold rK
 split
 ·rfl
 ·simp only
  rw[if_neg (fun h=>by rw[ht] at h;exact absurd h.1 (by decide))]
theorem at_one (x:List UInt8) (H:aA):bJ 1 (aC bD [x]) (VI 0) H=some (.cG (bD x) 0):=aH (f:=bD) (t := .op) (H:=H) (size:=1) (k := .i64) (xs:=[x]) (i:=0) rfl rfl
theorem arF (x y:List UInt8) (H:aA):bJ 1 (aC bD [x,y]) (VI 0) H=some (.cG (bD x) 0):=aH (f:=bD) (t := .op) (H:=H) (size:=1) (k := .i64) (xs:=[x,y]) (i:=0) rfl rfl
theorem apU (x y:List UInt8) (H:aA):bJ 1 (aC bD [x,y]) (VI 1) H=some (.cG (bD y) 0):=aH (f:=bD) (t := .op) (H:=H) (size:=1) (k := .i64) (xs:=[x,y]) (i:=1) rfl rfl
theorem ZU (x:List UInt8) (H:aA):sE (aC bD [x]) H=some (VI 1):=eR (f:=bD) (xs:=[x])
theorem atX (x y:List UInt8) (H:aA):sE (aC bD [x,y]) H=some (VI 2):=eR (f:=bD) (xs:=[x,y])
set_option maxRecDepth 100000 in
set_option maxHeartbeats 4000000 in
theorem Ng (l:List UInt8) (hl:l.length≤1000000000):TC 110 [bD l] (Fj l):=by
 refine TC.walk ⟨true,false⟩ MU rfl (aMs rfl) rfl (Xy l) ?_
 by_cases Ci:l=[]
 ·subst Ci
  have eC:TC 167 [.sc (.string ⟨#[]⟩),.sc (.int .u8 47)] (aC bD [[]]):=HA [] 47 (by simp)
  have eD:TC 168 [.sc (.string ⟨#[]⟩)] (VB false):=sT [] (by simp)
  have e1:DE (.string ⟨#[]⟩)=some (.int .i64 0):=rfl
  have a1:=at_one []
  have a2:=ZU []
  simp only[cF,bM,e1,eC,eD,a1,a2,Int.reduceLT,Int.reduceLE,aK,gG,Nat.reduceLeDiff,Nat.reduceLT,Nat.reduceSub,VX,Nat.reduceEqDiff,Nat.reduceAdd]
  exact bN (d:=6) iF (aM (v:=VB false) rfl)
 have hp:0<l.length:=aNC.2 Ci
 have lR:(0:Int)<(l.length:Int):=by omega
 have e0:=KI l hp
 unfold Fj
 unfold A8
 have mK:isNeg l=decide (((l.getD 0 0).toNat:Int)=45):=by
  unfold isNeg
  rw[decide_eq_true (show 1≤l.length from hp),aOg]
  refine decide_eq_decide.2 ⟨fun h=>by rw[h];rfl,fun h=>UInt8.toNat_inj.1 (by rw[show (45:UInt8).toNat=45 from rfl];omega)⟩
 have W7:(if isNeg l=true then l.drop 1 else l).length≤l.length:=by split<;>simp
 have q0:isNeg l=false→¬((l.getD 0 0).toNat:Int)=45:=fun h=>by rw[mK] at h;exact of_decide_eq_false h
 have q9:isNeg l=true→((l.getD 0 0).toNat:Int)=45:=fun h=>by rw[mK] at h;exact of_decide_eq_true h
 have r0:isNeg l=false→(if isNeg l=true then l.drop 1 else l)=l:=fun h=>by rw[h];rfl
 have r9:isNeg l=true→zO (bD l) (some (VI 1)) none=some (bD (if isNeg l=true then l.drop 1 else l)):=fun h=>by rw[h];exact Q0 l (a:=1) hp
 generalize (if isNeg l=true then l.drop 1 else l)=r at *
 generalize isNeg l=neg at *
 clear mK
 have eC:TC 167 [bD r,.sc (.int .u8 47)] (aC bD (iZ 47 r)):=HA r 47 (by omega)
 obtain⟨l1,l2⟩:=Wd (c:=47) (l:=r)
 cases hs:(oL 47 r).2 with
 |
  none =>
  have hd:=(Dl hs).2.1
  rw[Wf hs] at eC
  rw[hd]
  have a1:=at_one r
  have a2:=ZU r
  have eD:=sT r (by omega)
  cases hk:jG r with
  |
   false =>
   rw[hk] at eD
   have hpa:rK neg r none=none:=if_pos (.inl hk)
   rw[hpa]
   cases neg with
   |
    false =>
    have q1:=q0 rfl
    have W7:=r0 rfl
    subst W7
    simp only[cF,bM,bO,lR,e0,q1,eC,eD,a1,a2,Int.reduceLT,aK,bC,aR,aW,eQ,gS,eK,gQ,gG,Nat.reduceLeDiff,Nat.reduceLT,Nat.reduceSub,VX,Nat.reduceEqDiff,Nat.reduceAdd]
    exact bN (d:=6) iF (aM (v:=VB false) rfl)
   |
    true =>
    have q1:=q9 rfl
    have e9:=r9 rfl
    simp only[cF,bM,bO,lR,e0,q1,eC,eD,a1,a2,Int.reduceLT,e9,aK,bC,aR,aW,eQ,gS,eK,gQ,gG,Nat.reduceLeDiff,Nat.reduceLT,Nat.reduceSub,VX,Nat.reduceEqDiff,Nat.reduceAdd]
    exact bN (d:=6) iF (aM (v:=VB false) rfl)
  |
   true =>
   rw[hk] at eD
   have hbt:=Bz hk
   have eN:=wQ r (lI.1 hk).1 (by omega)
   by_cases hz:neg=true∧bZ r=0
   ·have hpa:rK neg r none=none:=if_pos (.inr hz)
    rw[hpa]
    obtain⟨rfl,KO⟩:=hz
    have q1:=q9 rfl
    have e9:=r9 rfl
    have Kq:(((aD 1000000000 (bZ r)).length:Nat):Int)=0:=GV.2 KO
    simp only[cF,bM,bO,lR,e0,q1,eC,eD,a1,a2,eN,e9,cN,Kq,Int.reduceLT,aK,bC,aR,aW,eQ,gS,eK,gQ,gG,Nat.reduceLeDiff,Nat.reduceLT,Nat.reduceSub,VX,Nat.reduceEqDiff,Nat.reduceAdd]
    exact bN (d:=6) iF (aM (v:=VB false) rfl)
   ·have CL:neg=true→¬(((aD 1000000000 (bZ r)).length:Nat):Int)=0:=fun h h0=>hz ⟨h,GV.1 h0⟩
    have hpa:rK neg r none=some (mkRat (mI neg (bZ r)) 1):=if_neg (by rw[hk];rintro(h | h);exact absurd h (by decide);exact hz h)
    rw[hpa]
    simp only[]
    rw[Ot (by decide) (Nat.gcd_one_right _) hz]
    cases neg with
    |
     false =>
     have q1:=q0 rfl
     have W7:=r0 rfl
     subst W7
     simp only[cF,bM,bO,lR,e0,q1,eC,eD,a1,a2,eN,Int.reduceLT,Int.reduceEq,aK,bC,aR,aW,eQ,gS,eK,gQ,gG,Nat.reduceLeDiff,Nat.reduceLT,Nat.reduceSub,VX,Nat.reduceEqDiff,Nat.reduceAdd]
     exact bN (d:=6) (uD (aM (v:=VB false) rfl) (aM (cK _)) Tc) (aM (v:=VB true) rfl)
    |
     true =>
     have q1:=q9 rfl
     have e9:=r9 rfl
     have Kq:=CL rfl
     simp only[cF,bM,bO,lR,e0,q1,eC,eD,a1,a2,eN,Int.reduceLT,Int.reduceEq,e9,cN,Kq,aK,bC,aR,aW,eQ,gS,eK,gQ,gG,Nat.reduceLeDiff,Nat.reduceLT,Nat.reduceSub,VX,Nat.reduceEqDiff,Nat.reduceAdd]
     exact bN (d:=6) (uD (aM (v:=VB true) rfl) (aM (cK _)) Tc) (aM (v:=VB true) rfl)
 |
  some t =>
  have ltt:=l2 t hs
  rw[MA hs] at eC
  generalize (oL 47 r).1=d at *
  by_cases hm:(47:UInt8)∈t
  ·rw[Uk hm]
   have hP:=Vd hm
   generalize hPP:iZ 47 t=P at *
   have a2:∀H,sE (aC bD (d::P)) H=some (VI ((d::P).length:Int)):=fun H=>eR (f:=bD) (xs:=d::P)
   have hq3:(2:Int)<((d::P).length:Int):=by rw[aKO];omega
   generalize hQQ:d::P=PP at *
   clear hQQ hPP hP
   cases neg with
   |
    false =>
    have q1:=q0 rfl
    have W7:=r0 rfl
    subst W7
    simp only[cF,bM,bO,lR,e0,q1,eC,a2,hq3,aK,bC,aR,aW,eQ,gS,eK,gQ,gG,Nat.reduceLeDiff,Nat.reduceLT,Nat.reduceSub,VX,Nat.reduceEqDiff,Nat.reduceAdd]
    exact bN (d:=6) iF (aM (v:=VB false) rfl)
   |
    true =>
    have q1:=q9 rfl
    have e9:=r9 rfl
    simp only[cF,bM,bO,lR,e0,q1,eC,a2,hq3,e9,aK,bC,aR,aW,eQ,gS,eK,gQ,gG,Nat.reduceLeDiff,Nat.reduceLT,Nat.reduceSub,VX,Nat.reduceEqDiff,Nat.reduceAdd]
    exact bN (d:=6) iF (aM (v:=VB false) rfl)
  ·rw[Is hm] at eC
   have a1:=arF d t
   have a3:=apU d t
   have a2:=atX d t
   have eD:=sT d (by omega)
   have eF:=sT t (by omega)
   cases hk:jG d with
   |
    false =>
    rw[hk] at eD
    have hpa:rK neg d (some t)=none:=if_pos (.inl hk)
    rw[hpa]
    cases neg with
    |
     false =>
     have q1:=q0 rfl
     have W7:=r0 rfl
     subst W7
     simp only[cF,bM,bO,lR,e0,q1,eC,eD,a1,a2,Int.reduceLT,aK,bC,aR,aW,eQ,gS,eK,gQ,gG,Nat.reduceLeDiff,Nat.reduceLT,Nat.reduceSub,VX,Nat.reduceEqDiff,Nat.reduceAdd]
     exact bN (d:=6) iF (aM (v:=VB false) rfl)
    |
     true =>
     have q1:=q9 rfl
     have e9:=r9 rfl
     simp only[cF,bM,bO,lR,e0,q1,eC,eD,a1,a2,Int.reduceLT,e9,aK,bC,aR,aW,eQ,gS,eK,gQ,gG,Nat.reduceLeDiff,Nat.reduceLT,Nat.reduceSub,VX,Nat.reduceEqDiff,Nat.reduceAdd]
     exact bN (d:=6) iF (aM (v:=VB false) rfl)
   |
    true =>
    rw[hk] at eD
    have hbt:=Bz hk
    have eN:=wQ d (lI.1 hk).1 (by omega)
    by_cases hz:neg=true∧bZ d=0
    ·have hpa:rK neg d (some t)=none:=if_pos (.inr hz)
     rw[hpa]
     obtain⟨rfl,KO⟩:=hz
     have q1:=q9 rfl
     have e9:=r9 rfl
     have Kq:(((aD 1000000000 (bZ d)).length:Nat):Int)=0:=GV.2 KO
     simp only[cF,bM,bO,lR,e0,q1,eC,eD,a1,a2,eN,e9,cN,Kq,Int.reduceLT,aK,bC,aR,aW,eQ,gS,eK,gQ,gG,Nat.reduceLeDiff,Nat.reduceLT,Nat.reduceSub,VX,Nat.reduceEqDiff,Nat.reduceAdd]
     exact bN (d:=6) iF (aM (v:=VB false) rfl)
    ·have CL:neg=true→¬(((aD 1000000000 (bZ d)).length:Nat):Int)=0:=fun h h0=>hz ⟨h,GV.1 h0⟩
     have hpa:rK neg d (some t)=if jG t=true∧1<bZ t∧aNm (bZ d) (bZ t)=1 then some (mkRat (mI neg (bZ d)) (bZ t)) else none:=if_neg (by rw[hk];rintro(h | h);exact absurd h (by decide);exact hz h)
     rw[hpa]
     clear hpa
     cases ht:jG t with
     |
      false =>
      rw[ht] at eF
      rw[if_neg (fun h=>absurd h.1 (by decide))]
      cases neg with
      |
       false =>
       have q1:=q0 rfl
       have W7:=r0 rfl
       subst W7
       simp only[cF,bM,bO,lR,e0,q1,eC,eD,eF,a1,a2,a3,eN,Int.reduceLT,Int.reduceEq,aK,bC,aR,aW,eQ,gS,eK,gQ,gG,Nat.reduceLeDiff,Nat.reduceLT,Nat.reduceSub,VX,Nat.reduceEqDiff,Nat.reduceAdd]
       exact bN (d:=6) iF (aM (v:=VB false) rfl)
      |
       true =>
       have q1:=q9 rfl
       have e9:=r9 rfl
       have Kq:=CL rfl
       simp only[cF,bM,bO,lR,e0,q1,eC,eD,eF,a1,a2,a3,eN,Int.reduceLT,Int.reduceEq,e9,cN,Kq,aK,bC,aR,aW,eQ,gS,eK,gQ,gG,Nat.reduceLeDiff,Nat.reduceLT,Nat.reduceSub,VX,Nat.reduceEqDiff,Nat.reduceAdd]
       exact bN (d:=6) iF (aM (v:=VB false) rfl)
     |
      true =>
      rw[ht] at eF
      have Ow:=Bz ht
      have eM:=wQ t (lI.1 ht).1 (by omega)
      have c2:∀lo H K,_:=fun lo H K=>NK (n:=bZ t) (lo:=lo) (H:=H) (K:=K) (aLl (pO (by omega)))
      have c3:=Hu (bZ d) (bZ t) (pO (by omega)) (pO (by omega))
      by_cases h1:gC (bZ t) 1≤0
      ·have hle:¬1<bZ t:=fun h=>by unfold gC at h1;rw[if_neg (by omega),if_neg (by omega)] at h1;exact absurd h1 (by decide)
       rw[if_neg (fun h=>hle h.2.1)]
       cases neg with
       |
        false =>
        have q1:=q0 rfl
        have W7:=r0 rfl
        subst W7
        simp only[cF,bM,bO,lR,e0,q1,eC,eD,eF,a1,a2,a3,eN,eM,c2,h1,Int.reduceLT,Int.reduceEq,aK,bC,aR,aW,eQ,gS,eK,gQ,gG,Nat.reduceLeDiff,Nat.reduceLT,Nat.reduceSub,VX,Nat.reduceEqDiff,Nat.reduceAdd]
        exact bN (d:=6) iF (aM (v:=VB false) rfl)
       |
        true =>
        have q1:=q9 rfl
        have e9:=r9 rfl
        have Kq:=CL rfl
        simp only[cF,bM,bO,lR,e0,q1,eC,eD,eF,a1,a2,a3,eN,eM,c2,h1,Int.reduceLT,Int.reduceEq,e9,cN,Kq,aK,bC,aR,aW,eQ,gS,eK,gQ,gG,Nat.reduceLeDiff,Nat.reduceLT,Nat.reduceSub,VX,Nat.reduceEqDiff,Nat.reduceAdd]
        exact bN (d:=6) iF (aM (v:=VB false) rfl)
      ·have bI:1<bZ t:=by
        rcases Nat.lt_or_ge 1 (bZ t) with h | h
        ·exact h
        ·exfalso
         apply h1
         unfold gC
         split<;>(try split)<;>first | decide | omega
       have hgl:bl (aNm (bZ d) (bZ t))≤665:=Nat.le_trans (mB (Nat.le_of_dvd (by omega) (Nat.gcd_dvd_right _ _))) Ow
       have c4:∀lo H K,_:=fun lo H K=>NK (n:=aNm (bZ d) (bZ t)) (lo:=lo) (H:=H) (K:=K) (aLl (pO (by omega)))
       by_cases hg:aNm (bZ d) (bZ t)=1
       ·have h4:gC (aNm (bZ d) (bZ t)) 1=0:=by rw[hg];rfl
        rw[if_pos ⟨rfl,bI,hg⟩]
        simp only[]
        rw[Ot (by omega) hg hz]
        cases neg with
        |
         false =>
         have q1:=q0 rfl
         have W7:=r0 rfl
         subst W7
         simp only[cF,bM,bO,lR,e0,q1,eC,eD,eF,a1,a2,a3,eN,eM,c2,c3,c4,h1,h4,Int.reduceLT,Int.reduceEq,aK,bC,aR,aW,eQ,gS,eK,gQ,gG,Nat.reduceLeDiff,Nat.reduceLT,Nat.reduceSub,VX,Nat.reduceEqDiff,Nat.reduceAdd]
         exact bN (d:=6) (uD (aM (v:=VB false) rfl) (aM (cK _)) (aM (cK _))) (aM (v:=VB true) rfl)
        |
         true =>
         have q1:=q9 rfl
         have e9:=r9 rfl
         have Kq:=CL rfl
         simp only[cF,bM,bO,lR,e0,q1,eC,eD,eF,a1,a2,a3,eN,eM,c2,c3,c4,h1,h4,Int.reduceLT,Int.reduceEq,e9,cN,Kq,aK,bC,aR,aW,eQ,gS,eK,gQ,gG,Nat.reduceLeDiff,Nat.reduceLT,Nat.reduceSub,VX,Nat.reduceEqDiff,Nat.reduceAdd]
         exact bN (d:=6) (uD (aM (v:=VB true) rfl) (aM (cK _)) (aM (cK _))) (aM (v:=VB true) rfl)
       ·have h4:¬gC (aNm (bZ d) (bZ t)) 1=0:=by
         unfold gC
         split<;>(try split)<;>first | decide | omega
        rw[if_neg (fun h=>hg h.2.2)]
        cases neg with
        |
         false =>
         have q1:=q0 rfl
         have W7:=r0 rfl
         subst W7
         simp only[cF,bM,bO,lR,e0,q1,eC,eD,eF,a1,a2,a3,eN,eM,c2,c3,c4,h1,h4,Int.reduceLT,Int.reduceEq,aK,bC,aR,aW,eQ,gS,eK,gQ,gG,Nat.reduceLeDiff,Nat.reduceLT,Nat.reduceSub,VX,Nat.reduceEqDiff,Nat.reduceAdd]
         exact bN (d:=6) iF (aM (v:=VB false) rfl)
        |
         true =>
         have q1:=q9 rfl
         have e9:=r9 rfl
         have Kq:=CL rfl
         simp only[cF,bM,bO,lR,e0,q1,eC,eD,eF,a1,a2,a3,eN,eM,c2,c3,c4,h1,h4,Int.reduceLT,Int.reduceEq,e9,cN,Kq,aK,bC,aR,aW,eQ,gS,eK,gQ,gG,Nat.reduceLeDiff,Nat.reduceLT,Nat.reduceSub,VX,Nat.reduceEqDiff,Nat.reduceAdd]
         exact bN (d:=6) iF (aM (v:=VB false) rfl)
end Go.PM
namespace Go.PM
open Go.Lib
end Go.PM
namespace Go.PM
open Go.Lib
theorem Uj {l:List UInt8} {q:Rat} (h:A8 l=some q):Fj l = .dW [aN q,VB true]:=by unfold Fj;rw[h]
theorem WR {l:List UInt8} (h:A8 l=none):Fj l = .dW [PA,VB false]:=by unfold Fj;rw[h]
end Go.PM
namespace Go.PM
open Go.Lib
def VE (o:Option (List Rat)):VV:=match o with
 | some qs => .dW [aC aN qs,VB true]
 | none => .dW [aC aN [],VB false]
theorem En:VE none = .dW [aC aN [],VB false]:=rfl
theorem Ei (qs:List Rat):VE (some qs) = .dW [aC aN qs,VB true]:=rfl
theorem jE (q:Rat):(aB (aN q)).length=3:=rfl
theorem rJ (qs:List Rat):aY (aC aN qs)=true:=mR jE BE
theorem adX (q:Rat):Cr (aN q)=true:=by simp[Cr,aN,cA,jJ]
theorem G7 (qs:List Rat):gU (aC aN qs)=true:=Aa jE QX adX
theorem acN (o:Option (List Rat)):gU (VE o)=true:=by
 unfold VE
 split
 ·exact zY (G7 _) rfl
 ·exact zY (G7 []) rfl
set_option maxHeartbeats 1000000 in
theorem BQ (xs:List ByteArray) (hn:xs.length≤1000000000) (hs:∀s∈xs,s.size≤1000000000):TC 57 [gJ xs] (VE (tC xs)):=by
 refine TC.walk ⟨true,false⟩ Pz rfl (aMs rfl) (by simp[aO,kJ]) (acN _) ?_
 unfold tC
 by_cases YH:(300:Int)<(xs.length:Int)
 ·rw[if_neg (by omega)]
  simp only[Et,BU,YH,VX,Nat.reduceEqDiff,Nat.reduceAdd]
  exact Il
 rw[if_pos (by omega)]
 have e0:=fun H=>mX (H:=H) (lr:=false) (z:=[.bool false,.slice none 0 0,.slice none 0 0]) rfl
 simp only[Et,BU,YH,e0,VX,Nat.reduceEqDiff,Nat.reduceAdd]
 refine O7 (fun(s:Nat×List Rat) ρ H=>s.1≤xs.length∧(xs.take s.1).mapM pQ=some s.2∧H=[.row s.1 (s.2.map aN) 3 true]∧ρ 4 = .ref 0 s.1 0 s.1 s.1∧ρ 0=gJ xs∧ρ 13=VI xs.length∧ρ 14=VI s.1) (fun s=>xs.length-s.1) (0,[]) ⟨aK8 _,rfl,rfl,rfl,rfl,rfl,rfl⟩ ?_
 rintro⟨i,out⟩ ρ H ⟨hi,wM,rfl,g4,g13,g14,g15⟩
 simp only at hi wM g4 g15
 have gZ:out.length=i:=by rw[Bt wM,aMd];omega
 by_cases bW:(i:Int)<(xs.length:Int)
 ·obtain⟨x,hx⟩:∃x,xs[i]? = some x:=⟨_,aKL (by omega)⟩
  have hxm:=aLy hx
  have e1:=fun H=>aH (f:=sV) (t := .op) (H:=H) (size:=1) (k := .i64) hx rfl
  have wi:IntKind.i64.wrap ((i:Int)+1)=((i+1:Nat):Int):=wrapN (i+1) (by omega) (by omega)
  have e2:=Ng x.data.toList (by have:=hs x hxm;rw[Array.length_toList];show x.size≤_;omega)
  rw[←ajK] at e2
  cases hp:pQ x with
  |
   none =>
   rw[WR hp] at e2
   rw[mapM_none hp hxm]
   simp only[uB,g4,g13,g14,g15,bW,e1,e2,MD,P3,U5,aZ,bA,aS,gG,Nat.reduceLeDiff,Nat.reduceLT,Nat.reduceSub,nM,cD,cP,gN,lY,pS,bne_iff_ne,ne_eq,not_false_eq_true,not_true_eq_false,VX,Nat.reduceEqDiff,Nat.reduceAdd]
   exact Il
  |
   some q =>
   rw[Uj hp] at e2
   have eL:∀H,mV false [.bool false,.slice none 0 0,.slice none 0 0] 1 [(0,aN q)] H=some (.tree [aN q] (.cl 3),H):=fun H=>iU rfl rfl rfl
   have eS:∀H,cW 3 (.tree [aN q] (.cl 3)) H=some [aN q]:=fun H=>eU rfl rfl
   have eP:dO 0 3 56 (.ref 0 i 0 i i) [aN q] [.row i (out.map aN) 3 true,.row 0 [aN q] 3 true]=some (.ref 0 (i+1) 0 (i+1) (i+1),[.row (i+1) ((out++[q]).map aN) 3 true,.row 0 [aN q] 3 true]):=by
    rw[jV (f:=aN) (xs:=out) (by rw[aU]) gZ.symm (aKE _) (by decide) (by decide) (by omega),aMi]
   simp only[uB,g4,g13,g14,g15,bW,e1,e2,eL,eS,eP,wi,bT,gL,cI,aR,bC,aW,gG,Nat.reduceLeDiff,Nat.reduceLT,Nat.reduceSub,nM,cD,cP,gN,lY,pS,bne_iff_ne,ne_eq,not_false_eq_true,not_true_eq_false,VX,Nat.reduceEqDiff,Nat.reduceAdd]
   refine⟨(i+1,out++[q]),by simp only;omega,?_,by simp only;omega,by simp only[sP hx];exact Q8 wM hp,rfl,?_⟩
   ·rw[DK (oR _ (fN BE)),Km]
   ·simp only[BG,g13,g14,C4 (kJ _),Kl (Nat.lt_succ_self 0),VX,Nat.reduceEqDiff,Nat.reduceAdd,aNT,nZ,List.all_nil,aMh,BG,Py,C4]
 ·have mH:i=xs.length:=by omega
  subst mH
  rw[aLR] at wM
  rw[wM]
  simp only[uB,g4,g13,g14,g15,bW,VX,Nat.reduceEqDiff,Nat.reduceAdd]
  refine bN (d:=6) ?_ (aM (v:=VB true) rfl)
  have:=WV (d:=5) (w:=true) (f:=aN) (e:=3) (b:=0) (g:=xs.length) (c:=xs.length) (xs:=out) (H:=[.row xs.length (out.map aN) 3 true]) BE (by rw[aU]) (by omega)
  rw[gZ] at this
  exact this
set_option maxHeartbeats 1000000 in
theorem QM {lo:Nat} {H:aA} {q:Rat} (h:lo≤H.length):bL lo 3 (.ptr H.length 0 0 0) (aN q) (H++[cell0])=some (H++[.row 0 [aN q] 3 true]):=by
 rw[bS (g:=0) (e:=3) (j:=0) lG (by exact aNW) h rfl rfl,Ps]
 rfl
theorem EP {lo:Nat} {H:aA} {v:VV} (qs:List Rat) {B:Nat} (hv:Rd aN 3 qs H v) (dS:lo≤H.length) (hb:∀q∈qs,aL q≤B) (hk:qs.length*(B+1)+1≤1099511627776) (hB:B≤1099511627776) (hn:qs.length≤1000000000) :
  jD 60 [v] lo H (Sa (fun _ _ _ r=>r=aN (dN qs)) H):=by
 refine jD.walk ⟨true,false⟩ MP (aMs rfl) ?_
 have e1:=BJ
 have e2:=hv.len (H++[cell0,.row 0 [aN 0] 3 true]) (List.prefix_append _ _)
 have s0:bL lo 3 (.ptr (H.length+1) 0 0 0) (aN 0) (H++[cell0,cell0])=some (H++[cell0,.row 0 [aN 0] 3 true]):=by
  have:=QM (lo:=lo) (H:=H++[cell0]) (q:=0) (by rw[aKP];omega)
  simpa only[aKP,aKO,aMh,aMc,aMq,aL4,aLW] using this
 simp only[HH,ET,e1,e2,s0,aKP,aKO,aMh,aMq,aL4,aLW,dR,VX,Nat.reduceEqDiff,Nat.reduceAdd,Nat.reduceLeDiff,Nat.reduceLT,Nat.reduceSub]
 refine aP (fun(i:Nat) ρ H1=>i≤qs.length∧H <+: H1∧aG H1 H.length 0=some ([rz],3,true)∧aG H1 (H.length+1) 0=some ([aN (dN (qs.take i))],3,true)∧ρ 2 = .ptr H.length 0 0 0∧ρ 3 = .ptr (H.length+1) 0 0 0∧ρ 0=v∧ρ 7=VI qs.length∧ρ 8=VI i) (fun i=>qs.length-i) 0 ⟨aK8 _,List.prefix_append _ _,Ce.trans aU,Nr.trans (eO.trans aU),rfl,rfl,rfl,rfl,rfl⟩ ?_
 rintro i ρ H1 ⟨hi,hp,Kk,T1,g2,g3,g0,g7,g8⟩
 have Dx:=iS T1
 have s3:bF true 3 (.ptr (H.length+1) 0 0 0) H1=some (aN (dN (qs.take i))):=by
  rw[bK,T1]
  exact cI _
 by_cases bW:(i:Int)<(qs.length:Int)
 ·obtain⟨q,hq⟩:∃q,qs[i]? = some q:=⟨_,aKL (by omega)⟩
  obtain⟨p,a1,a2⟩:=hv.get H1 hp i q hq
  have a2':=(a2 true).trans (cI _)
  have wi:IntKind.i64.wrap ((i:Int)+1)=((i+1:Nat):Int):=wrapN (i+1) (by omega) (by omega)
  have h1:=BT hb i
  have h2:=hb q (aLy hq)
  have h3:(i+1)*(B+1)≤qs.length*(B+1):=Nat.mul_le_mul_right _ (by omega)
  have e3:=tR (dN (qs.take i)) q (by omega) (by omega)
  rw[←De hq] at e3
  have s4:=bS (lo:=lo) (v:=aN (dN (qs.take (i+1)))) (j:=0) T1 (by exact aNW) (by omega) rfl rfl
  rw[aMi] at s4
  simp only[xY,g2,g3,g0,g7,g8,bW,a1,a2',e3,s3,s4,wi,dR,VX,Nat.reduceEqDiff,Nat.reduceAdd,Nat.reduceLeDiff,Nat.reduceLT,Nat.reduceSub]
  exact⟨i+1,by omega,by omega,lX hp (by omega),aX (by omega) Kk,bQ T1,by (repeat' apply aMk)<;>first | rfl | trivial | assumption⟩
 ·have mH:i=qs.length:=by omega
  subst mH
  rw[aLR] at s3
  have s4:=bS (lo:=lo) (v:=aN (dN qs)) (j:=0) Kk (by exact aNW) dS rfl rfl
  rw[aMi] at s4
  have s5:bF true 3 (.ptr H.length 0 0 0) (H1.set H.length (.row 0 [aN (dN qs)] 3 true))=some (aN (dN qs)):=by
   rw[bK,bQ Kk]
   exact cI _
  simp only[xY,g2,g3,g7,g8,bW,s3,s4,s5,dR,VX,Nat.reduceEqDiff,Nat.reduceAdd,Nat.reduceLeDiff,Nat.reduceLT,Nat.reduceSub]
  exact⟨lX hp (aKE _),rfl⟩
theorem Y8 {q:Rat}:q.num<0↔q<0:=by rw[←Int.not_le,Rat.num_nonneg];constructor<;>intro h<;>grind
theorem uU (qs:List Rat) (hn:qs.length≤1000000000):TC 58 [aC aN qs] (VB (!(qs.any fun q=>decide (q<0)))):=by
 refine TC.walk ⟨true,false⟩ Io rfl (aMs rfl) (by simp[aO,rJ]) rfl ?_
 simp only[Db,Bd,VX,Nat.reduceEqDiff,Nat.reduceAdd]
 refine aP (fun(i:Nat) ρ H=>i≤qs.length∧H=[]∧(∀j x,j<i→qs[j]? = some x→¬x<0)∧ρ 0=aC aN qs∧ρ 5=VI qs.length∧ρ 6=VI i) (fun i=>qs.length-i) 0 ⟨aK8 _,rfl,fun j x h=>by omega,rfl,rfl,rfl⟩ ?_
 rintro i ρ H ⟨hi,rfl,jO,g0,g5,g6⟩
 by_cases bW:(i:Int)<(qs.length:Int)
 ·obtain⟨q,hq⟩:∃q,qs[i]? = some q:=⟨_,aKL (by omega)⟩
  have e2:=fun H=>aH (f:=aN) (t := .op) (H:=H) (size:=3) (k := .i64) hq rfl
  have wi:IntKind.i64.wrap ((i:Int)+1)=((i+1:Nat):Int):=wrapN (i+1) (by omega) (by omega)
  by_cases mK:q.num<0
  ·have Ae:qs.any (fun q=>decide (q<0))=true:=List.any_eq_true.2 ⟨q,aLy hq,decide_eq_true (Y8.1 mK)⟩
   rw[Ae]
   simp only[nR,g0,g5,g6,bW,e2,mK,iE,bT,gL,cI,aR,bC,aW,gG,Nat.reduceLeDiff,Nat.reduceLT,Nat.reduceSub,nM,cD,cP,gN,lY,pS,bne_iff_ne,ne_eq,not_false_eq_true,not_true_eq_false,VX,Nat.reduceEqDiff,Nat.reduceAdd]
   exact aJ rfl
  ·simp only[nR,g0,g5,g6,bW,e2,mK,wi,iE,bT,gL,cI,aR,bC,aW,gG,Nat.reduceLeDiff,Nat.reduceLT,Nat.reduceSub,nM,cD,cP,gN,lY,pS,bne_iff_ne,ne_eq,not_false_eq_true,not_true_eq_false,VX,Nat.reduceEqDiff,Nat.reduceAdd]
   refine⟨i+1,by omega,by omega,fun j y hj hy => ?_,rfl⟩
   rcases Nat.lt_or_ge j i with Ee | Ee
   ·exact jO j y Ee hy
   ·have:j=i:=by omega
    subst this
    rw[hq] at hy
    cases hy
    exact mt Y8.2 mK
 ·have mH:i=qs.length:=by omega
  subst mH
  have Ae:qs.any (fun q=>decide (q<0))=false:=by
   rw[List.any_eq_false]
   intro x hx
   obtain⟨j,hj⟩:=List.getElem?_of_mem hx
   simpa using jO j x (aKD.1 hj).1 hj
  rw[Ae]
  simp only[nR,g0,g5,g6,bW,VX,Nat.reduceEqDiff,Nat.reduceAdd]
  exact aJ rfl
theorem Xi {a b:Rat}:a=b↔(decide (a.num<0)=decide (b.num<0)∧a.num.natAbs*b.den=b.num.natAbs*a.den):=by
 constructor
 ·rintro rfl
  exact⟨rfl,rfl⟩
 ·rintro⟨h1,h2⟩
  have h3:a.num<0↔b.num<0:=by simpa using h1
  have ha:=a.den_nz
  have hb:=b.den_nz
  have key:a.num*b.den=b.num*a.den→a=b:=fun h=>by
   have:=(Rat.mkRat_eq_iff (n₁:=a.num) (n₂:=b.num) ha hb).2 h
   rwa [Rat.mkRat_self,Rat.mkRat_self] at this
  refine key ?_
  have e1:(a.num.natAbs:Int)*b.den=b.num.natAbs*a.den:=by exact_mod_cast h2
  by_cases hn:a.num<0
  ·have hn2:=h3.1 hn
   have q1:a.num = -(a.num.natAbs:Int):=by omega
   have q2:b.num = -(b.num.natAbs:Int):=by omega
   rw[q1,q2,Int.neg_mul,Int.neg_mul,e1]
  ·have hn2:=mt h3.2 hn
   have q1:a.num=(a.num.natAbs:Int):=by omega
   have q2:b.num=(b.num.natAbs:Int):=by omega
   rw[q1,q2,e1]
set_option maxHeartbeats 1000000 in
theorem Nb (a b:Rat) (Mg:aL a≤1099511627776) (IV:aL b≤1099511627776):TC 160 [aN a,aN b] (VB (decide (a=b))):=by
 refine TC.walk ⟨true,false⟩ Na rfl (aMs rfl) (by simp only[aO,BE];rfl) rfl ?_
 have b1 := @pZ a
 have b2 := @pZ b
 have b3 := @oA a
 have b4 := @oA b
 have b5:=oC a.num.natAbs b.den
 have b6:=oC b.num.natAbs a.den
 have c1:=fD a.num.natAbs b.den (aLl (pO (by omega))) (aLl (pO (by omega)))
 have c2:=fD b.num.natAbs a.den (aLl (pO (by omega))) (aLl (pO (by omega)))
 have c3:=yY (a.num.natAbs*b.den) (b.num.natAbs*a.den) (aLl (pO (by omega))) (aLl (pO (by omega)))
 by_cases q1:decide (a.num<0)=decide (b.num<0)
 ·have q2:(decide (a.num<0) == decide (b.num<0))=true:=by simpa using q1
  have hz := @AT (a.num.natAbs*b.den) (b.num.natAbs*a.den)
  by_cases q3:gC (a.num.natAbs*b.den) (b.num.natAbs*a.den)=0
  ·rw[decide_eq_true (Xi.2 ⟨q1,hz.1 q3⟩)]
   simp only[zC,uC,c1,c2,c3,q2,q3,xW,bT,iE,jY,jR,aR,gG,Nat.reduceLeDiff,Nat.reduceLT,Nat.reduceSub,nM,cD,cP,gN,lY,pS,bne_iff_ne,ne_eq,not_false_eq_true,not_true_eq_false,VX,Nat.reduceEqDiff,Nat.reduceAdd]
   exact aJ rfl
  ·rw[decide_eq_false (fun h=>q3 (hz.2 (Xi.1 h).2))]
   simp only[zC,uC,c1,c2,c3,q2,q3,xW,bT,iE,jY,jR,aR,gG,Nat.reduceLeDiff,Nat.reduceLT,Nat.reduceSub,nM,cD,cP,gN,lY,pS,bne_iff_ne,ne_eq,not_false_eq_true,not_true_eq_false,VX,Nat.reduceEqDiff,Nat.reduceAdd]
   exact aJ rfl
 ·have q2:(decide (a.num<0) == decide (b.num<0))=false:=by simpa using q1
  rw[decide_eq_false (fun h=>q1 (Xi.1 h).1)]
  simp only[zC,uC,q2,xW,bT,iE,jY,jR,aR,gG,Nat.reduceLeDiff,Nat.reduceLT,Nat.reduceSub,nM,cD,cP,gN,lY,pS,bne_iff_ne,ne_eq,not_false_eq_true,not_true_eq_false,VX,Nat.reduceEqDiff,Nat.reduceAdd]
  exact aJ rfl
theorem J6 (qs:List Rat) (hb:∀q∈qs,aL q≤665) (hl:qs.length≤300):TC 96 [aC aN qs] (VB (kE qs)):=by
 refine TC.walk ⟨true,false⟩ Jn rfl (aMs rfl) (by simp[aO,rJ]) rfl ?_
 have e1:=uU qs (by omega)
 have e2:=fun(K:aA)=>EP (lo:=0) (H:=K) (v:=aC aN qs) qs (Rd.tree jE) (aK8 _) hb (NR hl) (by omega) (by omega)
 have hsb:=BT hb qs.length
 rw[aLR] at hsb
 have e3:=HU
 have hsr:=NR hl
 have e4:=Nb (dN qs) 1 (by omega) (by rw[AR];omega)
 unfold kE
 cases Ae:qs.any (fun q=>decide (q<0)) with
 |
  true =>
  rw[Ae] at e1
  simp only[Bool.not_true,Bool.false_and] at e1 ⊢
  simp only[Ab,vP,e1,VX,Nat.reduceEqDiff,Nat.reduceAdd]
  exact aJ rfl
 |
  false =>
  rw[Ae] at e1
  simp only[Bool.not_false,aOg] at e1 ⊢
  simp only[Ab,vP,e1,VX,Nat.reduceEqDiff,Nat.reduceAdd]
  refine sA rfl (e2 _) fun r L hr => ?_
  subst hr
  simp only[e3,e4,VX,Nat.reduceEqDiff,Nat.reduceAdd]
  exact aJ rfl
end Go.PM
namespace Go.PM
open Go.Lib
end Go.PM
namespace Go.PM
def yO:aE:=(.seq (LS [LM 20 6,LM 21 4,LO 22 (.bin .lss (LT 20) (LT 21)),LM 23 22,LY 23 24 (.mv (LT 0)),LY 23 25 (.mv (LT 6)),LY 23 26 (.iaddr 1 (LT 24) (LT 25)),LY 23 27 (LL 26),LY 23 28 (.mv (LT 5)),LY 23 29 (.iaddr 3 (LT 27) (LT 28)),LY 23 30 (LK 29),LY 23 31 (.call 59 [(LT 30)]),LO 32 (.pick (LT 23) (LT 31) LF)] (.cond (LT 32) .skip (.exit 2))) (.block 3 (.cT [LM 33 6,LO 34 (.bin .add (LT 33) (LI 1)),LM 6 34])))
def xX:aE:=(.seq (LS [LM 76 9,LM 77 4,LO 78 (.bin .leq (LT 76) (LT 77))] (.cond (LT 78) .skip (.exit 6))) (.seq (.block 7 (.cT [LM 81 0,LM 82 7,LO 83 (.iaddr 1 (LT 81) (LT 82)),LO 84 (LL 83),LM 85 9,LM 86 0,LM 87 7,LO 88 (.iaddr 1 (LT 86) (LT 87)),LO 89 (LL 88),LM 90 9,LO 91 (.iaddr 3 (LT 89) (LT 90)),LO 92 (LK 91),LO 93 (LK 8),LM 94 0,LM 95 5,LO 96 (.iaddr 1 (LT 94) (LT 95)),LO 97 (LL 96),LM 98 9,LO 99 (.iaddr 3 (LT 97) (LT 98)),LO 100 (LK 99),LQ 101 (.call 125 [(LT 93),(LT 100)]),LQ 102 (.call 82 [(LT 92),(LT 101)]),LO 103 (.iaddr 3 (LT 84) (LT 85)),LN (.store 3 (LT 103) (LT 102))])) (.cT [LM 79 9,LO 80 (.bin .add (LT 79) (LI 1)),LM 9 80])))
def nY:aE:=(.seq (LS [LM 42 7,LM 43 4,LO 44 (.bin .lss (LT 42) (LT 43))] (.cond (LT 44) .skip (.exit 4))) (.seq (.block 5 (.seq (LS [LM 47 7,LM 48 5,LO 49 (.bin .eql (LT 47) (LT 48)),LM 50 49,LZ 50 51 (.mv (LT 0)),LZ 50 52 (.mv (LT 7)),LZ 50 53 (.iaddr 1 (LT 51) (LT 52)),LZ 50 54 (LL 53),LZ 50 55 (.mv (LT 5)),LZ 50 56 (.iaddr 3 (LT 54) (LT 55)),LZ 50 57 (LK 56),LZ 50 58 (.call 59 [(LT 57)]),LO 59 (.pick (LT 50) LG (LT 58))] (.cond (LT 59) (.exit 5) .skip)) (LS [LM 60 0,LM 61 7,LO 62 (.iaddr 1 (LT 60) (LT 61)),LO 63 (LL 62),LM 64 5,LO 65 (.iaddr 3 (LT 63) (LT 64)),LO 66 (LK 65),LM 67 0,LM 68 5,LO 69 (.iaddr 1 (LT 67) (LT 68)),LO 70 (LL 69),LM 71 5,LO 72 (.iaddr 3 (LT 70) (LT 71)),LO 73 (LK 72),LQ 74 (.call 81 [(LT 66),(LT 73)]),LQ 8 (.new [(.bool false),(.slice none 0 0),(.slice none 0 0)]),LN (.store 3 (LT 8) (LT 74))] (LS [LM 75 5,LM 9 75] (.block 6 (.loop xX)))))) (.cT [LM 45 7,LO 46 (.bin .add (LT 45) (LI 1)),LM 7 46])))
def yF:aE:=(.seq (LS [LM 14 5,LM 15 4,LO 16 (.bin .lss (LT 14) (LT 15))] (.cond (LT 16) .skip (.exit 0))) (.seq (.block 1 (LS [LM 19 5,LM 6 19] (.seq (.block 2 (.loop yO)) (.seq (LS [LM 35 6,LM 36 4,LO 37 (.bin .eql (LT 35) (LT 36))] (.cond (LT 37) (LS [LO 2 (.mv (.const (.slice none 0 0))),LO 3 (.mv LF)] .ret) .skip)) (LS [LM 38 0,LM 39 5,LM 40 6,LO 41 (.call 179 [(LT 38),(LT 39),(LT 40)])] (LS [LO 7 (.mv (LI 0))] (.block 4 (.loop nY)))))))) (.cT [LM 17 5,LO 18 (.bin .add (LT 17) (LI 1)),LM 5 18])))
def yN:aE:=(.seq (LS [LM 105 11,LM 106 4,LO 107 (.bin .lss (LT 105) (LT 106))] (.cond (LT 107) .skip (.exit 8))) (.seq (.block 9 (.cT [LM 110 10,LM 111 0,LM 112 11,LO 113 (.iaddr 1 (LT 111) (LT 112)),LO 114 (LL 113),LM 115 4,LO 116 (.iaddr 3 (LT 114) (LT 115)),LO 117 (LK 116),LM 118 0,LM 119 11,LO 120 (.iaddr 1 (LT 118) (LT 119)),LO 121 (LL 120),LM 122 11,LO 123 (.iaddr 3 (LT 121) (LT 122)),LO 124 (LK 123),LQ 125 (.call 81 [(LT 117),(LT 124)]),LQ 126 (.lit [(.bool false),(.slice none 0 0),(.slice none 0 0)] 1 [(0,(LT 125))]),LO 127 (.app 3 56 (LT 110) (LT 126)),LM 10 127])) (.cT [LM 108 11,LO 109 (.bin .add (LT 108) (LI 1)),LM 11 109])))
def EA:aE:=(LS [LO 2 (.mv (.const (.slice none 0 0))),LO 3 (.mv LF)] (LS [LM 12 0,LO 13 (.len (LT 12)),LM 4 13] (.seq (LS [LO 5 (.mv (LI 0))] (.block 0 (.loop yF))) (LS [LO 104 (.lit [(.bool false),(.slice none 0 0),(.slice none 0 0)] 0 []),LM 10 104] (.seq (LS [LO 11 (.mv (LI 0))] (.block 8 (.loop yN))) (LS [LM 128 10,LM 2 128,LO 3 (.mv LG)] .ret))))))
def Hw:aT:=⟨129,[(.tmp 2),(.tmp 3)],EA⟩
theorem Ni:fP 134=some Hw:=by kernel_rfl
def F5:aE:=(LS [LM 7 0,LM 8 1,LO 9 (.iaddr 1 (LT 7) (LT 8)),LO 10 (LL 9),LM 6 10] (LS [LM 11 0,LM 12 1,LM 13 0,LM 14 2,LO 15 (.iaddr 1 (LT 13) (LT 14)),LO 16 (LL 15),LO 17 (.iaddr 1 (LT 11) (LT 12)),LN (.store 1 (LT 17) (LT 16))] (.cT [LM 18 0,LM 19 2,LM 20 6,LO 21 (.iaddr 1 (LT 18) (LT 19)),LN (.store 1 (LT 21) (LT 20))])))
def Kc:aT:=⟨22,[],F5⟩
theorem Pv:fP 179=some Kc:=by kernel_rfl
end Go.PM
namespace Go.PM
open Go.Lib
theorem PT (x:List Rat):(aB (aC aN x)).length=1:=rfl
theorem acP (m:List (List Rat)):aY (aC (aC aN) m)=true:=mR PT rJ
theorem ajH (m:List (List Rat)):gU (aC (aC aN) m)=true:=Aa PT G7 fun _=>rfl
end Go.PM
namespace Go.PM
def A6:aE:=(LS [LO 1 (.box (LT 0)),LO 2 (.mv (.const (.string ⟨#[]⟩))),LO 3 (.mv LF)] (LS [LO 7 (LK 1),LO 8 (.call 171 [(LT 7)]),LM 6 8,LO 9 (LX 6 0),LO 10 (LX 6 1),LM 4 9,LM 5 10] (.seq (LS [LM 11 5,LO 12 (.un .not (LT 11))] (.cond (LT 12) (LS [LO 2 (.mv (.const (.string ⟨#[]⟩))),LO 3 (.mv LF)] .ret) .skip)) (LS [LM 13 4,LM 2 13,LO 3 (.mv LG)] .ret))))
def Er:aT:=⟨14,[(.tmp 2),(.tmp 3)],A6⟩
theorem N1:fP 112=some Er:=by kernel_rfl
end Go.PM
namespace Go.PM
end Go.PM
namespace Go.PM
open Go.Lib
theorem awR {b g j o e:Nat} {H:aA} {es:List VV} {w:Bool} {x x':VV} (h:aG H b g=some (es,e,w)) (hx:es[j]? = some x) (hf:PM.fz 7 H x=some x'):PM.fz depth H (.ptr b g j o)=some (x'.cG o):=by
 show PM.fz (7+1) H _=_
 unfold PM.fz
 have:aY (.ptr b g j o)=false:=rfl
 simp[this,h,hx,hf]
theorem OU (q:Rat) (hk:aL q≤1099511627776):TC 112 [aN q] (Bv q):=by
 refine TC.walk ⟨true,false⟩ N1 rfl (aMs rfl) (KR (BE _)) (G4 q) ?_
 have e1:=OB q hk
 unfold Bv at e1 ⊢
 by_cases h:CW q=true
 ·rw[if_pos h] at e1 ⊢
  simp only[Er,A6,e1,bT,gL,cI,aR,bC,aW,gG,Nat.reduceLeDiff,Nat.reduceLT,Nat.reduceSub,nM,cD,cP,gN,lY,pS,bne_iff_ne,ne_eq,not_false_eq_true,not_true_eq_false,VX,Nat.reduceEqDiff,Nat.reduceAdd]
  exact aJ rfl
 ·rw[if_neg h] at e1 ⊢
  simp only[Er,A6,e1,bT,gL,cI,aR,bC,aW,gG,Nat.reduceLeDiff,Nat.reduceLT,Nat.reduceSub,nM,cD,cP,gN,lY,pS,bne_iff_ne,ne_eq,not_false_eq_true,not_true_eq_false,VX,Nat.reduceEqDiff,Nat.reduceAdd]
  exact aJ rfl
end Go.PM
namespace Go.PM
open Go.Lib
end Go.PM