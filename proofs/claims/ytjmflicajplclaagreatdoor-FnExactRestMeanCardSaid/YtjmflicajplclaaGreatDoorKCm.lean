/- Texts of a claim, in one: part 13. -/
import Derived.KernelRfl
import Derived.Test.YtjmflicajplclaaGreatDoorKCl
open And renaming intro → aMd
open Bool renaming and_self → aLV,true_and → aN9
open Int renaming toNat_natCast → aLT
open List renaming all_eq_true → aKL,append_assoc → aMj,cons_append → aLX,findIdx?_eq_none_iff → aNQ,findIdx?_eq_some_iff_getElem → aNR,getD_eq_getElem?_getD → aKu,getElem?_cons_succ → aMh,getElem?_cons_zero → aKR,getElem?_eq_getElem → aKE,getElem?_eq_some_iff → aKw,length_append → aKI,length_cons → aKH,length_drop → aMY,length_eq_zero_iff → aMF,length_nil → aMa,length_pos_iff → aNv,length_take → aL6,mapM_cons → aLU,mem_append → aLt,mem_of_getElem? → aLr,mem_of_mem_drop → aLv,mem_of_mem_take → aLu,mem_singleton → aLD,nil_append → aLP,set_cons_zero → aMb,take_add_one → aMn,take_append_drop → aLG,take_length → aLK,take_of_length_le → aLq,take_zero → aNM
open Nat renaming gcd → aNf,le_of_ble_eq_true → aMl,le_of_lt → aLe,le_refl → aKx,pow_le_pow_right → aMA,sub_zero → aOa,zero_add → aL5,zero_le → aK1,zero_lt_one → aNP
set_option linter.unusedSimpArgs false
set_option linter.unusedVariables false
namespace Go.PM
open Go.Lib
def eW (s:vH):Option (List Rat×List (List Rat)×List Rat):=if (1≤s.b.length∧s.b.length≤6)∧s.g.length=s.b.length∧s.e.length=s.b.length then
  match mQ s.b,sZ s.e with
  | some w,some r=>if (r.any fun q=>decide (q<0))=false then (iS s.g s.b.length).map fun m=>(w,m,r) else none
  | _,_=>none
 else none
def Fm (x:List Rat×List (List Rat)×List Rat):Bool:=(qD x.2.1 x.2.2 x.2.2.length x.2.2.length).all id
def Y2:VV := .agg [.tree [] .op,.tree [] .op,.tree [] .op]
def Qw (s:vH):VV:=match eW s with
 | some x => .eG [Cv aF x.1 x.2.1 x.2.2,VB (Fm x)]
 | none => .eG [Y2,VB false]
theorem La (b:List Rat) (g:List (List Rat)) (e:List Rat):aY (Cv aF b g e)=true:=by
 show aO [aC aF b,aC (aC aF) g,aC aF e]=true
 simp only[aO,gO,Jv,aLV]
theorem anR (b:List Rat) (g:List (List Rat)) (e:List Rat):gZ (Cv aF b g e)=true:=by
 show sK [aC aF b,aC (aC aF) g,aC aF e]=true
 simp only[sK,GY,aqD,aLV]
theorem ahE (s:vH):gZ (Qw s)=true:=by
 unfold Qw
 split
 ·exact zP (anR _ _ _) rfl
 ·exact zP (by decide) rfl
theorem Tv {s:vH} {x:List Rat×List (List Rat)×List Rat} (h:eW s=some x):(1≤x.1.length∧x.1.length≤6)∧x.2.1.length=x.1.length∧x.2.2.length=x.1.length∧iZ x.1=true∧(∀q∈x.1,aK q≤665)∧(∀r∈x.2.1,r.length=x.1.length∧∀q∈r,0≤q∧aK q≤665)∧(∀q∈x.2.2,0≤q∧aK q≤665):=by
 unfold eW at h
 split at h
 ·rename_i hl
  split at h
  ·rename_i w r h1 h2
   split at h
   ·rename_i mE
    obtain⟨m,hm,rfl⟩:=Option.map_eq_some_iff.1 h
    obtain⟨k1,k2⟩:=Qu h1
    obtain⟨b1,_,b3⟩:=nD k1
    obtain⟨c1,_,c3⟩:=nD h2
    obtain⟨d1,d2⟩:=tM hm
    refine⟨by simp only;omega,by simp only;omega,by simp only;omega,k2,b1,fun r hr=>⟨by have:=(d2 r hr).1;simp only;omega,(d2 r hr).2⟩,fun q hq=>⟨?_,c1 q hq⟩⟩
    have:=List.any_eq_false.1 mE q hq
    exact Rat.not_lt.1 (by simpa using this)
   ·cases h
  ·cases h
 ·cases h
theorem Hi (bs:List Bool) (b:Bool) (hn:bs.length≤1000000):TC 213 [aC (fun b=>VB b) bs,VB b] (VI (match bs.findIdx? (· == b) with | some i=>(i:Int) | none => -1)):=by
 refine TC.walk ⟨true,false⟩ AE rfl (aMl rfl) (Lr (LC _) rfl) rfl ?_
 simp only[tA,qT,dS,VX,Nat.reduceEqDiff,Nat.reduceAdd,Nat.reduceLeDiff,Nat.reduceLT,Nat.reduceSub]
 refine aP (fun(i:Nat) ρ H=>i≤bs.length∧H=[]∧(∀x∈bs.take i,(x == b)=false)∧ρ 0=aC (fun b=>VB b) bs∧ρ 1=VB b∧ρ 7=VI bs.length∧ρ 8=VI i) (fun i=>bs.length-i) 0 ⟨aK1 _,rfl,by simp,rfl,rfl,rfl,rfl⟩ ?_
 rintro i ρ H ⟨hi,rfl,ht,g0,g1,g7,g8⟩
 by_cases bW:(i:Int)<(bs.length:Int)
 ·obtain⟨x,hx⟩:∃x,bs[i]? = some x:=⟨_,aKE (by omega)⟩
  have a1:=fun H=>aH (f:=fun b=>VB b) (t := .op) (H:=H) (size:=1) (k := .i64) hx rfl
  have wi:IntKind.i64.wrap ((i:Int)+1)=((i+1:Nat):Int):=wrapN (i+1) (by omega) (by omega)
  by_cases hxb:(x == b)=true
  ·have hf:bs.findIdx? (· == b)=some i:=by
    rw[aNR]
    refine⟨by omega,by rw[aKw] at hx;obtain⟨h1,h2⟩:=hx;rw[h2];exact hxb,fun j hj => ?_⟩
    have:=ht bs[j] (List.mem_take_iff_getElem.2 ⟨j,by omega,rfl⟩)
    simpa using this
   have e1:Ol false (.bool b) (.bool x)=some (.bool true):=by
    have:x=b:=by simpa using hxb
    subst this
    cases x<;>rfl
   rw[hf]
   simp only[gJ,g0,g1,g7,g8,bW,a1,e1,dS,VX,Nat.reduceEqDiff,Nat.reduceAdd,Nat.reduceLeDiff,Nat.reduceLT,Nat.reduceSub]
   exact aL rfl
  ·have e1:Ol false (.bool b) (.bool x)=some (.bool false):=by
    cases x<;>cases b<;>first | rfl | exact absurd rfl hxb
   simp only[gJ,g0,g1,g7,g8,bW,a1,e1,wi,dS,VX,Nat.reduceEqDiff,Nat.reduceAdd,Nat.reduceLeDiff,Nat.reduceLT,Nat.reduceSub]
   refine⟨i+1,by omega,by omega,fun y hy => ?_,by (repeat' apply aMd)<;>first | rfl | trivial | assumption⟩
   rw[sQ hx] at hy
   rcases aLt.1 hy with h | h
   ·exact ht y h
   ·rw[aLD] at h
    subst h
    simpa using hxb
 ·have mI:i=bs.length:=by omega
  subst mI
  rw[aLK] at ht
  have hf:bs.findIdx? (· == b)=none:=by
   rw[aNQ]
   exact ht
  rw[hf]
  simp only[gJ,g7,g8,bW,dS,VX,Nat.reduceEqDiff,Nat.reduceAdd,Nat.reduceLeDiff,Nat.reduceLT,Nat.reduceSub]
  exact aL rfl
theorem DM (bs:List Bool) (hn:bs.length≤1000000):TC 194 [aC (fun b=>VB b) bs,VB false] (VB (!bs.all id)):=by
 refine TC.walk ⟨true,false⟩ yC rfl (aMl rfl) (Lr (LC _) rfl) rfl ?_
 have e1:=Hi bs false hn
 cases hf:bs.findIdx? (· == false) with
 |
  none =>
  rw[hf] at e1
  have ha:bs.all id=true:=by
   rw[aNQ] at hf
   rw[aKL]
   intro x hx
   have:=hf x hx
   cases x<;>first | rfl | cases this
  have g:¬(0:Int) ≤ -1:=by decide
  rw[ha]
  simp only[kK,jF,e1,g,ge_iff_le,Int.reduceNeg,Bool.not_true,dS,VX,Nat.reduceEqDiff,Nat.reduceAdd,Nat.reduceLeDiff,Nat.reduceLT,Nat.reduceSub]
  exact aL rfl
 |
  some i =>
  rw[hf] at e1
  have ha:bs.all id=false:=by
   rw[aNR] at hf
   obtain⟨h1,h2,_⟩:=hf
   cases jW:bs.all id with
   | false=>rfl
   |
    true =>
    have:=aKL.1 jW bs[i] (List.getElem_mem h1)
    simp only[id] at this
    rw[this] at h2
    cases h2
  have g:(0:Int)≤(i:Int):=by omega
  rw[ha]
  simp only[kK,jF,e1,g,ge_iff_le,Bool.not_false,dS,VX,Nat.reduceEqDiff,Nat.reduceAdd,Nat.reduceLeDiff,Nat.reduceLT,Nat.reduceSub]
  exact aL rfl
def W5 (B E:VV) (i:Nat) (out:List (List Rat)):aA:=match i with
 | 0=>[kR,.row 0 [.agg [B,.tree [] .nil,E]] 3 true]
 | i+1=>[kR,.row 0 [.agg [B,.ref 2 i 0 (i+1) (i+1),E]] 3 true,.row i (out.map (aC aF)) 1 true]
theorem asN {H:aA}:PM.fz depth H (.eG [.agg [.tree [] .nil,.tree [] .nil,.tree [] .nil],VB false])=some (.eG [Y2,VB false]):=by
 refine bN (d:=6) (Gy (d:=5) ?_) (aN (v:=VB false) rfl)
 rw[aLU,Cd,aLU,Cd,aLU,Cd]
 rfl
set_option maxHeartbeats 4000000 in
theorem KV (s:vH) (hb:Tl s):TC 176 [vM s] (Qw s):=by
 refine TC.walk ⟨true,false⟩ Ky rfl (aMl rfl) (Al (rP _)) (ahE _) ?_
 have zB:=hb.b4
 have hel:=hb.e4
 have bad:eW s=none→∀K,PM.fz depth K (.eG [.agg [.tree [] .nil,.tree [] .nil,.tree [] .nil],VB false])=some (Qw s):=fun h K=>by
  have:Qw s = .eG [Y2,VB false]:=by unfold Qw;rw[h]
  rw[this]
  exact asN
 have KS:∀K:aA,bL 0 3 (.ptr 0 0 0 0) (.agg [.tree [] .nil,.tree [] .nil,.tree [] .nil]) (kR::K)=some (kR::K):=fun K=>by
  unfold kR
  rw[bS (e:=3) aT (by exact aNP) (aKx _) rfl rfl]
  rfl
 have SG:∀K:aA,bF true 3 (.ptr 0 0 0 0) (kR::K)=some (.agg [.tree [] .nil,.tree [] .nil,.tree [] .nil]):=fun K=>by
  rw[bK,aT]
  rfl
 by_cases h1:(s.b.length:Int)<1
 ·have bad:=bad (by unfold eW;exact if_neg (by omega))
  simp only[gA,dX,vM,h1,KS,SG,dU,aKR,aMh,aL5,aLP,aMa,dS,VX,Nat.reduceEqDiff,Nat.reduceAdd,Nat.reduceLeDiff,Nat.reduceLT,Nat.reduceSub]
  exact bad _
 by_cases h6:(6:Int)<(s.b.length:Int)
 ·have bad:=bad (by unfold eW;exact if_neg (by omega))
  simp only[gA,dX,vM,h1,h6,KS,SG,dU,aKR,aMh,aL5,aLP,aMa,dS,VX,Nat.reduceEqDiff,Nat.reduceAdd,Nat.reduceLeDiff,Nat.reduceLT,Nat.reduceSub]
  exact bad _
 by_cases hg:(s.g.length:Int)=(s.b.length:Int)
 case neg =>
  have bad:=bad (by unfold eW;exact if_neg (by omega))
  simp only[gA,dX,vM,h1,h6,hg,KS,SG,dU,aKR,aMh,aL5,aLP,aMa,ne_eq,not_false_eq_true,decide_true,dS,VX,Nat.reduceEqDiff,Nat.reduceAdd,Nat.reduceLeDiff,Nat.reduceLT,Nat.reduceSub]
  exact bad _
 by_cases he:(s.e.length:Int)=(s.b.length:Int)
 case neg =>
  have bad:=bad (by unfold eW;exact if_neg (by omega))
  simp only[gA,dX,vM,h1,h6,hg,he,KS,SG,dU,aKR,aMh,aL5,aLP,aMa,ne_eq,not_false_eq_true,not_true_eq_false,decide_true,decide_false,dS,VX,Nat.reduceEqDiff,Nat.reduceAdd,Nat.reduceLeDiff,Nat.reduceLT,Nat.reduceSub]
  exact bad _
 have uO:(1≤s.b.length∧s.b.length≤6)∧s.g.length=s.b.length∧s.e.length=s.b.length:=by omega
 have e1:=Lo s.b (by omega) hb.bs
 have e2:=Gc s.e (by omega) hb.es
 cases hw:mQ s.b with
 |
  none =>
  rw[hw,rV] at e1
  have bad:=bad (by unfold eW;rw[if_pos uO,hw])
  cases hr:sZ s.e with
  |
   none =>
   rw[hr,rV] at e2
   simp only[gA,dX,vM,h1,h6,hg,he,e1,e2,KS,SG,dU,aKR,aMh,aL5,aLP,aMa,ne_eq,not_true_eq_false,decide_false,dS,VX,Nat.reduceEqDiff,Nat.reduceAdd,Nat.reduceLeDiff,Nat.reduceLT,Nat.reduceSub]
   exact bad _
  |
   some r =>
   rw[hr,xU] at e2
   simp only[gA,dX,vM,h1,h6,hg,he,e1,e2,KS,SG,dU,aKR,aMh,aL5,aLP,aMa,ne_eq,not_true_eq_false,decide_false,dS,VX,Nat.reduceEqDiff,Nat.reduceAdd,Nat.reduceLeDiff,Nat.reduceLT,Nat.reduceSub]
   exact bad _
 |
  some w =>
  rw[hw,xU] at e1
  cases hr:sZ s.e with
  |
   none =>
   rw[hr,rV] at e2
   have bad:=bad (by unfold eW;rw[if_pos uO,hw,hr])
   simp only[gA,dX,vM,h1,h6,hg,he,e1,e2,KS,SG,dU,aKR,aMh,aL5,aLP,aMa,ne_eq,not_true_eq_false,decide_false,dS,VX,Nat.reduceEqDiff,Nat.reduceAdd,Nat.reduceLeDiff,Nat.reduceLT,Nat.reduceSub]
   exact bad _
  |
   some r =>
   rw[hr,xU] at e2
   obtain⟨Bo,BY,abO⟩:=nD hr
   have e3:=mF r 67 (fun q=>decide (q<0)) (fun q _=>Bt q) (by omega)
   cases Ag:r.any (fun q=>decide (q<0)) with
   |
    true =>
    rw[Ag] at e3
    have bad:=bad (by unfold eW;rw[if_pos uO,hw,hr];exact if_neg (by rw[Ag];decide))
    simp only[gA,dX,vM,h1,h6,hg,he,e1,e2,e3,KS,SG,dU,aKR,aMh,aL5,aLP,aMa,ne_eq,not_true_eq_false,decide_false,dS,VX,Nat.reduceEqDiff,Nat.reduceAdd,Nat.reduceLeDiff,Nat.reduceLT,Nat.reduceSub]
    exact bad _
   |
    false =>
    rw[Ag] at e3
    have He:eW s=(iS s.g s.b.length).map fun m=>(w,m,r):=by unfold eW;rw[if_pos uO,hw,hr];exact if_pos Ag
    have s1:bL 0 3 (.ptr 1 0 0 0) (.agg [aC aF w,.tree [] .nil,aC aF r]) [kR,kR]=some [kR,.row 0 [.agg [aC aF w,.tree [] .nil,aC aF r]] 3 true]:=by
     rw[bS (e:=3) (g:=0) (j:=0) (eJ.trans aT) (by exact aNP) (by omega) rfl rfl]
     rfl
    simp only[gA,dX,vM,h1,h6,hg,he,e1,e2,e3,s1,dU,aKR,aMh,aL5,aLP,aMa,aKH,aLX,ne_eq,not_true_eq_false,decide_false,dS,VX,Nat.reduceEqDiff,Nat.reduceAdd,Nat.reduceLeDiff,Nat.reduceLT,Nat.reduceSub]
    refine aP (fun(i:Nat) ρ H=>i≤s.b.length∧(∃out,iS s.g i=some out∧H=W5 (aC aF w) (aC aF r) i out)∧ρ 2 = .ptr 0 0 0 0∧ρ 4=VI s.b.length∧ρ 7=aC aF r∧ρ 9 = .ptr 1 0 0 0∧ρ 65=aC gL s.g∧ρ 66=VI s.b.length∧ρ 67=VI i) (fun i=>s.b.length-i) 0
     ⟨aK1 _,⟨[],rfl,rfl⟩,by (repeat' apply aMd)<;>first | rfl | trivial | assumption⟩ ?_
    rintro i ρ H ⟨hi,⟨out,wI,rfl⟩,g2,g4,g7,g9,g65,g66,g67⟩
    obtain⟨hJ,hof⟩:=tM wI
    by_cases bW:(i:Int)<(s.b.length:Int)
    ·obtain⟨x,hx⟩:∃x,s.g[i]? = some x:=⟨_,aKE (by omega)⟩
     have hxm:=aLr hx
     have hgd:s.g.getD i []=x:=by rw[aKu,hx];rfl
     have a1:=fun H=>aH (f:=gL) (t := .op) (H:=H) (size:=1) (k := .i64) hx rfl
     have wi:IntKind.i64.wrap ((i:Int)+1)=((i+1:Nat):Int):=wrapN (i+1) (by omega) (by omega)
     have e4:=Gc x (hb.g9.2 x hxm) (hb.gs x hxm)
     have vZ:iS s.g (i+1)=match iI s.g.length i x with | some q=>some (out++[q]) | none=>none:=by
      rw[iS,wI,hgd]
      cases iI s.g.length i x<;>rfl
     have bad:iI s.g.length i x=none→∀K,PM.fz depth K (.eG [.agg [.tree [] .nil,.tree [] .nil,.tree [] .nil],VB false])=some (Qw s):=fun h=>by
      rw[h] at vZ
      exact bad (by rw[He,Eb vZ s.b.length (by omega)];rfl)
     have asZ:∀i,bL 0 3 (.ptr 0 0 0 0) (.agg [.tree [] .nil,.tree [] .nil,.tree [] .nil]) (W5 (aC aF w) (aC aF r) i out)=some (W5 (aC aF w) (aC aF r) i out):=fun i=>by cases i<;>exact KS _
     have aqB:∀i,bF true 3 (.ptr 0 0 0 0) (W5 (aC aF w) (aC aF r) i out)=some (.agg [.tree [] .nil,.tree [] .nil,.tree [] .nil]):=fun i=>by cases i<;>exact SG _
     cases HQ:sZ x with
     |
      none =>
      rw[HQ,rV] at e4
      have bad:=bad (by unfold iI;rw[HQ])
      simp only[fT,g2,g4,g65,g66,g67,bW,a1,e4,asZ,aqB,dS,VX,Nat.reduceEqDiff,Nat.reduceAdd,Nat.reduceLeDiff,Nat.reduceLT,Nat.reduceSub]
      exact bad _
     |
      some y =>
      rw[HQ,xU] at e4
      obtain⟨hyb,hyl,_⟩:=nD HQ
      by_cases hl:(y.length:Int)=(s.b.length:Int)
      case neg =>
       have bad:=bad (by unfold iI;rw[HQ];exact if_neg (fun h=>hl (by omega)))
       simp only[fT,g2,g4,g65,g66,g67,bW,a1,e4,hl,asZ,aqB,ne_eq,not_false_eq_true,decide_true,dS,VX,Nat.reduceEqDiff,Nat.reduceAdd,Nat.reduceLeDiff,Nat.reduceLT,Nat.reduceSub]
       exact bad _
      have e5:=mF y 67 (fun q=>decide (q<0)) (fun q _=>Bt q) (by omega)
      cases IZ:y.any (fun q=>decide (q<0)) with
      |
       true =>
       rw[IZ] at e5
       have bad:=bad (by unfold iI;rw[HQ];exact if_neg (fun h=>by rw[IZ] at h;cases h.2.1))
       simp only[fT,g2,g4,g65,g66,g67,bW,a1,e4,e5,hl,asZ,aqB,ne_eq,not_true_eq_false,decide_false,dS,VX,Nat.reduceEqDiff,Nat.reduceAdd,Nat.reduceLeDiff,Nat.reduceLT,Nat.reduceSub]
       exact bad _
      |
       false =>
       rw[IZ] at e5
       obtain⟨q,hq⟩:∃q,y[i]? = some q:=⟨_,aKE (by omega)⟩
       have hqd:y.getD i 0=q:=by rw[aKu,hq];rfl
       have a2:=fun H=>aH (f:=aF) (t := .op) (H:=H) (size:=3) (k := .i64) hq rfl
       have e6:=dI q
       by_cases hz:jJ q=0
       case neg =>
        have bad:=bad (by unfold iI;rw[HQ];exact if_neg (fun h=>hz (zE.2 (by rw[←hqd];exact h.2.2))))
        simp only[fT,g2,g4,g65,g66,g67,bW,a1,a2,e4,e5,e6,hl,hz,asZ,aqB,bI,ne_eq,not_true_eq_false,not_false_eq_true,decide_false,decide_true,dS,VX,Nat.reduceEqDiff,Nat.reduceAdd,Nat.reduceLeDiff,Nat.reduceLT,Nat.reduceSub]
        exact bad _
       have lL:iI s.g.length i x=some y:=by unfold iI;rw[HQ];exact if_pos ⟨by omega,IZ,by rw[hqd,zE.1 hz]⟩
       rw[lL] at vZ
       have eL:∀K,mR false [.slice none 0 0] 1 [(0,aC aF y)] K=some (.tree [aC aF y] (.cl 1),K):=fun K=>iX rfl rfl rfl
       have eS:∀K,cW 1 (.tree [aC aF y] (.cl 1)) K=some [aC aF y]:=fun K=>eV rfl rfl
       cases i with
       |
        zero =>
        have ho:out=[]:=aMF.1 hJ
        subst ho
        have eP:∀K:aA,dP 0 1 24 (.tree [] .nil) [aC aF y] K=some (.ref K.length 0 0 1 1,K++[.row 0 [aC aF y] 1 true]):=fun K=>by simp[dP]
        simp only[fT,W5,g2,g4,g9,g65,g66,g67,bW,a1,a2,e4,e5,e6,hl,hz,eL,eS,eP,wi,bI,ne_eq,not_true_eq_false,decide_false,aKH,aMa,aLX,aLP,gH,Nat.reduceLeDiff,Nat.reduceLT,Nat.reduceSub,nH,cD,cP,gP,lO,pN,bne_iff_ne,ne_eq,not_false_eq_true,not_true_eq_false,VX,Nat.reduceEqDiff,Nat.reduceAdd]
        exact⟨1,by omega,by omega,⟨[y],vZ,rfl⟩,by (repeat' apply aMd)<;>first | rfl | trivial | assumption⟩
       |
        succ i =>
        have eP:dP 0 1 24 (.ref 2 i 0 (i+1) (i+1)) [aC aF y] (W5 (aC aF w) (aC aF r) (i+1) out)=some (.ref 2 (i+1) 0 (i+2) (i+2),[kR,.row 0 [.agg [aC aF w,.ref 2 i 0 (i+1) (i+1),aC aF r]] 3 true,.row (i+1) ((out++[y]).map (aC aF)) 1 true]):=by
         rw[W5,jQ (f:=aC aF) (xs:=out) (by rw[eJ,eJ,aT]) hJ.symm (aK1 _) (by decide) (by decide) (by omega)]
         rfl
        simp only[W5] at eP
        simp only[fT,W5,g2,g4,g9,g65,g66,g67,bW,a1,a2,e4,e5,e6,hl,hz,eL,eS,eP,wi,bI,ne_eq,not_true_eq_false,decide_false,gH,Nat.reduceLeDiff,Nat.reduceLT,Nat.reduceSub,nH,cD,cP,gP,lO,pN,bne_iff_ne,ne_eq,not_false_eq_true,not_true_eq_false,VX,Nat.reduceEqDiff,Nat.reduceAdd]
        exact⟨i+2,by omega,by omega,⟨out++[y],vZ,rfl⟩,by (repeat' apply aMd)<;>first | rfl | trivial | assumption⟩
    ·have mI:i=s.b.length:=by omega
     rw[mI] at wI hJ
     obtain⟨k,hk⟩:∃k,s.b.length=k+1:=⟨s.b.length-1,by omega⟩
     have alV:Qw s = .eG [Cv aF w out r,VB (Fm (w,out,r))]:=by unfold Qw;rw[He,wI];rfl
     rw[alV]
     have aBy:r.length=s.b.length:=by omega
     have V9:i=k+1:=by omega
     subst V9
     have hE:=Ty (g:=out) (e:=r) (n:=r.length) (by omega) (by omega) (fun z hz=>by have:=(hof z hz).1;omega) rfl
     have Rf:aG (W5 (aC aF w) (aC aF r) (k+1) out) 2 k=some (out.map (aC aF),1,true):=by rw[W5,eJ,eJ,aT]
     have alD:=GK (d:=6) (c:=k+1) (gO ·) Rf (by omega)
     rw[hJ,hk] at alD
     have hE2:=fun lo K=>TC.Dx (lo:=lo) (k:=K) (H:=W5 (aC aF w) (aC aF r) (k+1) out) (args:=[.ref 2 k 0 (k+1) (k+1),aC aF r]) hE rfl (Lr (Jv _) (gO _)) (fz2 alD (aL (gO _))) rfl
     have aFu:[VV.ref 2 k 0 (k+1) (k+1),aC aF r].flatMap (iT depth (W5 (aC aF w) (aC aF r) (k+1) out))=[2]:=by
      rw[List.flatMap_cons,List.flatMap_cons,Kl Rf (by rw[List.length_map];omega) (fO gO),DV (gO _)]
      rfl
     have aBs:Ja (aC (fun b=>VB b) (qD out r r.length r.length))=false:=rfl
     rw[aFu] at hE2
     simp only[aBs,Bool.false_eq_true,if_false] at hE2
     have hfr:dA (W5 (aC aF w) (aC aF r) (k+1) out) [2]=[kR,.row 0 [.agg [aC aF w,.ref 2 k 0 (k+1) (k+1),aC aF r]] 3 true,.row k (out.map (aC aF)) 1 false]:=rfl
     rw[hfr] at hE2
     have hC:=DM (qD out r r.length r.length) (by rw[Ea];omega)
     simp only[fT,W5,g2,g7,g9,g66,g67,bW,dU,gH,Nat.reduceLeDiff,Nat.reduceLT,Nat.reduceSub,nH,cD,cP,gP,lO,pN,bne_iff_ne,ne_eq,not_false_eq_true,not_true_eq_false,VX,Nat.reduceEqDiff,Nat.reduceAdd]
     simp only[W5] at hE2
     have st3:∀K:aA,bL 0 3 (.ptr 0 0 0 0) (.agg [aC aF w,.ref 2 k 0 (k+1) (k+1),aC aF r]) (kR::K)=some (.row 0 [.agg [aC aF w,.ref 2 k 0 (k+1) (k+1),aC aF r]] 3 true::K):=fun K=>by
      unfold kR
      rw[bS (e:=3) aT (by exact aNP) (aKx _) rfl rfl]
      rfl
     have ld3:∀K:aA,bF true 3 (.ptr 0 0 0 0) (.row 0 [.agg [aC aF w,.ref 2 k 0 (k+1) (k+1),aC aF r]] 3 true::K)=some (.agg [aC aF w,.ref 2 k 0 (k+1) (k+1),aC aF r]):=fun K=>by
      rw[bK,aT]
      rfl
     simp only[hE2,hC,g2,st3,ld3,Bool.not_not,gH,Nat.reduceLeDiff,Nat.reduceLT,Nat.reduceSub,nH,cD,cP,gP,lO,pN,bne_iff_ne,ne_eq,not_false_eq_true,not_true_eq_false,VX,Nat.reduceEqDiff,Nat.reduceAdd]
     refine bN (d:=6) (Gy (d:=5) ?_) (aN (v:=VB _) rfl)
     have hf3:=GK (d:=4) (c:=k+1) (b:=2) (g:=k) (w:=false) (H:=[.row 0 [.agg [aC aF w,.ref 2 k 0 (k+1) (k+1),aC aF r]] 3 true,.row 0 [.agg [aC aF w,.ref 2 k 0 (k+1) (k+1),aC aF r]] 3 true,.row k (out.map (aC aF)) 1 false]) (gO ·) (by rw[eJ,eJ,aT]) (by omega)
     rw[hJ,hk] at hf3
     rw[aLU,aN (gO w),aLU,hf3,aLU,aN (gO r)]
     rfl
end Go.PM
namespace Go.PM
structure Lin where
 u:List ByteArray
 d:List ByteArray
 deriving Inhabited
end Go.PM
namespace Go.PM
end Go.PM
namespace Go.PM
open Go.Lib
theorem agO (d:Nat) (h:d≤9223372036854775807):TC 219 [VI (d:Int)] (bD (decDigits d)):=by
 have:=Qh (d:Int) (by omega) (by omega)
 rw[if_neg (by omega),aLP,Int.natAbs_natCast] at this
 exact this
theorem aoF {n i:Nat} (hi:i+1=(aD 1000000000 n).length):n / 1000000000^i=n / 1000000000^i % 1000000000:=by
 have h1:=abD (b:=1000000000) (by decide) n (i+1)
 rw[List.drop_of_length_le (by omega)] at h1
 have h2:=(nR (b:=1000000000) (by decide)).1 h1.symm
 rw[wW] at h2
 rcases Nat.div_eq_zero_iff.1 h2 with h | h
 ·exact absurd h (by decide)
 ·exact(Nat.mod_eq_of_lt h).symm
theorem L7 (l:List UInt8) (a b:Nat):(⟨l.toArray⟩:ByteArray).extract a b=⟨((l.drop a).take (b-a)).toArray⟩:=by
 rw[ByteArray.ext_iff,ByteArray.data_extract]
 simp[List.extract_toArray,List.extract_eq_take_drop]
theorem alN (l:List UInt8) {a b:Nat} (h:a≤b) (hb:b≤l.length):zI (bD l) (some (VI (a:Int))) (some (VI (b:Int)))=some (bD ((l.drop a).take (b-a))):=by
 have hs:(⟨l.toArray⟩:ByteArray).size=l.length:=by simp[ByteArray.size]
 have e1:(0:Int)≤b∧(b:Int)≤(l.length:Int):=by omega
 have e2:(0:Int)≤a∧(a:Int)≤(b:Int):=by omega
 simp only[zI,Ix,Ck,hs,fF,e1,e2,and_self,if_true,aLT,L7]
theorem QK (l:List UInt8) {a:Nat} (h:a≤l.length):zI (bD l) (some (VI (a:Int))) none=some (bD (l.drop a)):=by
 have hs:(⟨l.toArray⟩:ByteArray).size=l.length:=by simp[ByteArray.size]
 have e2:(0:Int)≤a∧(a:Int)≤(l.length:Int):=by omega
 simp only[zI,Ix,Ck,hs,fF,e2,and_self,if_true,aLT,L7]
 rw[aLq (by simp)]
theorem aCh (l:List UInt8) (h:1≤l.length):zI (bD l) (some (VI 1)) none=some (bD (l.drop 1)):=QK l h
theorem aeL {a:Nat} (h:a<1000000000):IntKind.i64.wrap ((a:Int)+1000000000)=((a+1000000000:Nat):Int):=wrapN _ (by omega) (by omega)
theorem qS (n:Nat) (hn:bl n≤2199023255552):TC 208 [cA n] (bD (decDigits n)):=by
 refine TC.walk ⟨true,false⟩ Ka rfl (aMl rfl) (by simp[aO,cK]) rfl ?_
 by_cases h0:n=0
 ·subst h0
  have hl:(((aD 1000000000 0).length:Nat):Int)=0:=by rw[cF];rfl
  simp only[Am,wC,cN,hl,VX,Nat.reduceEqDiff,Nat.reduceAdd]
  rw[kG (by decide)]
  exact aL rfl
 have hl:¬(((aD 1000000000 n).length:Nat):Int)=0:=by have:=(tJ (n:=n)).2 h0;omega
 obtain⟨L,hL⟩:∃L,(aD 1000000000 n).length=L+1:=⟨(aD 1000000000 n).length-1,by omega⟩
 have Fs:=pK (n:=n) (by omega)
 have hlT:=auT n
 have hdl:=Du n
 have w1:IntKind.i64.wrap (((L+1:Nat):Int)-1)=(L:Int):=wrapN _ (by omega) (by omega)
 have w2:IntKind.i64.wrap (((L+1:Nat):Int)-2)=(L:Int)-1:=by rw[wrap64 (by omega) (by omega)];omega
 have at':∀i,i≤L→bJ 1 (cA n) (VI (i:Int)) []=some (.cI (tV (n / 1000000000^i % 1000000000)) 0):=fun i hi=>aH (f:=tV) (t := .op) (H:=[]) (size:=1) (k := .i64) (PF (b:=1000000000) (by decide) (n:=n) (i:=i) (by omega)) rfl
 have eL:=at' L (aKx _)
 have anK:=aoF (n:=n) (i:=L) (by omega)
 rw[←anK] at eL
 have TS:n / 1000000000^L≠0:=(GF (b:=1000000000) (by decide)).1 (by omega)
 have hqT:n / 1000000000^L<1000000000:=by rw[anK];exact Nat.mod_lt _ (by decide)
 have c1:=agO (n / 1000000000^L) (by omega)
 rw[hL] at hl
 simp only[Am,wC,cN,hL,hl,w1,w2,eL,c1,VX,Nat.reduceEqDiff,Nat.reduceAdd]
 refine aP (fun(j:Nat) ρ H=>j≤L∧H=[]∧ρ 0=cA n∧ρ 3=bD (decDigits (n / 1000000000^j))∧ρ 4=VI ((j:Int)-1)) (fun j=>j) L ⟨aKx _,rfl,rfl,rfl,rfl⟩ ?_
 rintro j ρ H ⟨hj,rfl,g0,g3,g4⟩
 by_cases hz:(0:Int)≤(j:Int)-1
 ·obtain⟨i,rfl⟩:∃i,j=i+1:=⟨j-1,by omega⟩
  have Ev:((i+1:Nat):Int)-1=(i:Int):=by omega
  rw[Ev] at g4 hz
  have e1:=at' i (by omega)
  have hm:=Nat.mod_lt (n / 1000000000^i) (show 0<1000000000 by decide)
  have hq1:n / 1000000000^(i+1)≠0:=(GF (b:=1000000000) (by decide)).1 (by omega)
  have hdm:=Nat.mod_add_div (n / 1000000000^i) 1000000000
  rw[←wW] at hdm
  have hch:=K9 (Nat.pos_of_ne_zero hq1) hm
  have hle:n / 1000000000^i≤n:=Nat.div_le_self _ _
  have hdi:=Du (n / 1000000000^i)
  have hbi:=lZ hle
  rw[show n / 1000000000^(i+1)*1000000000+n / 1000000000^i % 1000000000=n / 1000000000^i by omega] at hch
  generalize hAA:n / 1000000000^i=A at *
  generalize n / 1000000000^(i+1)=B at *
  have w4:IntKind.i64.wrap ((i:Int)-1)=(i:Int)-1:=wrap64 (by omega) (by omega)
  have c2:=agO (A % 1000000000+1000000000) (by omega)
  rw[aqR hm] at c2
  have e2:=aCh (d10 1::E9 9 (A % 1000000000)) (by simp)
  rw[List.drop_succ_cons,List.drop_zero] at e2
  have hlen:=congrArg List.length hch
  rw[aKI] at hlen
  have a1:=zD (decDigits B) (E9 9 (A % 1000000000)) (by omega)
  rw[←hch] at a1
  have aEa:i≤L:=by omega
  have hmu:i<i+1:=by omega
  have w3:=aeL hm
  simp only[uJ,g0,g3,g4,hz,e1,w3,w4,c2,e2,a1,VX,Nat.reduceEqDiff,Nat.reduceAdd]
  refine⟨i,hmu,aEa,?_⟩
  rw[hAA]
  exact⟨rfl,rfl⟩
 ·have Xm:j=0:=by omega
  subst Xm
  rw[Nat.pow_zero,Nat.div_one] at g3
  simp only[uJ,g0,g3,g4,hz,VX,Nat.reduceEqDiff,Nat.reduceAdd]
  exact aL rfl
theorem NW (q:Rat) (hk:aK q≤1099511627776):TC 188 [aM q] (VB (Dj q)):=by
 refine TC.walk ⟨true,false⟩ OG rfl (aMl rfl) (by simp[aO,pU]) rfl ?_
 have la:=uM hk
 have lb:=uX hk
 have t1:=qS q.num.natAbs (by omega)
 have t2:=qS q.den (by omega)
 have hf:Dj q=(decide (((decDigits q.num.natAbs).length:Int)≤200)&&decide (((decDigits q.den).length:Int)≤200)):=by
  unfold Dj
  congr 1<;>exact decide_eq_decide.2 (by omega)
 rw[hf]
 by_cases hl:((decDigits q.num.natAbs).length:Int)≤200
 ·simp only[D8,Bx,t1,t2,hl,bP,bT,iH,jS,jN,aR,gH,Nat.reduceLeDiff,Nat.reduceLT,Nat.reduceSub,VX,Nat.reduceEqDiff,Nat.reduceAdd]
  exact aL rfl
 ·simp only[D8,Bx,t1,t2,hl,bP,bT,iH,jS,jN,aR,gH,Nat.reduceLeDiff,Nat.reduceLT,Nat.reduceSub,VX,Nat.reduceEqDiff,Nat.reduceAdd]
  exact aL rfl
theorem N0 (q:Rat) (hk:aK q≤1099511627776):TC 189 [aM q] (bD (OJ q)):=by
 refine TC.walk ⟨true,false⟩ Pj rfl (aMl rfl) (by simp[aO,pU]) rfl ?_
 have la:=uM hk
 have lb:=uX hk
 have t1:=qS q.num.natAbs (by omega)
 have t2:=qS q.den (by omega)
 have d1:=Du q.num.natAbs
 have d2:=Du q.den
 have c1:∀lo H K,_:=fun lo H K=>Nq (n:=q.den) (lo:=lo) (H:=H) (K:=K) (aLe (pK (by omega)))
 have a1:dK .add (.string ⟨#[45]⟩) (.string ⟨(decDigits q.num.natAbs).toArray⟩)=some (.string ⟨(45::decDigits q.num.natAbs).toArray⟩):=zD [45] _ (by simp only[aKH,aMa];omega)
 have a2:dK .add (.string ⟨#[47]⟩) (.string ⟨(decDigits q.den).toArray⟩)=some (.string ⟨(47::decDigits q.den).toArray⟩):=zD [47] (decDigits q.den) (by simp only[aKH,aMa];omega)
 have a3:=zD (45::decDigits q.num.natAbs) (47::decDigits q.den) (by simp only[aKH];omega)
 have a4:=zD (decDigits q.num.natAbs) (47::decDigits q.den) (by simp only[aKH];omega)
 have hs:OJ q=(if q.num<0 then (45::decDigits q.num.natAbs) else decDigits q.num.natAbs)++(if q.den=1 then [] else 47::decDigits q.den):=by
  unfold OJ
  by_cases hn:q.num<0
  ·rw[if_pos hn,if_pos hn];rfl
  ·rw[if_neg hn,if_neg hn];rfl
 rw[hs]
 by_cases hd:gC q.den 1=0
 ·rw[if_pos (AR.1 hd),List.append_nil]
  by_cases hn:q.num<0
  all_goals
   simp only[DP,Bf,t1,t2,a1,a2,a3,a4,c1,hd,hn,eO,bT,iH,jS,jN,aR,gH,Nat.reduceLeDiff,Nat.reduceLT,Nat.reduceSub,VX,Nat.reduceEqDiff,Nat.reduceAdd]
   exact aL rfl
 ·rw[if_neg (mt AR.2 hd)]
  by_cases hn:q.num<0
  all_goals
   simp only[DP,Bf,t1,t2,a1,a2,a3,a4,c1,hd,hn,eO,bT,iH,jS,jN,aR,gH,Nat.reduceLeDiff,Nat.reduceLT,Nat.reduceSub,VX,Nat.reduceEqDiff,Nat.reduceAdd]
   exact aL rfl
theorem Oy (q:Rat) (hk:aK q≤1099511627776):TC 171 [aM q] (Cm q):=by
 refine TC.walk ⟨true,false⟩ P4 rfl (aMl rfl) (by simp[aO,pU]) (Gv q) ?_
 have t1:=NW q hk
 have t2:=N0 q hk
 unfold Cm
 by_cases h:Dj q=true
 ·rw[h] at t1
  rw[if_pos h]
  simp only[Ew,BD,t1,t2,bT,cH,gM,aR,gH,Nat.reduceLeDiff,Nat.reduceLT,Nat.reduceSub,VX,Nat.reduceEqDiff,Nat.reduceAdd]
  exact aL rfl
 ·have h':Dj q=false:=by simpa using h
  rw[h'] at t1
  rw[if_neg h]
  simp only[Ew,BD,t1,bT,cH,gM,aR,gH,Nat.reduceLeDiff,Nat.reduceLT,Nat.reduceSub,VX,Nat.reduceEqDiff,Nat.reduceAdd]
  exact aL rfl
end Go.PM
namespace Go.PM
open Go.Lib
def jD (c:UInt8):List UInt8→List (List UInt8)
 | []=>[[]]
 |
  x::r=>if x=c then []::jD c r else match jD c r with
  | []=>[[x]]
  | a::t=>(x::a)::t
theorem P7 {c:UInt8} {r:List UInt8}:∀ {a:List UInt8},c∉a→jD c (a++c::r)=a::jD c r:=by
 intro a
 induction a with
 | nil=>intro _;rw[aLP,jD,if_pos rfl]
 |
  cons x a ih =>
  intro h
  rw[List.mem_cons,not_or] at h
  rw[aLX,jD,if_neg (fun he=>h.1 he.symm),ih h.2]
theorem IK {c:UInt8}:∀ {a:List UInt8},c∉a→jD c a=[a]:=by
 intro a
 induction a with
 | nil=>intro _;rfl
 |
  cons x a ih =>
  intro h
  rw[List.mem_cons,not_or] at h
  rw[jD,if_neg (fun he=>h.1 he.symm),ih h.2]
theorem Xp {c:UInt8} (l:List UInt8):jD c l≠[]:=by
 cases l with
 | nil=>simp[jD]
 |
  cons x r =>
  rw[jD]
  split
  ·simp
  ·split<;>simp
theorem Wg {c:UInt8} {l:List UInt8} (h:(oH c l).2=none):jD c l=[l]:=IK (CU h).2.2
theorem Mg {c:UInt8} {l r:List UInt8} (h:(oH c l).2=some r):jD c l=(oH c l).1::jD c r:=by
 obtain⟨_,h2,h3⟩:=Kz h
 have:=P7 (r:=r) h3
 rw[←h2] at this
 exact this
theorem Ud {c:UInt8} {l:List UInt8} (h:c∈l):2≤(jD c l).length:=by
 cases hc:(oH c l).2 with
 | none=>exact absurd h (CU hc).2.2
 |
  some r =>
  rw[Mg hc,aKH]
  have:=aNv.2 (Xp (c:=c) r)
  omega
theorem acV {l:List UInt8} {i:Nat} (h:i<l.length):(l.take (i+1)).all jR=((l.take i).all jR&&jR (l.getD i 0)):=by
 rw[aMn,List.all_append]
 have:l[i]? = some (l.getD i 0):=by rw[aKE h,aKu,aKE h];rfl
 rw[this]
 simp
set_option maxHeartbeats 1000000 in
theorem sX (l:List UInt8) (hl:l.length≤1000000000000):TC 168 [bD l] (VB (jI l)):=by
 refine TC.walk ⟨true,false⟩ Lw rfl (aMl rfl) rfl rfl ?_
 simp only[Gg,Dr,VX,Nat.reduceEqDiff,Nat.reduceAdd]
 refine aP (fun(i:Nat) ρ H=>i≤l.length∧H=[]∧(l.take i).all jR=true∧ρ 0=bD l∧ρ 3=VI i) (fun i=>l.length-i) 0 ⟨aK1 _,rfl,rfl,rfl,rfl⟩ ?_
 rintro i ρ H ⟨hi,rfl,hd,g0,g3⟩
 by_cases bW:(i:Int)<(l.length:Int)
 ·have YV:i<l.length:=by omega
  have e1:=Gd l YV
  have wi:IntKind.i64.wrap ((i:Int)+1)=((i+1:Nat):Int):=wrapN (i+1) (by omega) (by omega)
  have ht:=acV YV
  rw[hd,aN9] at ht
  have Xe:jR (l.getD i 0)=(decide (48≤(l.getD i 0).toNat)&&decide ((l.getD i 0).toNat≤57)):=rfl
  have jW:jR (l.getD i 0)=false→jI l=false:=by
   intro h
   rw[h] at ht
   have:l.all jR=false:=by rw[←aLG (i+1) l,List.all_append,ht,Bool.false_and]
   unfold jI
   rw[this]
   rfl
  generalize (l.getD i 0).toNat=c at *
  by_cases q1:(c:Int)<48
  ·rw[jW (by rw[Xe,decide_eq_false (by omega)];rfl)]
   simp only[eI,g0,g3,bP,bW,e1,q1,VX,Nat.reduceEqDiff,Nat.reduceAdd]
   exact aL rfl
  ·by_cases q2:(57:Int)<(c:Int)
   ·rw[jW (by rw[Xe,decide_eq_false (show ¬c≤57 by omega),Bool.and_false])]
    simp only[eI,g0,g3,bP,bW,e1,q1,q2,VX,Nat.reduceEqDiff,Nat.reduceAdd]
    exact aL rfl
   ·rw[Xe,decide_eq_true (by omega),decide_eq_true (by omega),aLV] at ht
    simp only[eI,g0,g3,bP,bW,e1,q1,q2,wi,VX,Nat.reduceEqDiff,Nat.reduceAdd]
    exact⟨i+1,by omega,by omega,ht,rfl⟩
 ·have mI:i=l.length:=by omega
  subst mI
  rw[aLK] at hd
  by_cases h1:(1:Int)≤(l.length:Int)
  ·by_cases h2:(l.length:Int)≤200
   ·by_cases h3:(l.length:Int)=1
    ·rw[lH.2 ⟨hd,by omega,by omega,.inl (by omega)⟩]
     simp only[eI,g0,g3,bP,bW,ge_iff_le,h1,h2,h3,Int.reduceLE,Int.reduceLT,VX,Nat.reduceEqDiff,Nat.reduceAdd]
     exact aL rfl
    ·have e1:=KX l (by omega)
     by_cases h4:(((l.getD 0 0).toNat:Int)=48)
     ·have hk:jI l=false:=by
       cases h:jI l with
       | false=>rfl
       |
        true =>
        rcases(lH.1 h).2.2.2 with h5 | h5
        ·omega
        ·exact absurd (UInt8.toNat_inj.1 (by rw[show (48:UInt8).toNat=48 from rfl];omega)) h5
      rw[hk]
      simp only[eI,g0,g3,bP,bW,ge_iff_le,h1,h2,h3,h4,e1,VX,Nat.reduceEqDiff,Nat.reduceAdd]
      exact aL rfl
     ·have h5:l.getD 0 0≠48:=fun h=>h4 (by rw[h];rfl)
      rw[lH.2 ⟨hd,by omega,by omega,.inr h5⟩]
      simp only[eI,g0,g3,bP,bW,ge_iff_le,h1,h2,h3,h4,e1,VX,Nat.reduceEqDiff,Nat.reduceAdd]
      exact aL rfl
   ·have hk:jI l=false:=by
     cases h:jI l with
     | false=>rfl
     | true=>have:=(lH.1 h).2.2.1;omega
    rw[hk]
    simp only[eI,g0,g3,bP,bW,ge_iff_le,h1,h2,VX,Nat.reduceEqDiff,Nat.reduceAdd]
    exact aL rfl
  ·have hk:jI l=false:=by
    cases h:jI l with
    | false=>rfl
    | true=>have:=(lH.1 h).2.1;omega
   rw[hk]
   simp only[eI,g0,g3,bP,bW,ge_iff_le,h1,VX,Nat.reduceEqDiff,Nat.reduceAdd]
   exact aL rfl
set_option maxHeartbeats 1000000 in
theorem HR (l:List UInt8) (c:UInt8) (hl:l.length≤1000000000000):TC 167 [bD l,.sc (.int .u8 (c.toNat:Int))] (aC bD (jD c l)):=by
 refine TC.walk ⟨true,false⟩ QA rfl (aMl rfl) rfl (zL (size:=1) (fun _=>rfl) (fun _=>rfl) fun _=>rfl) ?_
 have e3:∀lr,mR lr [.string ⟨#[]⟩] 0 [] []=some (.ref 0 0 0 0 0,[.row 0 (([]:List (List UInt8)).map bD) 1 true]):=fun lr=>mT (H:=[]) (lr:=lr) (z:=[.string ⟨#[]⟩]) rfl
 have e4:∀(x:List UInt8) (H:aA),mR false [.string ⟨#[]⟩] 1 [(0,bD x)] H=some (.tree [bD x] (.cl 1),H):=fun x H=>iX (z:=[.string ⟨#[]⟩]) rfl rfl rfl
 have e5:∀(x:List UInt8) (H:aA),cW 1 (.tree [bD x] (.cl 1)) H=some [bD x]:=fun x H=>eV rfl rfl
 simp only[Mv,Hq,e3,VX,Nat.reduceEqDiff,Nat.reduceAdd]
 refine aP (fun(s:List (List UInt8)×Nat×Nat) ρ H=>H=[.row s.1.length (s.1.map bD) 1 true]∧s.2.1≤s.2.2∧s.2.2≤l.length+1∧s.1.length≤s.2.1 ∧
  ((s.2.2≤l.length∧jD c l=s.1++jD c (l.drop s.2.1)∧c∉(l.drop s.2.1).take (s.2.2-s.2.1))∨(s.2.2=l.length+1∧jD c l=s.1)) ∧
  ρ 0=bD l∧ρ 1 = .sc (.int .u8 (c.toNat:Int))∧ρ 5 = .ref 0 s.1.length 0 s.1.length s.1.length∧ρ 6=VI s.2.1∧ρ 7=VI s.2.2) (fun s=>l.length+1-s.2.2) ([],0,0) ⟨rfl,aK1 _,aK1 _,aK1 _,.inl ⟨aK1 _,rfl,by simp⟩,rfl,rfl,rfl,rfl,rfl⟩ ?_
 rintro⟨out,fr,i⟩ ρ H ⟨rfl,hfi,hi,hJ,vZ,g0,g1,g5,g6,g7⟩
 simp only at hfi hi hJ vZ g5 g6 g7
 by_cases bW:(i:Int)≤(l.length:Int)
 ·have YV:i≤l.length:=by omega
  obtain⟨hp,hc⟩:jD c l=out++jD c (l.drop fr)∧c∉(l.drop fr).take (i-fr):=by
   rcases vZ with⟨_,h1,h2⟩ | ⟨h,_⟩
   ·exact⟨h1,h2⟩
   ·omega
  have wi:IntKind.i64.wrap ((i:Int)+1)=((i+1:Nat):Int):=wrapN (i+1) (by omega) (by omega)
  have e2:=alN l hfi YV
  have eP:=jQ (f:=bD) (xs:=out) (x:=(l.drop fr).take (i-fr)) (lo:=0) (b:=0) (g:=out.length) (n:=out.length) (e:=1) (bytes:=16) (H:=[.row out.length (out.map bD) 1 true]) aT rfl (aK1 _) (by decide) (by decide) (by omega)
  have Kj:([.row out.length (out.map bD) 1 true]:aA).set 0 (.row (out.length+1) ((out++[(l.drop fr).take (i-fr)]).map bD) 1 true)=[.row (out.length+1) ((out++[(l.drop fr).take (i-fr)]).map bD) 1 true]:=rfl
  rw[Kj] at eP
  by_cases q1:i=l.length
  ·subst q1
   have ajV:jD c l=out++[(l.drop fr).take (l.length-fr)]:=by
    rw[hp]
    have:(l.drop fr).take (l.length-fr)=l.drop fr:=aLq (by rw[aMY];omega)
    rw[this] at hc ⊢
    rw[IK hc]
   simp only[rI,g0,g1,g5,g6,g7,bP,bW,eq_self,e2,e4,e5,eP,wi,VX,Nat.reduceEqDiff,Nat.reduceAdd]
   refine⟨(out++[(l.drop fr).take (l.length-fr)],l.length+1,l.length+1),by simp only;omega,?_,by simp only;omega,by simp only;omega,?_,.inr ⟨rfl,ajV⟩,?_⟩
   ·simp
   ·simp only[aKI,aKH,aMa];omega
   ·simp
  ·have aqL:i<l.length:=by omega
   have q1':¬(i:Int)=(l.length:Int):=by omega
   have e1:=Gd l aqL
   have hgd:l.drop i=l.getD i 0::l.drop (i+1):=by rw[List.drop_eq_getElem_cons aqL,aKu,aKE aqL];rfl
   by_cases q2:l.getD i 0=c
   ·have q2':((l.getD i 0).toNat:Int)=(c.toNat:Int):=by rw[q2]
    have ajV:jD c l=(out++[(l.drop fr).take (i-fr)])++jD c (l.drop (i+1)):=by
     have Wt:l.drop fr=(l.drop fr).take (i-fr)++c::l.drop (i+1):=by
      have h1:(l.drop fr).drop (i-fr)=l.drop i:=by rw[List.drop_drop];congr 1;omega
      conv=>lhs;rw[←aLG (i-fr) (l.drop fr),h1,hgd,q2]
     rw[hp]
     conv=>lhs;rw[Wt]
     rw[P7 hc,aMj]
     rfl
    simp only[rI,g0,g1,g5,g6,g7,bP,bW,q1',e1,q2',eq_self,e2,e4,e5,eP,wi,VX,Nat.reduceEqDiff,Nat.reduceAdd]
    refine⟨(out++[(l.drop fr).take (i-fr)],i+1,i+1),by simp only;omega,?_,by simp only;omega,by simp only;omega,?_,.inl ⟨by simp only;omega,ajV,by simp⟩,?_⟩
    ·simp
    ·simp only[aKI,aKH,aMa];omega
    ·simp
   ·have q2':¬((l.getD i 0).toNat:Int)=(c.toNat:Int):=fun h=>q2 (UInt8.toNat_inj.1 (by omega))
    simp only[rI,g0,g1,g5,g6,g7,bP,bW,q1',e1,q2',wi,VX,Nat.reduceEqDiff,Nat.reduceAdd]
    refine⟨(out,fr,i+1),by simp only;omega,rfl,by simp only;omega,by simp only;omega,hJ,.inl ⟨by simp only;omega,hp,?_⟩,rfl,rfl,rfl⟩
    simp only
    rw[show i+1-fr=(i-fr)+1 by omega,aMn,aLt,not_or]
    refine⟨hc,?_⟩
    have:(l.drop fr)[i-fr]? = some (l.getD i 0):=by
     rw[List.getElem?_drop,show fr+(i-fr)=i by omega,aKu,aKE aqL]
     rfl
    rw[this]
    simp
    exact fun h=>q2 h.symm
 ·have ajV:jD c l=out:=by
   rcases vZ with⟨h,_⟩ | ⟨_,h⟩
   ·omega
   ·exact h
  rw[ajV]
  simp only[rI,g0,g5,g7,bP,bW,VX,Nat.reduceEqDiff,Nat.reduceAdd]
  exact IE (es:=out.map bD) aT (by simp) (aKx _) (fO fun _=>rfl)
theorem agT {l:List UInt8} (h:l.all jR=true) {i:Nat} (hi:i<l.length):48≤(l.getD i 0).toNat∧(l.getD i 0).toNat≤57:=by
 have:=aKL.1 h (l.getD i 0) (by rw[aKu,aKE hi];exact List.getElem_mem hi)
 simpa[jR] using this
theorem OE {l:List UInt8} (hd:l.all jR=true) (hl:l.length≤1000000000000) {fr tq:Nat} (hft:fr≤tq) (h9:tq-fr≤9) (htl:tq≤l.length) {H:aA} {lo:Nat} {ρ:cV} {Q:VQ} (h0:ρ 0=bD l) (h4:ρ 4=VI tq) (h6:ρ 6=VI 0) (h7:ρ 7=VI fr)
  (hQ:∀aQ,(∀t,t<6→aQ t=ρ t)→aQ 6=VI (bZ ((l.drop fr).take (tq-fr)))→Q .normal aQ H):VW ⟨true,false⟩ lo (.loop oZ) (tI 2 Q) ρ H:=by
 refine aP (fun(i:Nat) aQ H'=>fr≤i∧i≤tq∧H'=H∧(∀t,t<6→aQ t=ρ t)∧aQ 6=VI (bZ ((l.drop fr).take (i-fr)))∧aQ 7=VI i) (fun i=>tq-i) fr ⟨aKx _,hft,rfl,fun _ _=>rfl,by rw[h6,Nat.sub_self];rfl,h7⟩ ?_
 rintro i aQ H' ⟨hfi,hi,rfl,hk,g6,g7⟩
 have g0:=(hk 0 (by decide)).trans h0
 have g4:=(hk 4 (by decide)).trans h4
 by_cases bW:(i:Int)<(tq:Int)
 ·have YV:i<l.length:=by omega
  have e1:=Gd l YV
  obtain⟨c1,c2⟩:=agT hd YV
  have wi:IntKind.i64.wrap ((i:Int)+1)=((i+1:Nat):Int):=wrapN (i+1) (by omega) (by omega)
  have hcd:((l.drop fr).take (i-fr)).all jR=true:=by
   rw[aKL] at hd ⊢
   exact fun x hx=>hd x (aLv (aLu hx))
  have bH:=Kg hcd
  rw[aL6,aMY,Nat.min_eq_left (by omega)] at bH
  have hp9:10^(i-fr)≤10^8:=aMA (by decide) (by omega)
  have e8:(10:Nat)^8=100000000:=by decide
  have pT:bZ ((l.drop fr).take (i+1-fr))=bZ ((l.drop fr).take (i-fr))*10+dv (l.getD i 0):=by
   have:(l.drop fr)[i-fr]? = some (l.getD i 0):=by
    rw[List.getElem?_drop,show fr+(i-fr)=i by omega,aKu,aKE YV]
    rfl
   rw[show i+1-fr=(i-fr)+1 by omega,aMn,this]
   exact aeW _ _
  have hdv:dv (l.getD i 0)=(l.getD i 0).toNat-48:=rfl
  rw[hdv] at pT
  generalize (l.getD i 0).toNat=c at *
  generalize bZ ((l.drop fr).take (i-fr))=D at *
  have w1:IntKind.i64.wrap (10*(D:Int))=((10*D:Nat):Int):=wrapN _ (by omega) (by omega)
  have w2:IntKind.u8.wrap ((c:Int)-48)=((c-48:Nat):Int):=by
   simp[IntKind.wrap,IntKind.bits,IntKind.signed]
   omega
  have w3:IntKind.i64.wrap ((c-48:Nat):Int)=((c-48:Nat):Int):=wrapN _ rfl (by omega)
  have w4:IntKind.i64.wrap (((10*D:Nat):Int)+((c-48:Nat):Int))=((D*10+(c-48):Nat):Int):=wrapN _ (by omega) (by omega)
  simp only[oZ,g0,g4,g6,g7,bW,e1,w1,w2,w3,w4,wi,VX,Nat.reduceEqDiff,Nat.reduceAdd]
  refine⟨i+1,by omega,by omega,by omega,fun t ht => ?_,by rw[pT],rfl⟩
  try simp only[zX]
  repeat rw[if_neg (by omega)]
  exact hk t ht
 ·have mI:i=tq:=by omega
  subst mI
  simp only[oZ,g4,g7,bW,VX,Nat.reduceEqDiff,Nat.reduceAdd]
  refine hQ _ (fun t ht => ?_) ?_
  ·try simp only[zX]
   repeat rw[if_neg (by omega)]
   exact hk t ht
  ·simp only[g6,VX,Nat.reduceEqDiff,Nat.reduceAdd]
set_option maxHeartbeats 1000000 in
theorem vP (l:List UInt8) (hd:l.all jR=true) (hl:l.length≤1000000000):TC 169 [bD l] (cA (bZ l)):=by
 refine TC.walk ⟨true,false⟩ Jq rfl (aMl rfl) rfl (pR _) ?_
 have e3:∀lr,mR lr [.int .i64 0] 0 [] []=some (.ref 0 0 0 0 0,[.row 0 (([]:List Nat).map tV) 1 true]):=fun lr=>mT (H:=[]) (lr:=lr) (z:=[.int .i64 0]) rfl
 have e4:∀(x:Nat) (H:aA),mR false [.int .i64 0] 1 [(0,tV x)] H=some (.tree [tV x] (.cl 1),H):=fun x H=>iX (z:=[.int .i64 0]) rfl rfl rfl
 have e5:∀(x:Nat) (H:aA),cW 1 (.tree [tV x] (.cl 1)) H=some [tV x]:=fun x H=>eV rfl rfl
 simp only[E0,Cl,e3,bP,VX,Nat.reduceEqDiff,Nat.reduceAdd]
 refine aP (fun(s:List Nat×Int) ρ H=>H=[.row s.1.length (s.1.map tV) 1 true]∧s.2≤l.length ∧ -9≤s.2∧s.1.length+s.2.toNat≤l.length∧(∀d∈s.1,d<1000000000)∧bZ l=val 1000000000 s.1+1000000000^s.1.length*bZ (l.take s.2.toNat) ∧
  ρ 0=bD l∧ρ 3 = .ref 0 s.1.length 0 s.1.length s.1.length∧ρ 4=VI s.2) (fun s=>s.2.toNat) ([],(l.length:Int)) ⟨rfl,Int.le_refl _,by simp only;omega,by simp,by simp,?_,rfl,rfl,rfl⟩ ?_
 ·simp only[aLT,aLK,aMa,Nat.pow_zero,Nat.one_mul,val,aL5]
 rintro⟨out,z⟩ ρ H ⟨rfl,hz,hz9,hJ,hds,hv,g0,g3,g4⟩
 simp only at hz hz9 hJ hds hv g3 g4
 by_cases kZ:0<z
 ·obtain⟨tq,rfl⟩:∃tq:Nat,z=tq:=⟨z.toNat,by omega⟩
  rw[aLT] at hJ hv
  have hto:0<tq:=by omega
  have key:∀fr:Nat,fr≤tq→tq-fr≤9→bZ (l.take tq)=bZ (l.take fr)*10^(tq-fr)+bZ ((l.drop fr).take (tq-fr))∧bZ ((l.drop fr).take (tq-fr))<1000000000:=by
   intro fr h1 h2
   have hcd:((l.drop fr).take (tq-fr)).all jR=true:=by
    rw[aKL] at hd ⊢
    exact fun x hx=>hd x (aLv (aLu hx))
   have hlen:((l.drop fr).take (tq-fr)).length=tq-fr:=by rw[aL6,aMY];omega
   constructor
   ·have:=List.take_add (l:=l) (i:=fr) (j:=tq-fr)
    rw[show fr+(tq-fr)=tq by omega] at this
    rw[this,O0,hlen]
   ·have:=Kg hcd
    rw[hlen] at this
    exact Nat.lt_of_lt_of_le this (Nat.le_trans (aMA (by decide) h2) (by decide))
  have eP:=fun X=>jQ (f:=tV) (xs:=out) (x:=X) (lo:=0) (b:=0) (g:=out.length) (n:=out.length) (e:=1) (bytes:=8) (H:=[.row out.length (out.map tV) 1 true]) aT rfl (aK1 _) (by decide) (by decide) (by omega)
  have Kj:∀X,([.row out.length (out.map tV) 1 true]:aA).set 0 (.row (out.length+1) ((out++[X]).map tV) 1 true)=[.row (out.length+1) ((out++[X]).map tV) 1 true]:=fun _=>rfl
  simp only[Kj] at eP
  by_cases h9:(9:Int)<(tq:Int)
  ·obtain⟨k1,k2⟩:=key (tq-9) (by omega) (by omega)
   have wz:IntKind.i64.wrap ((tq:Int)-9)=((tq-9:Nat):Int):=wrapN _ (by omega) (by omega)
   rw[show tq-(tq-9)=9 by omega] at k1 k2
   rw[show (10:Nat)^9=1000000000 by decide] at k1
   simp only[oO,g0,g3,g4,kZ,h9,wz,VX,Nat.reduceEqDiff,Nat.reduceAdd]
   refine OE (l:=l) hd (by omega) (fr:=tq-9) (tq:=tq) (by omega) (by omega) (by omega) ?_ ?_ ?_ ?_ fun AN q q6 => ?_
   all_goals first | (simp only[g0,g4,VX,Nat.reduceEqDiff,Nat.reduceAdd];done) | skip
   rw[show tq-(tq-9)=9 by omega] at q6
   have u3:AN 3 = .ref 0 out.length 0 out.length out.length:=by rw[q 3 (by decide)];simp only[g3,VX,Nat.reduceEqDiff,Nat.reduceAdd]
   have u0:AN 0=bD l:=by rw[q 0 (by decide)];simp only[g0,VX,Nat.reduceEqDiff,Nat.reduceAdd]
   have u4:AN 4=VI tq:=by rw[q 4 (by decide)];simp only[g4,VX,Nat.reduceEqDiff,Nat.reduceAdd]
   generalize bZ ((l.drop (tq-9)).take 9)=X at *
   have e4:=e4 X
   have e5:=e5 X
   have eP:=eP X
   simp only[u0,u3,u4,q6,e4,e5,eP,wz,VX,Nat.reduceEqDiff,Nat.reduceAdd]
   refine⟨(out++[X],((tq-9:Nat):Int)),by simp only;omega,?_,by simp only;omega,by simp only;omega,?_,?_,?_,?_⟩
   ·simp
   ·simp only[aKI,aKH,aMa];omega
   ·intro d hdm
    rcases aLt.1 hdm with h | h
    ·exact hds d h
    ·rw[aLD] at h;omega
   ·simp only[aLT]
    rw[hv,k1,vY,aKI,List.length_singleton,Nat.pow_succ]
    grind
   ·simp
  ·obtain⟨k1,k2⟩:=key 0 (by omega) (by omega)
   rw[aNM,PB,Nat.zero_mul,aL5,aOa] at k1
   rw[aOa] at k2
   have wz:IntKind.i64.wrap ((tq:Int)-9)=(tq:Int)-9:=wrap64 (by omega) (by omega)
   simp only[oO,g0,g3,g4,kZ,h9,VX,Nat.reduceEqDiff,Nat.reduceAdd]
   refine OE (l:=l) hd (by omega) (fr:=0) (tq:=tq) (by omega) (by omega) (by omega) ?_ ?_ ?_ ?_ fun AN q q6 => ?_
   all_goals first | (simp only[g0,g4,VX,Nat.reduceEqDiff,Nat.reduceAdd];done) | (simp only[VX,Nat.reduceEqDiff,Nat.reduceAdd];rfl) | skip
   rw[aOa] at q6
   have u3:AN 3 = .ref 0 out.length 0 out.length out.length:=by rw[q 3 (by decide)];simp only[g3,VX,Nat.reduceEqDiff,Nat.reduceAdd]
   have u0:AN 0=bD l:=by rw[q 0 (by decide)];simp only[g0,VX,Nat.reduceEqDiff,Nat.reduceAdd]
   have u4:AN 4=VI tq:=by rw[q 4 (by decide)];simp only[g4,VX,Nat.reduceEqDiff,Nat.reduceAdd]
   generalize bZ ((l.drop 0).take tq)=X at *
   have e4:=e4 X
   have e5:=e5 X
   have eP:=eP X
   simp only[u0,u3,u4,q6,e4,e5,eP,wz,VX,Nat.reduceEqDiff,Nat.reduceAdd]
   refine⟨(out++[X],(tq:Int)-9),by simp only;omega,?_,by simp only;omega,by simp only;omega,?_,?_,?_,?_⟩
   ·simp
   ·simp only[aKI,aKH,aMa];omega
   ·intro d hdm
    rcases aLt.1 hdm with h | h
    ·exact hds d h
    ·rw[aLD] at h;omega
   ·simp only
    rw[show ((tq:Int)-9).toNat=0 by omega,aNM,PB,Nat.mul_zero,Nat.add_zero,hv,k1,vY]
   ·simp
 ·have h0:z.toNat=0:=by omega
  rw[h0,aNM,PB,Nat.mul_zero,Nat.add_zero] at hv
  rw[hv]
  have ct:=TC.arU (f:=tV) (xs:=out) (size:=1) (e:=1) (w:=true) (H:=[.row out.length (out.map tV) 1 true]) (b:=0) (gn:=out.length) (n:=out.length) (c:=out.length) (wH out hds (by show out.length≤70368744177664;omega)) aT rfl (aKx _) Iv (fun _=>rfl) rfl rfl
  simp only[oO,g0,g3,g4,kZ,ct,VX,Nat.reduceEqDiff,Nat.reduceAdd]
  exact aL (cK _)
end Go.PM
namespace Go.PM
open Go.Lib
def Ft (l:List UInt8):VV:=match BI l with
 | some q => .eG [aM q,VB true]
 | none => .eG [Px,VB false]
theorem BB (q:Rat):aY (aM q)=true:=by simp[aM,aY,aO,cK,qC]
theorem Re (q:Rat):gZ (aM q)=true:=by simp[aM,gZ,sK,pR,qC]
theorem Yu (l:List UInt8):gZ (Ft l)=true:=by
 unfold Ft
 split<;>simp[gZ,sK,Re,UJ,qC]
theorem Pm {neg:Bool} {t b:Nat} (hb:b≠0) (hg:aNf t b=1) (hn:¬(neg=true∧t=0)):aM (mkRat (mG neg t) b) = .agg [VB neg,cA t,cA b]:=by
 obtain⟨e1,e2⟩:=Me (neg:=neg) hb hg
 refine Nz ?_ (by rw[e1,qV]) e2
 rw[e1]
 cases neg with
 | false=>unfold mG;simp
 |
  true =>
  have:t≠0:=fun h=>hn ⟨rfl,h⟩
  unfold mG
  simp
  omega
theorem Gx {n:Nat}:(((aD 1000000000 n).length:Nat):Int)=0↔n=0:=by
 rw[←nR (b:=1000000000) (n:=n) (by decide),←aMF]
 omega
theorem Vf {neg:Bool} {d t:List UInt8} (h:(47:UInt8)∈t):rS neg d (some t)=none:=by
 have ht:jI t=false:=by
  cases hk:jI t with
  | false=>rfl
  | true=>exact absurd h (akC (lH.1 hk).1)
 unfold rS
 split
 ·rfl
 ·simp only
  rw[if_neg (fun h=>by rw[ht] at h;exact absurd h.1 (by decide))]
theorem at_one (x:List UInt8) (H:aA):bJ 1 (aC bD [x]) (VI 0) H=some (.cI (bD x) 0):=aH (f:=bD) (t := .op) (H:=H) (size:=1) (k := .i64) (xs:=[x]) (i:=0) rfl rfl
theorem apL (x y:List UInt8) (H:aA):bJ 1 (aC bD [x,y]) (VI 0) H=some (.cI (bD x) 0):=aH (f:=bD) (t := .op) (H:=H) (size:=1) (k := .i64) (xs:=[x,y]) (i:=0) rfl rfl
theorem asF (x y:List UInt8) (H:aA):bJ 1 (aC bD [x,y]) (VI 1) H=some (.cI (bD y) 0):=aH (f:=bD) (t := .op) (H:=H) (size:=1) (k := .i64) (xs:=[x,y]) (i:=1) rfl rfl
theorem aaN (x:List UInt8) (H:aA):rW (aC bD [x]) H=some (VI 1):=eQ (f:=bD) (xs:=[x])
theorem atG (x y:List UInt8) (H:aA):rW (aC bD [x,y]) H=some (VI 2):=eQ (f:=bD) (xs:=[x,y])
set_option maxRecDepth 100000 in
set_option maxHeartbeats 4000000 in
theorem Nf (l:List UInt8) (hl:l.length≤1000000000):TC 110 [bD l] (Ft l):=by
 refine TC.walk ⟨true,false⟩ Nh rfl (aMl rfl) rfl (Yu l) ?_
 by_cases Co:l=[]
 ·subst Co
  have eC:TC 167 [.sc (.string ⟨#[]⟩),.sc (.int .u8 47)] (aC bD [[]]):=HR [] 47 (by simp)
  have eD:TC 168 [.sc (.string ⟨#[]⟩)] (VB false):=sX [] (by simp)
  have e1:Dl (.string ⟨#[]⟩)=some (.int .i64 0):=rfl
  have a1:=at_one []
  have a2:=aaN []
  simp only[cE,bM,e1,eC,eD,a1,a2,Int.reduceLT,Int.reduceLE,aJ,gH,Nat.reduceLeDiff,Nat.reduceLT,Nat.reduceSub,VX,Nat.reduceEqDiff,Nat.reduceAdd]
  exact bN (d:=6) iK (aN (v:=VB false) rfl)
 have hp:0<l.length:=aNv.2 Co
 have kZ:(0:Int)<(l.length:Int):=by omega
 have e0:=KX l hp
 unfold Ft
 unfold BI
 have mE:isNeg l=decide (((l.getD 0 0).toNat:Int)=45):=by
  unfold isNeg
  rw[decide_eq_true (show 1≤l.length from hp),aN9]
  refine decide_eq_decide.2 ⟨fun h=>by rw[h];rfl,fun h=>UInt8.toNat_inj.1 (by rw[show (45:UInt8).toNat=45 from rfl];omega)⟩
 have W8:(if isNeg l=true then l.drop 1 else l).length≤l.length:=by split<;>simp
 have q0:isNeg l=false→¬((l.getD 0 0).toNat:Int)=45:=fun h=>by rw[mE] at h;exact of_decide_eq_false h
 have q9:isNeg l=true→((l.getD 0 0).toNat:Int)=45:=fun h=>by rw[mE] at h;exact of_decide_eq_true h
 have r0:isNeg l=false→(if isNeg l=true then l.drop 1 else l)=l:=fun h=>by rw[h];rfl
 have r9:isNeg l=true→zI (bD l) (some (VI 1)) none=some (bD (if isNeg l=true then l.drop 1 else l)):=fun h=>by rw[h];exact QK l (a:=1) hp
 generalize (if isNeg l=true then l.drop 1 else l)=r at *
 generalize isNeg l=neg at *
 clear mE
 have eC:TC 167 [bD r,.sc (.int .u8 47)] (aC bD (jD 47 r)):=HR r 47 (by omega)
 obtain⟨l1,l2⟩:=Wl (c:=47) (l:=r)
 cases hs:(oH 47 r).2 with
 |
  none =>
  have hd:=(CU hs).2.1
  rw[Wg hs] at eC
  rw[hd]
  have a1:=at_one r
  have a2:=aaN r
  have eD:=sX r (by omega)
  cases hk:jI r with
  |
   false =>
   rw[hk] at eD
   have hpa:rS neg r none=none:=if_pos (.inl hk)
   rw[hpa]
   cases neg with
   |
    false =>
    have q1:=q0 rfl
    have W8:=r0 rfl
    subst W8
    simp only[cE,bM,bP,kZ,e0,q1,eC,eD,a1,a2,Int.reduceLT,aJ,bC,aR,aW,eO,gV,eK,gT,gH,Nat.reduceLeDiff,Nat.reduceLT,Nat.reduceSub,VX,Nat.reduceEqDiff,Nat.reduceAdd]
    exact bN (d:=6) iK (aN (v:=VB false) rfl)
   |
    true =>
    have q1:=q9 rfl
    have e9:=r9 rfl
    simp only[cE,bM,bP,kZ,e0,q1,eC,eD,a1,a2,Int.reduceLT,e9,aJ,bC,aR,aW,eO,gV,eK,gT,gH,Nat.reduceLeDiff,Nat.reduceLT,Nat.reduceSub,VX,Nat.reduceEqDiff,Nat.reduceAdd]
    exact bN (d:=6) iK (aN (v:=VB false) rfl)
  |
   true =>
   rw[hk] at eD
   have hbt:=BU hk
   have eN:=vP r (lH.1 hk).1 (by omega)
   by_cases hz:neg=true∧bZ r=0
   ·have hpa:rS neg r none=none:=if_pos (.inr hz)
    rw[hpa]
    obtain⟨rfl,KM⟩:=hz
    have q1:=q9 rfl
    have e9:=r9 rfl
    have Km:(((aD 1000000000 (bZ r)).length:Nat):Int)=0:=Gx.2 KM
    simp only[cE,bM,bP,kZ,e0,q1,eC,eD,a1,a2,eN,e9,cN,Km,Int.reduceLT,aJ,bC,aR,aW,eO,gV,eK,gT,gH,Nat.reduceLeDiff,Nat.reduceLT,Nat.reduceSub,VX,Nat.reduceEqDiff,Nat.reduceAdd]
    exact bN (d:=6) iK (aN (v:=VB false) rfl)
   ·have Cy:neg=true→¬(((aD 1000000000 (bZ r)).length:Nat):Int)=0:=fun h h0=>hz ⟨h,Gx.1 h0⟩
    have hpa:rS neg r none=some (mkRat (mG neg (bZ r)) 1):=if_neg (by rw[hk];rintro(h | h);exact absurd h (by decide);exact hz h)
    rw[hpa]
    simp only[]
    rw[Pm (by decide) (Nat.gcd_one_right _) hz]
    cases neg with
    |
     false =>
     have q1:=q0 rfl
     have W8:=r0 rfl
     subst W8
     simp only[cE,bM,bP,kZ,e0,q1,eC,eD,a1,a2,eN,Int.reduceLT,Int.reduceEq,aJ,bC,aR,aW,eO,gV,eK,gT,gH,Nat.reduceLeDiff,Nat.reduceLT,Nat.reduceSub,VX,Nat.reduceEqDiff,Nat.reduceAdd]
     exact bN (d:=6) (tZ (aN (v:=VB false) rfl) (aN (cK _)) TG) (aN (v:=VB true) rfl)
    |
     true =>
     have q1:=q9 rfl
     have e9:=r9 rfl
     have Km:=Cy rfl
     simp only[cE,bM,bP,kZ,e0,q1,eC,eD,a1,a2,eN,Int.reduceLT,Int.reduceEq,e9,cN,Km,aJ,bC,aR,aW,eO,gV,eK,gT,gH,Nat.reduceLeDiff,Nat.reduceLT,Nat.reduceSub,VX,Nat.reduceEqDiff,Nat.reduceAdd]
     exact bN (d:=6) (tZ (aN (v:=VB true) rfl) (aN (cK _)) TG) (aN (v:=VB true) rfl)
 |
  some t =>
  have ltt:=l2 t hs
  rw[Mg hs] at eC
  generalize (oH 47 r).1=d at *
  by_cases hm:(47:UInt8)∈t
  ·rw[Vf hm]
   have hP:=Ud hm
   generalize hPP:jD 47 t=P at *
   have a2:∀H,rW (aC bD (d::P)) H=some (VI ((d::P).length:Int)):=fun H=>eQ (f:=bD) (xs:=d::P)
   have hq3:(2:Int)<((d::P).length:Int):=by rw[aKH];omega
   generalize hQQ:d::P=PP at *
   clear hQQ hPP hP
   cases neg with
   |
    false =>
    have q1:=q0 rfl
    have W8:=r0 rfl
    subst W8
    simp only[cE,bM,bP,kZ,e0,q1,eC,a2,hq3,aJ,bC,aR,aW,eO,gV,eK,gT,gH,Nat.reduceLeDiff,Nat.reduceLT,Nat.reduceSub,VX,Nat.reduceEqDiff,Nat.reduceAdd]
    exact bN (d:=6) iK (aN (v:=VB false) rfl)
   |
    true =>
    have q1:=q9 rfl
    have e9:=r9 rfl
    simp only[cE,bM,bP,kZ,e0,q1,eC,a2,hq3,e9,aJ,bC,aR,aW,eO,gV,eK,gT,gH,Nat.reduceLeDiff,Nat.reduceLT,Nat.reduceSub,VX,Nat.reduceEqDiff,Nat.reduceAdd]
    exact bN (d:=6) iK (aN (v:=VB false) rfl)
  ·rw[IK hm] at eC
   have a1:=apL d t
   have a3:=asF d t
   have a2:=atG d t
   have eD:=sX d (by omega)
   have eF:=sX t (by omega)
   cases hk:jI d with
   |
    false =>
    rw[hk] at eD
    have hpa:rS neg d (some t)=none:=if_pos (.inl hk)
    rw[hpa]
    cases neg with
    |
     false =>
     have q1:=q0 rfl
     have W8:=r0 rfl
     subst W8
     simp only[cE,bM,bP,kZ,e0,q1,eC,eD,a1,a2,Int.reduceLT,aJ,bC,aR,aW,eO,gV,eK,gT,gH,Nat.reduceLeDiff,Nat.reduceLT,Nat.reduceSub,VX,Nat.reduceEqDiff,Nat.reduceAdd]
     exact bN (d:=6) iK (aN (v:=VB false) rfl)
    |
     true =>
     have q1:=q9 rfl
     have e9:=r9 rfl
     simp only[cE,bM,bP,kZ,e0,q1,eC,eD,a1,a2,Int.reduceLT,e9,aJ,bC,aR,aW,eO,gV,eK,gT,gH,Nat.reduceLeDiff,Nat.reduceLT,Nat.reduceSub,VX,Nat.reduceEqDiff,Nat.reduceAdd]
     exact bN (d:=6) iK (aN (v:=VB false) rfl)
   |
    true =>
    rw[hk] at eD
    have hbt:=BU hk
    have eN:=vP d (lH.1 hk).1 (by omega)
    by_cases hz:neg=true∧bZ d=0
    ·have hpa:rS neg d (some t)=none:=if_pos (.inr hz)
     rw[hpa]
     obtain⟨rfl,KM⟩:=hz
     have q1:=q9 rfl
     have e9:=r9 rfl
     have Km:(((aD 1000000000 (bZ d)).length:Nat):Int)=0:=Gx.2 KM
     simp only[cE,bM,bP,kZ,e0,q1,eC,eD,a1,a2,eN,e9,cN,Km,Int.reduceLT,aJ,bC,aR,aW,eO,gV,eK,gT,gH,Nat.reduceLeDiff,Nat.reduceLT,Nat.reduceSub,VX,Nat.reduceEqDiff,Nat.reduceAdd]
     exact bN (d:=6) iK (aN (v:=VB false) rfl)
    ·have Cy:neg=true→¬(((aD 1000000000 (bZ d)).length:Nat):Int)=0:=fun h h0=>hz ⟨h,Gx.1 h0⟩
     have hpa:rS neg d (some t)=if jI t=true∧1<bZ t∧aNf (bZ d) (bZ t)=1 then some (mkRat (mG neg (bZ d)) (bZ t)) else none:=if_neg (by rw[hk];rintro(h | h);exact absurd h (by decide);exact hz h)
     rw[hpa]
     clear hpa
     cases ht:jI t with
     |
      false =>
      rw[ht] at eF
      rw[if_neg (fun h=>absurd h.1 (by decide))]
      cases neg with
      |
       false =>
       have q1:=q0 rfl
       have W8:=r0 rfl
       subst W8
       simp only[cE,bM,bP,kZ,e0,q1,eC,eD,eF,a1,a2,a3,eN,Int.reduceLT,Int.reduceEq,aJ,bC,aR,aW,eO,gV,eK,gT,gH,Nat.reduceLeDiff,Nat.reduceLT,Nat.reduceSub,VX,Nat.reduceEqDiff,Nat.reduceAdd]
       exact bN (d:=6) iK (aN (v:=VB false) rfl)
      |
       true =>
       have q1:=q9 rfl
       have e9:=r9 rfl
       have Km:=Cy rfl
       simp only[cE,bM,bP,kZ,e0,q1,eC,eD,eF,a1,a2,a3,eN,Int.reduceLT,Int.reduceEq,e9,cN,Km,aJ,bC,aR,aW,eO,gV,eK,gT,gH,Nat.reduceLeDiff,Nat.reduceLT,Nat.reduceSub,VX,Nat.reduceEqDiff,Nat.reduceAdd]
       exact bN (d:=6) iK (aN (v:=VB false) rfl)
     |
      true =>
      rw[ht] at eF
      have Pp:=BU ht
      have eM:=vP t (lH.1 ht).1 (by omega)
      have c2:∀lo H K,_:=fun lo H K=>Nq (n:=bZ t) (lo:=lo) (H:=H) (K:=K) (aLe (pK (by omega)))
      have c3:=HY (bZ d) (bZ t) (pK (by omega)) (pK (by omega))
      by_cases h1:gC (bZ t) 1≤0
      ·have hle:¬1<bZ t:=fun h=>by unfold gC at h1;rw[if_neg (by omega),if_neg (by omega)] at h1;exact absurd h1 (by decide)
       rw[if_neg (fun h=>hle h.2.1)]
       cases neg with
       |
        false =>
        have q1:=q0 rfl
        have W8:=r0 rfl
        subst W8
        simp only[cE,bM,bP,kZ,e0,q1,eC,eD,eF,a1,a2,a3,eN,eM,c2,h1,Int.reduceLT,Int.reduceEq,aJ,bC,aR,aW,eO,gV,eK,gT,gH,Nat.reduceLeDiff,Nat.reduceLT,Nat.reduceSub,VX,Nat.reduceEqDiff,Nat.reduceAdd]
        exact bN (d:=6) iK (aN (v:=VB false) rfl)
       |
        true =>
        have q1:=q9 rfl
        have e9:=r9 rfl
        have Km:=Cy rfl
        simp only[cE,bM,bP,kZ,e0,q1,eC,eD,eF,a1,a2,a3,eN,eM,c2,h1,Int.reduceLT,Int.reduceEq,e9,cN,Km,aJ,bC,aR,aW,eO,gV,eK,gT,gH,Nat.reduceLeDiff,Nat.reduceLT,Nat.reduceSub,VX,Nat.reduceEqDiff,Nat.reduceAdd]
        exact bN (d:=6) iK (aN (v:=VB false) rfl)
      ·have bH:1<bZ t:=by
        rcases Nat.lt_or_ge 1 (bZ t) with h | h
        ·exact h
        ·exfalso
         apply h1
         unfold gC
         split<;>(try split)<;>first | decide | omega
       have hgl:bl (aNf (bZ d) (bZ t))≤665:=Nat.le_trans (lZ (Nat.le_of_dvd (by omega) (Nat.gcd_dvd_right _ _))) Pp
       have c4:∀lo H K,_:=fun lo H K=>Nq (n:=aNf (bZ d) (bZ t)) (lo:=lo) (H:=H) (K:=K) (aLe (pK (by omega)))
       by_cases hg:aNf (bZ d) (bZ t)=1
       ·have h4:gC (aNf (bZ d) (bZ t)) 1=0:=by rw[hg];rfl
        rw[if_pos ⟨rfl,bH,hg⟩]
        simp only[]
        rw[Pm (by omega) hg hz]
        cases neg with
        |
         false =>
         have q1:=q0 rfl
         have W8:=r0 rfl
         subst W8
         simp only[cE,bM,bP,kZ,e0,q1,eC,eD,eF,a1,a2,a3,eN,eM,c2,c3,c4,h1,h4,Int.reduceLT,Int.reduceEq,aJ,bC,aR,aW,eO,gV,eK,gT,gH,Nat.reduceLeDiff,Nat.reduceLT,Nat.reduceSub,VX,Nat.reduceEqDiff,Nat.reduceAdd]
         exact bN (d:=6) (tZ (aN (v:=VB false) rfl) (aN (cK _)) (aN (cK _))) (aN (v:=VB true) rfl)
        |
         true =>
         have q1:=q9 rfl
         have e9:=r9 rfl
         have Km:=Cy rfl
         simp only[cE,bM,bP,kZ,e0,q1,eC,eD,eF,a1,a2,a3,eN,eM,c2,c3,c4,h1,h4,Int.reduceLT,Int.reduceEq,e9,cN,Km,aJ,bC,aR,aW,eO,gV,eK,gT,gH,Nat.reduceLeDiff,Nat.reduceLT,Nat.reduceSub,VX,Nat.reduceEqDiff,Nat.reduceAdd]
         exact bN (d:=6) (tZ (aN (v:=VB true) rfl) (aN (cK _)) (aN (cK _))) (aN (v:=VB true) rfl)
       ·have h4:¬gC (aNf (bZ d) (bZ t)) 1=0:=by
         unfold gC
         split<;>(try split)<;>first | decide | omega
        rw[if_neg (fun h=>hg h.2.2)]
        cases neg with
        |
         false =>
         have q1:=q0 rfl
         have W8:=r0 rfl
         subst W8
         simp only[cE,bM,bP,kZ,e0,q1,eC,eD,eF,a1,a2,a3,eN,eM,c2,c3,c4,h1,h4,Int.reduceLT,Int.reduceEq,aJ,bC,aR,aW,eO,gV,eK,gT,gH,Nat.reduceLeDiff,Nat.reduceLT,Nat.reduceSub,VX,Nat.reduceEqDiff,Nat.reduceAdd]
         exact bN (d:=6) iK (aN (v:=VB false) rfl)
        |
         true =>
         have q1:=q9 rfl
         have e9:=r9 rfl
         have Km:=Cy rfl
         simp only[cE,bM,bP,kZ,e0,q1,eC,eD,eF,a1,a2,a3,eN,eM,c2,c3,c4,h1,h4,Int.reduceLT,Int.reduceEq,e9,cN,Km,aJ,bC,aR,aW,eO,gV,eK,gT,gH,Nat.reduceLeDiff,Nat.reduceLT,Nat.reduceSub,VX,Nat.reduceEqDiff,Nat.reduceAdd]
         exact bN (d:=6) iK (aN (v:=VB false) rfl)
end Go.PM
namespace Go.PM
open Go.Lib
end Go.PM
namespace Go.PM
open Go.Lib
theorem T6 {l:List UInt8} {q:Rat} (h:BI l=some q):Ft l = .eG [aM q,VB true]:=by unfold Ft;rw[h]
theorem Wx {l:List UInt8} (h:BI l=none):Ft l = .eG [Px,VB false]:=by unfold Ft;rw[h]
end Go.PM
namespace Go.PM
open Go.Lib
def Vt (o:Option (List Rat)):VV:=match o with
 | some qs => .eG [aC aM qs,VB true]
 | none => .eG [aC aM [],VB false]
theorem Es:Vt none = .eG [aC aM [],VB false]:=rfl
theorem Et (qs:List Rat):Vt (some qs) = .eG [aC aM qs,VB true]:=rfl
theorem iY (q:Rat):(aB (aM q)).length=3:=rfl
theorem rG (qs:List Rat):aY (aC aM qs)=true:=mN iY BB
theorem afF (q:Rat):CJ (aM q)=true:=by simp[CJ,aM,cA,jG]
theorem G4 (qs:List Rat):gZ (aC aM qs)=true:=zL iY Re afF
theorem adA (o:Option (List Rat)):gZ (Vt o)=true:=by
 unfold Vt
 split
 ·exact zP (G4 _) rfl
 ·exact zP (G4 []) rfl
set_option maxHeartbeats 1000000 in
theorem A7 (xs:List ByteArray) (hn:xs.length≤1000000000) (hs:∀s∈xs,s.size≤1000000000):TC 57 [gL xs] (Vt (sZ xs)):=by
 refine TC.walk ⟨true,false⟩ PA rfl (aMl rfl) (by simp[aO,kH]) (adA _) ?_
 unfold sZ
 by_cases Xl:(300:Int)<(xs.length:Int)
 ·rw[if_neg (by omega)]
  simp only[Ef,Bs,Xl,VX,Nat.reduceEqDiff,Nat.reduceAdd]
  exact Ij
 rw[if_pos (by omega)]
 have e0:=fun H=>mT (H:=H) (lr:=false) (z:=[.bool false,.slice none 0 0,.slice none 0 0]) rfl
 simp only[Ef,Bs,Xl,e0,VX,Nat.reduceEqDiff,Nat.reduceAdd]
 refine Oi (fun(s:Nat×List Rat) ρ H=>s.1≤xs.length∧(xs.take s.1).mapM pQ=some s.2∧H=[.row s.1 (s.2.map aM) 3 true]∧ρ 4 = .ref 0 s.1 0 s.1 s.1∧ρ 0=gL xs∧ρ 13=VI xs.length∧ρ 14=VI s.1) (fun s=>xs.length-s.1) (0,[]) ⟨aK1 _,rfl,rfl,rfl,rfl,rfl,rfl⟩ ?_
 rintro⟨i,out⟩ ρ H ⟨hi,wI,rfl,g4,g13,g14,g15⟩
 simp only at hi wI g4 g15
 have hJ:out.length=i:=by rw[A9 wI,aL6];omega
 by_cases bW:(i:Int)<(xs.length:Int)
 ·obtain⟨x,hx⟩:∃x,xs[i]? = some x:=⟨_,aKE (by omega)⟩
  have hxm:=aLr hx
  have e1:=fun H=>aH (f:=sV) (t := .op) (H:=H) (size:=1) (k := .i64) hx rfl
  have wi:IntKind.i64.wrap ((i:Int)+1)=((i+1:Nat):Int):=wrapN (i+1) (by omega) (by omega)
  have e2:=Nf x.data.toList (by have:=hs x hxm;rw[Array.length_toList];show x.size≤_;omega)
  rw[←akJ] at e2
  cases hp:pQ x with
  |
   none =>
   rw[Wx hp] at e2
   rw[mapM_none hp hxm]
   simp only[uH,g4,g13,g14,g15,bW,e1,e2,LW,OU,Wq,bA,aZ,aS,gH,Nat.reduceLeDiff,Nat.reduceLT,Nat.reduceSub,nH,cD,cP,gP,lO,pN,bne_iff_ne,ne_eq,not_false_eq_true,not_true_eq_false,VX,Nat.reduceEqDiff,Nat.reduceAdd]
   exact Ij
  |
   some q =>
   rw[T6 hp] at e2
   have eL:∀H,mR false [.bool false,.slice none 0 0,.slice none 0 0] 1 [(0,aM q)] H=some (.tree [aM q] (.cl 3),H):=fun H=>iX rfl rfl rfl
   have eS:∀H,cW 3 (.tree [aM q] (.cl 3)) H=some [aM q]:=fun H=>eV rfl rfl
   have eP:dP 0 3 56 (.ref 0 i 0 i i) [aM q] [.row i (out.map aM) 3 true,.row 0 [aM q] 3 true]=some (.ref 0 (i+1) 0 (i+1) (i+1),[.row (i+1) ((out++[q]).map aM) 3 true,.row 0 [aM q] 3 true]):=by
    rw[jQ (f:=aM) (xs:=out) (by rw[aT]) hJ.symm (aKx _) (by decide) (by decide) (by omega),aMb]
   simp only[uH,g4,g13,g14,g15,bW,e1,e2,eL,eS,eP,wi,bT,gM,cH,aR,bC,aW,gH,Nat.reduceLeDiff,Nat.reduceLT,Nat.reduceSub,nH,cD,cP,gP,lO,pN,bne_iff_ne,ne_eq,not_false_eq_true,not_true_eq_false,VX,Nat.reduceEqDiff,Nat.reduceAdd]
   refine⟨(i+1,out++[q]),by simp only;omega,?_,by simp only;omega,by simp only[sQ hx];exact RC wI hp,rfl,?_⟩
   ·rw[DC (oK _ (fO BB)),Kw]
   ·simp only[AY,g13,g14,Da (kH _),Le (Nat.lt_succ_self 0),VX,Nat.reduceEqDiff,Nat.reduceAdd,aNM,oC,List.all_nil,aMa,AY,OO,Da]
 ·have mI:i=xs.length:=by omega
  subst mI
  rw[aLK] at wI
  rw[wI]
  simp only[uH,g4,g13,g14,g15,bW,VX,Nat.reduceEqDiff,Nat.reduceAdd]
  refine bN (d:=6) ?_ (aN (v:=VB true) rfl)
  have:=Wi (d:=5) (w:=true) (f:=aM) (e:=3) (b:=0) (g:=xs.length) (c:=xs.length) (xs:=out) (H:=[.row xs.length (out.map aM) 3 true]) BB (by rw[aT]) (by omega)
  rw[hJ] at this
  exact this
set_option maxHeartbeats 1000000 in
theorem Rj {lo:Nat} {H:aA} {q:Rat} (h:lo≤H.length):bL lo 3 (.ptr H.length 0 0 0) (aM q) (H++[cell0])=some (H++[.row 0 [aM q] 3 true]):=by
 rw[bS (g:=0) (e:=3) (j:=0) lF (by exact aNP) h rfl rfl,Pv]
 rfl
theorem EH {lo:Nat} {H:aA} {v:VV} (qs:List Rat) {B:Nat} (hv:Rd aM 3 qs H v) (dR:lo≤H.length) (hb:∀q∈qs,aK q≤B) (hk:qs.length*(B+1)+1≤1099511627776) (hB:B≤1099511627776) (hn:qs.length≤1000000000) :
  jE 60 [v] lo H (RX (fun _ _ _ r=>r=aM (dL qs)) H):=by
 refine jE.walk ⟨true,false⟩ M5 (aMl rfl) ?_
 have e1:=Bw
 have e2:=hv.len (H++[cell0,.row 0 [aM 0] 3 true]) (List.prefix_append _ _)
 have s0:bL lo 3 (.ptr (H.length+1) 0 0 0) (aM 0) (H++[cell0,cell0])=some (H++[cell0,.row 0 [aM 0] 3 true]):=by
  have:=Rj (lo:=lo) (H:=H++[cell0]) (q:=0) (by rw[aKI];omega)
  simpa only[aKI,aKH,aMa,aL5,aMj,aLX,aLP] using this
 simp only[HL,EN,e1,e2,s0,aKI,aKH,aMa,aMj,aLX,aLP,dS,VX,Nat.reduceEqDiff,Nat.reduceAdd,Nat.reduceLeDiff,Nat.reduceLT,Nat.reduceSub]
 refine aP (fun(i:Nat) ρ H1=>i≤qs.length∧H <+: H1∧aG H1 H.length 0=some ([rz],3,true)∧aG H1 (H.length+1) 0=some ([aM (dL (qs.take i))],3,true)∧ρ 2 = .ptr H.length 0 0 0∧ρ 3 = .ptr (H.length+1) 0 0 0∧ρ 0=v∧ρ 7=VI qs.length∧ρ 8=VI i) (fun i=>qs.length-i) 0 ⟨aK1 _,List.prefix_append _ _,Cn.trans aT,NN.trans (eJ.trans aT),rfl,rfl,rfl,rfl,rfl⟩ ?_
 rintro i ρ H1 ⟨hi,hp,Kh,TT,g2,g3,g0,g7,g8⟩
 have CQ:=iR TT
 have s3:bF true 3 (.ptr (H.length+1) 0 0 0) H1=some (aM (dL (qs.take i))):=by
  rw[bK,TT]
  exact cH _
 by_cases bW:(i:Int)<(qs.length:Int)
 ·obtain⟨q,hq⟩:∃q,qs[i]? = some q:=⟨_,aKE (by omega)⟩
  obtain⟨p,a1,a2⟩:=hv.get H1 hp i q hq
  have a2':=(a2 true).trans (cH _)
  have wi:IntKind.i64.wrap ((i:Int)+1)=((i+1:Nat):Int):=wrapN (i+1) (by omega) (by omega)
  have h1:=A6 hb i
  have h2:=hb q (aLr hq)
  have h3:(i+1)*(B+1)≤qs.length*(B+1):=Nat.mul_le_mul_right _ (by omega)
  have e3:=tN (dL (qs.take i)) q (by omega) (by omega)
  rw[←C6 hq] at e3
  have s4:=bS (lo:=lo) (v:=aM (dL (qs.take (i+1)))) (j:=0) TT (by exact aNP) (by omega) rfl rfl
  rw[aMb] at s4
  simp only[xZ,g2,g3,g0,g7,g8,bW,a1,a2',e3,s3,s4,wi,dS,VX,Nat.reduceEqDiff,Nat.reduceAdd,Nat.reduceLeDiff,Nat.reduceLT,Nat.reduceSub]
  exact⟨i+1,by omega,by omega,lX hp (by omega),aX (by omega) Kh,bQ TT,by (repeat' apply aMd)<;>first | rfl | trivial | assumption⟩
 ·have mI:i=qs.length:=by omega
  subst mI
  rw[aLK] at s3
  have s4:=bS (lo:=lo) (v:=aM (dL qs)) (j:=0) Kh (by exact aNP) dR rfl rfl
  rw[aMb] at s4
  have s5:bF true 3 (.ptr H.length 0 0 0) (H1.set H.length (.row 0 [aM (dL qs)] 3 true))=some (aM (dL qs)):=by
   rw[bK,bQ Kh]
   exact cH _
  simp only[xZ,g2,g3,g7,g8,bW,s3,s4,s5,dS,VX,Nat.reduceEqDiff,Nat.reduceAdd,Nat.reduceLeDiff,Nat.reduceLT,Nat.reduceSub]
  exact⟨lX hp (aKx _),rfl⟩
theorem Z7 {q:Rat}:q.num<0↔q<0:=by rw[←Int.not_le,Rat.num_nonneg];constructor<;>intro h<;>grind
theorem uK (qs:List Rat) (hn:qs.length≤1000000000):TC 58 [aC aM qs] (VB (!(qs.any fun q=>decide (q<0)))):=by
 refine TC.walk ⟨true,false⟩ IA rfl (aMl rfl) (by simp[aO,rG]) rfl ?_
 simp only[C7,BP,VX,Nat.reduceEqDiff,Nat.reduceAdd]
 refine aP (fun(i:Nat) ρ H=>i≤qs.length∧H=[]∧(∀j x,j<i→qs[j]? = some x→¬x<0)∧ρ 0=aC aM qs∧ρ 5=VI qs.length∧ρ 6=VI i) (fun i=>qs.length-i) 0 ⟨aK1 _,rfl,fun j x h=>by omega,rfl,rfl,rfl⟩ ?_
 rintro i ρ H ⟨hi,rfl,jW,g0,g5,g6⟩
 by_cases bW:(i:Int)<(qs.length:Int)
 ·obtain⟨q,hq⟩:∃q,qs[i]? = some q:=⟨_,aKE (by omega)⟩
  have e2:=fun H=>aH (f:=aM) (t := .op) (H:=H) (size:=3) (k := .i64) hq rfl
  have wi:IntKind.i64.wrap ((i:Int)+1)=((i+1:Nat):Int):=wrapN (i+1) (by omega) (by omega)
  by_cases mE:q.num<0
  ·have Ag:qs.any (fun q=>decide (q<0))=true:=List.any_eq_true.2 ⟨q,aLr hq,decide_eq_true (Z7.1 mE)⟩
   rw[Ag]
   simp only[nO,g0,g5,g6,bW,e2,mE,iH,bT,gM,cH,aR,bC,aW,gH,Nat.reduceLeDiff,Nat.reduceLT,Nat.reduceSub,nH,cD,cP,gP,lO,pN,bne_iff_ne,ne_eq,not_false_eq_true,not_true_eq_false,VX,Nat.reduceEqDiff,Nat.reduceAdd]
   exact aL rfl
  ·simp only[nO,g0,g5,g6,bW,e2,mE,wi,iH,bT,gM,cH,aR,bC,aW,gH,Nat.reduceLeDiff,Nat.reduceLT,Nat.reduceSub,nH,cD,cP,gP,lO,pN,bne_iff_ne,ne_eq,not_false_eq_true,not_true_eq_false,VX,Nat.reduceEqDiff,Nat.reduceAdd]
   refine⟨i+1,by omega,by omega,fun j y hj hy => ?_,rfl⟩
   rcases Nat.lt_or_ge j i with Ev | Ev
   ·exact jW j y Ev hy
   ·have:j=i:=by omega
    subst this
    rw[hq] at hy
    cases hy
    exact mt Z7.2 mE
 ·have mI:i=qs.length:=by omega
  subst mI
  have Ag:qs.any (fun q=>decide (q<0))=false:=by
   rw[List.any_eq_false]
   intro x hx
   obtain⟨j,hj⟩:=List.getElem?_of_mem hx
   simpa using jW j x (aKw.1 hj).1 hj
  rw[Ag]
  simp only[nO,g0,g5,g6,bW,VX,Nat.reduceEqDiff,Nat.reduceAdd]
  exact aL rfl
theorem XM {a b:Rat}:a=b↔(decide (a.num<0)=decide (b.num<0)∧a.num.natAbs*b.den=b.num.natAbs*a.den):=by
 constructor
 ·rintro rfl
  exact⟨rfl,rfl⟩
 ·rintro⟨h1,h2⟩
  have h3:a.num<0↔b.num<0:=by simpa using h1
  have ha:=a.den_nz
  have hb:=b.den_nz
  have key:a.num*b.den=b.num*a.den→a=b:=fun h=>by
   have:=(Rat.mkRat_eq_iff (n₁:=a.num) (n₂:=b.num) ha hb).2 h
   rwa [Rat.mkRat_self,Rat.mkRat_self] at this
  refine key ?_
  have e1:(a.num.natAbs:Int)*b.den=b.num.natAbs*a.den:=by exact_mod_cast h2
  by_cases hn:a.num<0
  ·have hn2:=h3.1 hn
   have q1:a.num = -(a.num.natAbs:Int):=by omega
   have q2:b.num = -(b.num.natAbs:Int):=by omega
   rw[q1,q2,Int.neg_mul,Int.neg_mul,e1]
  ·have hn2:=mt h3.2 hn
   have q1:a.num=(a.num.natAbs:Int):=by omega
   have q2:b.num=(b.num.natAbs:Int):=by omega
   rw[q1,q2,e1]
set_option maxHeartbeats 1000000 in
theorem Ni (a b:Rat) (Mu:aK a≤1099511627776) (IU:aK b≤1099511627776):TC 160 [aM a,aM b] (VB (decide (a=b))):=by
 refine TC.walk ⟨true,false⟩ M4 rfl (aMl rfl) (by simp only[aO,BB];rfl) rfl ?_
 have b1 := @qB a
 have b2 := @qB b
 have b3 := @oB a
 have b4 := @oB b
 have b5:=nU a.num.natAbs b.den
 have b6:=nU b.num.natAbs a.den
 have c1:=fH a.num.natAbs b.den (aLe (pK (by omega))) (aLe (pK (by omega)))
 have c2:=fH b.num.natAbs a.den (aLe (pK (by omega))) (aLe (pK (by omega)))
 have c3:=zA (a.num.natAbs*b.den) (b.num.natAbs*a.den) (aLe (pK (by omega))) (aLe (pK (by omega)))
 by_cases q1:decide (a.num<0)=decide (b.num<0)
 ·have q2:(decide (a.num<0) == decide (b.num<0))=true:=by simpa using q1
  have hz := @AR (a.num.natAbs*b.den) (b.num.natAbs*a.den)
  by_cases q3:gC (a.num.natAbs*b.den) (b.num.natAbs*a.den)=0
  ·rw[decide_eq_true (XM.2 ⟨q1,hz.1 q3⟩)]
   simp only[yX,uA,c1,c2,c3,q2,q3,xQ,bT,iH,jS,jN,aR,gH,Nat.reduceLeDiff,Nat.reduceLT,Nat.reduceSub,nH,cD,cP,gP,lO,pN,bne_iff_ne,ne_eq,not_false_eq_true,not_true_eq_false,VX,Nat.reduceEqDiff,Nat.reduceAdd]
   exact aL rfl
  ·rw[decide_eq_false (fun h=>q3 (hz.2 (XM.1 h).2))]
   simp only[yX,uA,c1,c2,c3,q2,q3,xQ,bT,iH,jS,jN,aR,gH,Nat.reduceLeDiff,Nat.reduceLT,Nat.reduceSub,nH,cD,cP,gP,lO,pN,bne_iff_ne,ne_eq,not_false_eq_true,not_true_eq_false,VX,Nat.reduceEqDiff,Nat.reduceAdd]
   exact aL rfl
 ·have q2:(decide (a.num<0) == decide (b.num<0))=false:=by simpa using q1
  rw[decide_eq_false (fun h=>q1 (XM.1 h).1)]
  simp only[yX,uA,q2,xQ,bT,iH,jS,jN,aR,gH,Nat.reduceLeDiff,Nat.reduceLT,Nat.reduceSub,nH,cD,cP,gP,lO,pN,bne_iff_ne,ne_eq,not_false_eq_true,not_true_eq_false,VX,Nat.reduceEqDiff,Nat.reduceAdd]
  exact aL rfl
theorem Jd (qs:List Rat) (hb:∀q∈qs,aK q≤665) (hl:qs.length≤300):TC 96 [aC aM qs] (VB (iZ qs)):=by
 refine TC.walk ⟨true,false⟩ JM rfl (aMl rfl) (by simp[aO,rG]) rfl ?_
 have e1:=uK qs (by omega)
 have e2:=fun(K:aA)=>EH (lo:=0) (H:=K) (v:=aC aM qs) qs (Rd.tree iY) (aK1 _) hb (Pb hl) (by omega) (by omega)
 have hsb:=A6 hb qs.length
 rw[aLK] at hsb
 have e3:=HJ
 have hsr:=Pb hl
 have e4:=Ni (dL qs) 1 (by omega) (by rw[AO];omega)
 unfold iZ
 cases Ag:qs.any (fun q=>decide (q<0)) with
 |
  true =>
  rw[Ag] at e1
  simp only[Bool.not_true,Bool.false_and] at e1 ⊢
  simp only[Ai,wD,e1,VX,Nat.reduceEqDiff,Nat.reduceAdd]
  exact aL rfl
 |
  false =>
  rw[Ag] at e1
  simp only[Bool.not_false,aN9] at e1 ⊢
  simp only[Ai,wD,e1,VX,Nat.reduceEqDiff,Nat.reduceAdd]
  refine rZ rfl (e2 _) fun r L hr => ?_
  subst hr
  simp only[e3,e4,VX,Nat.reduceEqDiff,Nat.reduceAdd]
  exact aL rfl
end Go.PM
namespace Go.PM
open Go.Lib
end Go.PM
namespace Go.PM
def xR:aE:=(.seq (LS [LM 20 6,LM 21 4,LO 22 (.bin .lss (LT 20) (LT 21)),LM 23 22,LY 23 24 (.mv (LT 0)),LY 23 25 (.mv (LT 6)),LY 23 26 (.iaddr 1 (LT 24) (LT 25)),LY 23 27 (LL 26),LY 23 28 (.mv (LT 5)),LY 23 29 (.iaddr 3 (LT 27) (LT 28)),LY 23 30 (LK 29),LY 23 31 (.call 59 [(LT 30)]),LO 32 (.pick (LT 23) (LT 31) LF)] (.cond (LT 32) .skip (.exit 2))) (.block 3 (.cT [LM 33 6,LO 34 (.bin .add (LT 33) (LI 1)),LM 6 34])))
def yB:aE:=(.seq (LS [LM 76 9,LM 77 4,LO 78 (.bin .leq (LT 76) (LT 77))] (.cond (LT 78) .skip (.exit 6))) (.seq (.block 7 (.cT [LM 81 0,LM 82 7,LO 83 (.iaddr 1 (LT 81) (LT 82)),LO 84 (LL 83),LM 85 9,LM 86 0,LM 87 7,LO 88 (.iaddr 1 (LT 86) (LT 87)),LO 89 (LL 88),LM 90 9,LO 91 (.iaddr 3 (LT 89) (LT 90)),LO 92 (LK 91),LO 93 (LK 8),LM 94 0,LM 95 5,LO 96 (.iaddr 1 (LT 94) (LT 95)),LO 97 (LL 96),LM 98 9,LO 99 (.iaddr 3 (LT 97) (LT 98)),LO 100 (LK 99),LQ 101 (.call 125 [(LT 93),(LT 100)]),LQ 102 (.call 82 [(LT 92),(LT 101)]),LO 103 (.iaddr 3 (LT 84) (LT 85)),LN (.store 3 (LT 103) (LT 102))])) (.cT [LM 79 9,LO 80 (.bin .add (LT 79) (LI 1)),LM 9 80])))
def oA:aE:=(.seq (LS [LM 42 7,LM 43 4,LO 44 (.bin .lss (LT 42) (LT 43))] (.cond (LT 44) .skip (.exit 4))) (.seq (.block 5 (.seq (LS [LM 47 7,LM 48 5,LO 49 (.bin .eql (LT 47) (LT 48)),LM 50 49,LZ 50 51 (.mv (LT 0)),LZ 50 52 (.mv (LT 7)),LZ 50 53 (.iaddr 1 (LT 51) (LT 52)),LZ 50 54 (LL 53),LZ 50 55 (.mv (LT 5)),LZ 50 56 (.iaddr 3 (LT 54) (LT 55)),LZ 50 57 (LK 56),LZ 50 58 (.call 59 [(LT 57)]),LO 59 (.pick (LT 50) LG (LT 58))] (.cond (LT 59) (.exit 5) .skip)) (LS [LM 60 0,LM 61 7,LO 62 (.iaddr 1 (LT 60) (LT 61)),LO 63 (LL 62),LM 64 5,LO 65 (.iaddr 3 (LT 63) (LT 64)),LO 66 (LK 65),LM 67 0,LM 68 5,LO 69 (.iaddr 1 (LT 67) (LT 68)),LO 70 (LL 69),LM 71 5,LO 72 (.iaddr 3 (LT 70) (LT 71)),LO 73 (LK 72),LQ 74 (.call 81 [(LT 66),(LT 73)]),LQ 8 (.new [(.bool false),(.slice none 0 0),(.slice none 0 0)]),LN (.store 3 (LT 8) (LT 74))] (LS [LM 75 5,LM 9 75] (.block 6 (.loop yB)))))) (.cT [LM 45 7,LO 46 (.bin .add (LT 45) (LI 1)),LM 7 46])))
def xY:aE:=(.seq (LS [LM 14 5,LM 15 4,LO 16 (.bin .lss (LT 14) (LT 15))] (.cond (LT 16) .skip (.exit 0))) (.seq (.block 1 (LS [LM 19 5,LM 6 19] (.seq (.block 2 (.loop xR)) (.seq (LS [LM 35 6,LM 36 4,LO 37 (.bin .eql (LT 35) (LT 36))] (.cond (LT 37) (LS [LO 2 (.mv (.const (.slice none 0 0))),LO 3 (.mv LF)] .ret) .skip)) (LS [LM 38 0,LM 39 5,LM 40 6,LO 41 (.call 179 [(LT 38),(LT 39),(LT 40)])] (LS [LO 7 (.mv (LI 0))] (.block 4 (.loop oA)))))))) (.cT [LM 17 5,LO 18 (.bin .add (LT 17) (LI 1)),LM 5 18])))
def yM:aE:=(.seq (LS [LM 105 11,LM 106 4,LO 107 (.bin .lss (LT 105) (LT 106))] (.cond (LT 107) .skip (.exit 8))) (.seq (.block 9 (.cT [LM 110 10,LM 111 0,LM 112 11,LO 113 (.iaddr 1 (LT 111) (LT 112)),LO 114 (LL 113),LM 115 4,LO 116 (.iaddr 3 (LT 114) (LT 115)),LO 117 (LK 116),LM 118 0,LM 119 11,LO 120 (.iaddr 1 (LT 118) (LT 119)),LO 121 (LL 120),LM 122 11,LO 123 (.iaddr 3 (LT 121) (LT 122)),LO 124 (LK 123),LQ 125 (.call 81 [(LT 117),(LT 124)]),LQ 126 (.lit [(.bool false),(.slice none 0 0),(.slice none 0 0)] 1 [(0,(LT 125))]),LO 127 (.app 3 56 (LT 110) (LT 126)),LM 10 127])) (.cT [LM 108 11,LO 109 (.bin .add (LT 108) (LI 1)),LM 11 109])))
def EK:aE:=(LS [LO 2 (.mv (.const (.slice none 0 0))),LO 3 (.mv LF)] (LS [LM 12 0,LO 13 (.len (LT 12)),LM 4 13] (.seq (LS [LO 5 (.mv (LI 0))] (.block 0 (.loop xY))) (LS [LO 104 (.lit [(.bool false),(.slice none 0 0),(.slice none 0 0)] 0 []),LM 10 104] (.seq (LS [LO 11 (.mv (LI 0))] (.block 8 (.loop yM))) (LS [LM 128 10,LM 2 128,LO 3 (.mv LG)] .ret))))))
def HT:aU:=⟨129,[(.tmp 2),(.tmp 3)],EK⟩
theorem Np:fQ 134=some HT:=by kernel_rfl
def F8:aE:=(LS [LM 7 0,LM 8 1,LO 9 (.iaddr 1 (LT 7) (LT 8)),LO 10 (LL 9),LM 6 10] (LS [LM 11 0,LM 12 1,LM 13 0,LM 14 2,LO 15 (.iaddr 1 (LT 13) (LT 14)),LO 16 (LL 15),LO 17 (.iaddr 1 (LT 11) (LT 12)),LN (.store 1 (LT 17) (LT 16))] (.cT [LM 18 0,LM 19 2,LM 20 6,LO 21 (.iaddr 1 (LT 18) (LT 19)),LN (.store 1 (LT 21) (LT 20))])))
def I5:aU:=⟨22,[],F8⟩
theorem OW:fQ 179=some I5:=by kernel_rfl
end Go.PM
namespace Go.PM
open Go.Lib
theorem N7 (x:List Rat):(aB (aC aM x)).length=1:=rfl
theorem acB (m:List (List Rat)):aY (aC (aC aM) m)=true:=mN N7 rG
theorem alF (m:List (List Rat)):gZ (aC (aC aM) m)=true:=zL N7 G4 fun _=>rfl
end Go.PM
namespace Go.PM
def Bc:aE:=(LS [LO 1 (.box (LT 0)),LO 2 (.mv (.const (.string ⟨#[]⟩))),LO 3 (.mv LF)] (LS [LO 7 (LK 1),LO 8 (.call 171 [(LT 7)]),LM 6 8,LO 9 (LX 6 0),LO 10 (LX 6 1),LM 4 9,LM 5 10] (.seq (LS [LM 11 5,LO 12 (.un .not (LT 11))] (.cond (LT 12) (LS [LO 2 (.mv (.const (.string ⟨#[]⟩))),LO 3 (.mv LF)] .ret) .skip)) (LS [LM 13 4,LM 2 13,LO 3 (.mv LG)] .ret))))
def Ei:aU:=⟨14,[(.tmp 2),(.tmp 3)],Bc⟩
theorem OL:fQ 112=some Ei:=by kernel_rfl
end Go.PM
namespace Go.PM
end Go.PM
namespace Go.PM
open Go.Lib
theorem azL {b g j o e:Nat} {H:aA} {es:List VV} {w:Bool} {x x':VV} (h:aG H b g=some (es,e,w)) (hx:es[j]? = some x) (hf:PM.fz 7 H x=some x'):PM.fz depth H (.ptr b g j o)=some (x'.cI o):=by
 show PM.fz (7+1) H _=_
 unfold PM.fz
 have:aY (.ptr b g j o)=false:=rfl
 simp[this,h,hx,hf]
theorem O7 (q:Rat) (hk:aK q≤1099511627776):TC 112 [aM q] (Cm q):=by
 refine TC.walk ⟨true,false⟩ OL rfl (aMl rfl) (Al (BB _)) (Gv q) ?_
 have e1:=Oy q hk
 unfold Cm at e1 ⊢
 by_cases h:Dj q=true
 ·rw[if_pos h] at e1 ⊢
  simp only[Ei,Bc,e1,bT,gM,cH,aR,bC,aW,gH,Nat.reduceLeDiff,Nat.reduceLT,Nat.reduceSub,nH,cD,cP,gP,lO,pN,bne_iff_ne,ne_eq,not_false_eq_true,not_true_eq_false,VX,Nat.reduceEqDiff,Nat.reduceAdd]
  exact aL rfl
 ·rw[if_neg h] at e1 ⊢
  simp only[Ei,Bc,e1,bT,gM,cH,aR,bC,aW,gH,Nat.reduceLeDiff,Nat.reduceLT,Nat.reduceSub,nH,cD,cP,gP,lO,pN,bne_iff_ne,ne_eq,not_false_eq_true,not_true_eq_false,VX,Nat.reduceEqDiff,Nat.reduceAdd]
  exact aL rfl
end Go.PM
namespace Go.PM
open Go.Lib
end Go.PM