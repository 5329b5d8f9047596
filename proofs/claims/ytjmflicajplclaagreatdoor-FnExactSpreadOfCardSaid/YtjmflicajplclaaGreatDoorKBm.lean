/- Texts of a claim, in one: part 13. -/
import Derived.KernelRfl
import Derived.Test.YtjmflicajplclaaGreatDoorKBl
open And renaming intro → aMh
open Bool renaming and_self → aLZ,true_and → aOd
open Int renaming toNat_natCast → aLX
open List renaming all_eq_true → aKP,append_assoc → aMn,cons_append → aL1,findIdx?_eq_none_iff → aNU,findIdx?_eq_some_iff_getElem → aNV,getD_eq_getElem?_getD → aKy,getElem?_cons_succ → aMl,getElem?_cons_zero → aKV,getElem?_eq_getElem → aKI,getElem?_eq_some_iff → aKA,length_append → aKM,length_cons → aKL,length_drop → aM2,length_eq_zero_iff → aMJ,length_nil → aMe,length_pos_iff → aNz,length_take → aMa,mapM_cons → aLY,mem_append → aLx,mem_of_getElem? → aLv,mem_of_mem_drop → aLz,mem_of_mem_take → aLy,mem_singleton → aLH,nil_append → aLT,set_cons_zero → aMf,take_add_one → aMr,take_append_drop → aLK,take_length → aLO,take_of_length_le → aLu,take_zero → aNQ
open Nat renaming gcd → aNj,le_of_ble_eq_true → aMp,le_of_lt → aLi,le_refl → aKB,pow_le_pow_right → aME,sub_zero → aOe,zero_add → aL9,zero_le → aK5,zero_lt_one → aNT
set_option linter.unusedSimpArgs false
set_option linter.unusedVariables false
namespace Go.PM
open Go.Lib
def fA (s:vJ):Option (List Rat×List (List Rat)×List Rat):=if (1≤s.b.length∧s.b.length≤6)∧s.g.length=s.b.length∧s.e.length=s.b.length then
  match mU s.b,tB s.e with
  | some w,some r=>if (r.any fun q=>decide (q<0))=false then (iS s.g s.b.length).map fun m=>(w,m,r) else none
  | _,_=>none
 else none
def Fp (x:List Rat×List (List Rat)×List Rat):Bool:=(qF x.2.1 x.2.2 x.2.2.length x.2.2.length).all id
def ZY:VV := .agg [.tree [] .op,.tree [] .op,.tree [] .op]
def QC (s:vJ):VV:=match fA s with
 | some x => .eJ [CE aF x.1 x.2.1 x.2.2,VB (Fp x)]
 | none => .eJ [ZY,VB false]
theorem KJ (b:List Rat) (g:List (List Rat)) (e:List Rat):bA (CE aF b g e)=true:=by
 show aO [aC aF b,aC (aC aF) g,aC aF e]=true
 simp only[aO,gR,Jb,aLZ]
theorem ahA (b:List Rat) (g:List (List Rat)) (e:List Rat):hJ (CE aF b g e)=true:=by
 show sR [aC aF b,aC (aC aF) g,aC aF e]=true
 simp only[sR,GF,asD,aLZ]
theorem ajU (s:vJ):hJ (QC s)=true:=by
 unfold QC
 split
 ·exact zI (ahA _ _ _) rfl
 ·exact zI (by decide) rfl
theorem SV {s:vJ} {x:List Rat×List (List Rat)×List Rat} (h:fA s=some x):(1≤x.1.length∧x.1.length≤6)∧x.2.1.length=x.1.length∧x.2.2.length=x.1.length∧jB x.1=true∧(∀q∈x.1,aK q≤665)∧(∀r∈x.2.1,r.length=x.1.length∧∀q∈r,0≤q∧aK q≤665)∧(∀q∈x.2.2,0≤q∧aK q≤665):=by
 unfold fA at h
 split at h
 ·rename_i hl
  split at h
  ·rename_i w r h1 h2
   split at h
   ·rename_i mI
    obtain⟨m,hm,rfl⟩:=Option.map_eq_some_iff.1 h
    obtain⟨k1,k2⟩:=QF h1
    obtain⟨b1,_,b3⟩:=nD k1
    obtain⟨c1,_,c3⟩:=nD h2
    obtain⟨d1,d2⟩:=tM hm
    refine⟨by simp only;omega,by simp only;omega,by simp only;omega,k2,b1,fun r hr=>⟨by have:=(d2 r hr).1;simp only;omega,(d2 r hr).2⟩,fun q hq=>⟨?_,c1 q hq⟩⟩
    have:=List.any_eq_false.1 mI q hq
    exact Rat.not_lt.1 (by simpa using this)
   ·cases h
  ·cases h
 ·cases h
theorem Ho (bs:List Bool) (b:Bool) (hn:bs.length≤1000000):TC 213 [aC (fun b=>VB b) bs,VB b] (VI (match bs.findIdx? (· == b) with | some i=>(i:Int) | none => -1)):=by
 refine TC.walk ⟨true,false⟩ AI rfl (aMp rfl) (Lw (My _) rfl) rfl ?_
 simp only[tA,qW,dT,VX,Nat.reduceEqDiff,Nat.reduceAdd,Nat.reduceLeDiff,Nat.reduceLT,Nat.reduceSub]
 refine aP (fun(i:Nat) ρ H=>i≤bs.length∧H=[]∧(∀x∈bs.take i,(x == b)=false)∧ρ 0=aC (fun b=>VB b) bs∧ρ 1=VB b∧ρ 7=VI bs.length∧ρ 8=VI i) (fun i=>bs.length-i) 0 ⟨aK5 _,rfl,by simp,rfl,rfl,rfl,rfl⟩ ?_
 rintro i ρ H ⟨hi,rfl,ht,g0,g1,g7,g8⟩
 by_cases bZ:(i:Int)<(bs.length:Int)
 ·obtain⟨x,hx⟩:∃x,bs[i]? = some x:=⟨_,aKI (by omega)⟩
  have a1:=fun H=>aI (f:=fun b=>VB b) (t := .op) (H:=H) (size:=1) (k := .i64) hx rfl
  have wi:IntKind.i64.wrap ((i:Int)+1)=((i+1:Nat):Int):=wrapN (i+1) (by omega) (by omega)
  by_cases hxb:(x == b)=true
  ·have hf:bs.findIdx? (· == b)=some i:=by
    rw[aNV]
    refine⟨by omega,by rw[aKA] at hx;obtain⟨h1,h2⟩:=hx;rw[h2];exact hxb,fun j hj => ?_⟩
    have:=ht bs[j] (List.mem_take_iff_getElem.2 ⟨j,by omega,rfl⟩)
    simpa using this
   have e1:Oc false (.bool b) (.bool x)=some (.bool true):=by
    have:x=b:=by simpa using hxb
    subst this
    cases x<;>rfl
   rw[hf]
   simp only[gL,g0,g1,g7,g8,bZ,a1,e1,dT,VX,Nat.reduceEqDiff,Nat.reduceAdd,Nat.reduceLeDiff,Nat.reduceLT,Nat.reduceSub]
   exact aL rfl
  ·have e1:Oc false (.bool b) (.bool x)=some (.bool false):=by
    cases x<;>cases b<;>first | rfl | exact absurd rfl hxb
   simp only[gL,g0,g1,g7,g8,bZ,a1,e1,wi,dT,VX,Nat.reduceEqDiff,Nat.reduceAdd,Nat.reduceLeDiff,Nat.reduceLT,Nat.reduceSub]
   refine⟨i+1,by omega,by omega,fun y hy => ?_,by (repeat' apply aMh)<;>first | rfl | trivial | assumption⟩
   rw[sH hx] at hy
   rcases aLx.1 hy with h | h
   ·exact ht y h
   ·rw[aLH] at h
    subst h
    simpa using hxb
 ·have mC:i=bs.length:=by omega
  subst mC
  rw[aLO] at ht
  have hf:bs.findIdx? (· == b)=none:=by
   rw[aNU]
   exact ht
  rw[hf]
  simp only[gL,g7,g8,bZ,dT,VX,Nat.reduceEqDiff,Nat.reduceAdd,Nat.reduceLeDiff,Nat.reduceLT,Nat.reduceSub]
  exact aL rfl
theorem DV (bs:List Bool) (hn:bs.length≤1000000):TC 194 [aC (fun b=>VB b) bs,VB false] (VB (!bs.all id)):=by
 refine TC.walk ⟨true,false⟩ yO rfl (aMp rfl) (Lw (My _) rfl) rfl ?_
 have e1:=Ho bs false hn
 cases hf:bs.findIdx? (· == false) with
 |
  none =>
  rw[hf] at e1
  have ha:bs.all id=true:=by
   rw[aNU] at hf
   rw[aKP]
   intro x hx
   have:=hf x hx
   cases x<;>first | rfl | cases this
  have g:¬(0:Int) ≤ -1:=by decide
  rw[ha]
  simp only[kL,iZ,e1,g,ge_iff_le,Int.reduceNeg,Bool.not_true,dT,VX,Nat.reduceEqDiff,Nat.reduceAdd,Nat.reduceLeDiff,Nat.reduceLT,Nat.reduceSub]
  exact aL rfl
 |
  some i =>
  rw[hf] at e1
  have ha:bs.all id=false:=by
   rw[aNV] at hf
   obtain⟨h1,h2,_⟩:=hf
   cases jP:bs.all id with
   | false=>rfl
   |
    true =>
    have:=aKP.1 jP bs[i] (List.getElem_mem h1)
    simp only[id] at this
    rw[this] at h2
    cases h2
  have g:(0:Int)≤(i:Int):=by omega
  rw[ha]
  simp only[kL,iZ,e1,g,ge_iff_le,Bool.not_false,dT,VX,Nat.reduceEqDiff,Nat.reduceAdd,Nat.reduceLeDiff,Nat.reduceLT,Nat.reduceSub]
  exact aL rfl
def Xd (B E:VV) (i:Nat) (out:List (List Rat)):aA:=match i with
 | 0=>[kR,.row 0 [.agg [B,.tree [] .nil,E]] 3 true]
 | i+1=>[kR,.row 0 [.agg [B,.ref 2 i 0 (i+1) (i+1),E]] 3 true,.row i (out.map (aC aF)) 1 true]
theorem aqR {H:aA}:PM.fz depth H (.eJ [.agg [.tree [] .nil,.tree [] .nil,.tree [] .nil],VB false])=some (.eJ [ZY,VB false]):=by
 refine bO (d:=6) (He (d:=5) ?_) (aN (v:=VB false) rfl)
 rw[aLY,Ca,aLY,Ca,aLY,Ca]
 rfl
set_option maxHeartbeats 4000000 in
theorem Kx (s:vJ) (hb:TN s):TC 176 [vW s] (QC s):=by
 refine TC.walk ⟨true,false⟩ Lo rfl (aMp rfl) (Ap (rS _)) (ajU _) ?_
 have zE:=hb.b4
 have hel:=hb.e4
 have bad:fA s=none→∀K,PM.fz depth K (.eJ [.agg [.tree [] .nil,.tree [] .nil,.tree [] .nil],VB false])=some (QC s):=fun h K=>by
  have:QC s = .eJ [ZY,VB false]:=by unfold QC;rw[h]
  rw[this]
  exact aqR
 have KS:∀K:aA,bL 0 3 (.ptr 0 0 0 0) (.agg [.tree [] .nil,.tree [] .nil,.tree [] .nil]) (kR::K)=some (kR::K):=fun K=>by
  unfold kR
  rw[bS (e:=3) aT (by exact aNT) (aKB _) rfl rfl]
  rfl
 have Ty:∀K:aA,bH true 3 (.ptr 0 0 0 0) (kR::K)=some (.agg [.tree [] .nil,.tree [] .nil,.tree [] .nil]):=fun K=>by
  rw[bJ,aT]
  rfl
 by_cases h1:(s.b.length:Int)<1
 ·have bad:=bad (by unfold fA;exact if_neg (by omega))
  simp only[gD,eG,vW,h1,KS,Ty,dW,aKV,aMl,aL9,aLT,aMe,dT,VX,Nat.reduceEqDiff,Nat.reduceAdd,Nat.reduceLeDiff,Nat.reduceLT,Nat.reduceSub]
  exact bad _
 by_cases h6:(6:Int)<(s.b.length:Int)
 ·have bad:=bad (by unfold fA;exact if_neg (by omega))
  simp only[gD,eG,vW,h1,h6,KS,Ty,dW,aKV,aMl,aL9,aLT,aMe,dT,VX,Nat.reduceEqDiff,Nat.reduceAdd,Nat.reduceLeDiff,Nat.reduceLT,Nat.reduceSub]
  exact bad _
 by_cases hg:(s.g.length:Int)=(s.b.length:Int)
 case neg =>
  have bad:=bad (by unfold fA;exact if_neg (by omega))
  simp only[gD,eG,vW,h1,h6,hg,KS,Ty,dW,aKV,aMl,aL9,aLT,aMe,ne_eq,not_false_eq_true,decide_true,dT,VX,Nat.reduceEqDiff,Nat.reduceAdd,Nat.reduceLeDiff,Nat.reduceLT,Nat.reduceSub]
  exact bad _
 by_cases he:(s.e.length:Int)=(s.b.length:Int)
 case neg =>
  have bad:=bad (by unfold fA;exact if_neg (by omega))
  simp only[gD,eG,vW,h1,h6,hg,he,KS,Ty,dW,aKV,aMl,aL9,aLT,aMe,ne_eq,not_false_eq_true,not_true_eq_false,decide_true,decide_false,dT,VX,Nat.reduceEqDiff,Nat.reduceAdd,Nat.reduceLeDiff,Nat.reduceLT,Nat.reduceSub]
  exact bad _
 have uT:(1≤s.b.length∧s.b.length≤6)∧s.g.length=s.b.length∧s.e.length=s.b.length:=by omega
 have e1:=KE s.b (by omega) hb.bs
 have e2:=Fs s.e (by omega) hb.es
 cases hw:mU s.b with
 |
  none =>
  rw[hw,rC] at e1
  have bad:=bad (by unfold fA;rw[if_pos uT,hw])
  cases hr:tB s.e with
  |
   none =>
   rw[hr,rC] at e2
   simp only[gD,eG,vW,h1,h6,hg,he,e1,e2,KS,Ty,dW,aKV,aMl,aL9,aLT,aMe,ne_eq,not_true_eq_false,decide_false,dT,VX,Nat.reduceEqDiff,Nat.reduceAdd,Nat.reduceLeDiff,Nat.reduceLT,Nat.reduceSub]
   exact bad _
  |
   some r =>
   rw[hr,xZ] at e2
   simp only[gD,eG,vW,h1,h6,hg,he,e1,e2,KS,Ty,dW,aKV,aMl,aL9,aLT,aMe,ne_eq,not_true_eq_false,decide_false,dT,VX,Nat.reduceEqDiff,Nat.reduceAdd,Nat.reduceLeDiff,Nat.reduceLT,Nat.reduceSub]
   exact bad _
 |
  some w =>
  rw[hw,xZ] at e1
  cases hr:tB s.e with
  |
   none =>
   rw[hr,rC] at e2
   have bad:=bad (by unfold fA;rw[if_pos uT,hw,hr])
   simp only[gD,eG,vW,h1,h6,hg,he,e1,e2,KS,Ty,dW,aKV,aMl,aL9,aLT,aMe,ne_eq,not_true_eq_false,decide_false,dT,VX,Nat.reduceEqDiff,Nat.reduceAdd,Nat.reduceLeDiff,Nat.reduceLT,Nat.reduceSub]
   exact bad _
  |
   some r =>
   rw[hr,xZ] at e2
   obtain⟨Bm,BX,acQ⟩:=nD hr
   have e3:=mJ r 67 (fun q=>decide (q<0)) (fun q _=>A8 q) (by omega)
   cases An:r.any (fun q=>decide (q<0)) with
   |
    true =>
    rw[An] at e3
    have bad:=bad (by unfold fA;rw[if_pos uT,hw,hr];exact if_neg (by rw[An];decide))
    simp only[gD,eG,vW,h1,h6,hg,he,e1,e2,e3,KS,Ty,dW,aKV,aMl,aL9,aLT,aMe,ne_eq,not_true_eq_false,decide_false,dT,VX,Nat.reduceEqDiff,Nat.reduceAdd,Nat.reduceLeDiff,Nat.reduceLT,Nat.reduceSub]
    exact bad _
   |
    false =>
    rw[An] at e3
    have Hh:fA s=(iS s.g s.b.length).map fun m=>(w,m,r):=by unfold fA;rw[if_pos uT,hw,hr];exact if_pos An
    have s1:bL 0 3 (.ptr 1 0 0 0) (.agg [aC aF w,.tree [] .nil,aC aF r]) [kR,kR]=some [kR,.row 0 [.agg [aC aF w,.tree [] .nil,aC aF r]] 3 true]:=by
     rw[bS (e:=3) (g:=0) (j:=0) (dZ.trans aT) (by exact aNT) (by omega) rfl rfl]
     rfl
    simp only[gD,eG,vW,h1,h6,hg,he,e1,e2,e3,s1,dW,aKV,aMl,aL9,aLT,aMe,aKL,aL1,ne_eq,not_true_eq_false,decide_false,dT,VX,Nat.reduceEqDiff,Nat.reduceAdd,Nat.reduceLeDiff,Nat.reduceLT,Nat.reduceSub]
    refine aP (fun(i:Nat) ρ H=>i≤s.b.length∧(∃out,iS s.g i=some out∧H=Xd (aC aF w) (aC aF r) i out)∧ρ 2 = .ptr 0 0 0 0∧ρ 4=VI s.b.length∧ρ 7=aC aF r∧ρ 9 = .ptr 1 0 0 0∧ρ 65=aC gM s.g∧ρ 66=VI s.b.length∧ρ 67=VI i) (fun i=>s.b.length-i) 0
     ⟨aK5 _,⟨[],rfl,rfl⟩,by (repeat' apply aMh)<;>first | rfl | trivial | assumption⟩ ?_
    rintro i ρ H ⟨hi,⟨out,wA,rfl⟩,g2,g4,g7,g9,g65,g66,g67⟩
    obtain⟨iB,hof⟩:=tM wA
    by_cases bZ:(i:Int)<(s.b.length:Int)
    ·obtain⟨x,hx⟩:∃x,s.g[i]? = some x:=⟨_,aKI (by omega)⟩
     have hxm:=aLv hx
     have hgd:s.g.getD i []=x:=by rw[aKy,hx];rfl
     have a1:=fun H=>aI (f:=gM) (t := .op) (H:=H) (size:=1) (k := .i64) hx rfl
     have wi:IntKind.i64.wrap ((i:Int)+1)=((i+1:Nat):Int):=wrapN (i+1) (by omega) (by omega)
     have e4:=Fs x (hb.g9.2 x hxm) (hb.gs x hxm)
     have wU:iS s.g (i+1)=match iD s.g.length i x with | some q=>some (out++[q]) | none=>none:=by
      rw[iS,wA,hgd]
      cases iD s.g.length i x<;>rfl
     have bad:iD s.g.length i x=none→∀K,PM.fz depth K (.eJ [.agg [.tree [] .nil,.tree [] .nil,.tree [] .nil],VB false])=some (QC s):=fun h=>by
      rw[h] at wU
      exact bad (by rw[Hh,Ej wU s.b.length (by omega)];rfl)
     have atI:∀i,bL 0 3 (.ptr 0 0 0 0) (.agg [.tree [] .nil,.tree [] .nil,.tree [] .nil]) (Xd (aC aF w) (aC aF r) i out)=some (Xd (aC aF w) (aC aF r) i out):=fun i=>by cases i<;>exact KS _
     have atW:∀i,bH true 3 (.ptr 0 0 0 0) (Xd (aC aF w) (aC aF r) i out)=some (.agg [.tree [] .nil,.tree [] .nil,.tree [] .nil]):=fun i=>by cases i<;>exact Ty _
     cases HA:tB x with
     |
      none =>
      rw[HA,rC] at e4
      have bad:=bad (by unfold iD;rw[HA])
      simp only[fU,g2,g4,g65,g66,g67,bZ,a1,e4,atI,atW,dT,VX,Nat.reduceEqDiff,Nat.reduceAdd,Nat.reduceLeDiff,Nat.reduceLT,Nat.reduceSub]
      exact bad _
     |
      some y =>
      rw[HA,xZ] at e4
      obtain⟨hyb,hyl,_⟩:=nD HA
      by_cases hl:(y.length:Int)=(s.b.length:Int)
      case neg =>
       have bad:=bad (by unfold iD;rw[HA];exact if_neg (fun h=>hl (by omega)))
       simp only[fU,g2,g4,g65,g66,g67,bZ,a1,e4,hl,atI,atW,ne_eq,not_false_eq_true,decide_true,dT,VX,Nat.reduceEqDiff,Nat.reduceAdd,Nat.reduceLeDiff,Nat.reduceLT,Nat.reduceSub]
       exact bad _
      have e5:=mJ y 67 (fun q=>decide (q<0)) (fun q _=>A8 q) (by omega)
      cases J6:y.any (fun q=>decide (q<0)) with
      |
       true =>
       rw[J6] at e5
       have bad:=bad (by unfold iD;rw[HA];exact if_neg (fun h=>by rw[J6] at h;cases h.2.1))
       simp only[fU,g2,g4,g65,g66,g67,bZ,a1,e4,e5,hl,atI,atW,ne_eq,not_true_eq_false,decide_false,dT,VX,Nat.reduceEqDiff,Nat.reduceAdd,Nat.reduceLeDiff,Nat.reduceLT,Nat.reduceSub]
       exact bad _
      |
       false =>
       rw[J6] at e5
       obtain⟨q,hq⟩:∃q,y[i]? = some q:=⟨_,aKI (by omega)⟩
       have hqd:y.getD i 0=q:=by rw[aKy,hq];rfl
       have a2:=fun H=>aI (f:=aF) (t := .op) (H:=H) (size:=3) (k := .i64) hq rfl
       have e6:=dJ q
       by_cases hz:jL q=0
       case neg =>
        have bad:=bad (by unfold iD;rw[HA];exact if_neg (fun h=>hz (zF.2 (by rw[←hqd];exact h.2.2))))
        simp only[fU,g2,g4,g65,g66,g67,bZ,a1,a2,e4,e5,e6,hl,hz,atI,atW,bF,ne_eq,not_true_eq_false,not_false_eq_true,decide_false,decide_true,dT,VX,Nat.reduceEqDiff,Nat.reduceAdd,Nat.reduceLeDiff,Nat.reduceLT,Nat.reduceSub]
        exact bad _
       have lT:iD s.g.length i x=some y:=by unfold iD;rw[HA];exact if_pos ⟨by omega,J6,by rw[hqd,zF.1 hz]⟩
       rw[lT] at wU
       have eL:∀K,mW false [.slice none 0 0] 1 [(0,aC aF y)] K=some (.tree [aC aF y] (.cl 1),K):=fun K=>iY rfl rfl rfl
       have eS:∀K,cZ 1 (.tree [aC aF y] (.cl 1)) K=some [aC aF y]:=fun K=>eV rfl rfl
       cases i with
       |
        zero =>
        have ho:out=[]:=aMJ.1 iB
        subst ho
        have eP:∀K:aA,dR 0 1 24 (.tree [] .nil) [aC aF y] K=some (.ref K.length 0 0 1 1,K++[.row 0 [aC aF y] 1 true]):=fun K=>by simp[dR]
        simp only[fU,Xd,g2,g4,g9,g65,g66,g67,bZ,a1,a2,e4,e5,e6,hl,hz,eL,eS,eP,wi,bF,ne_eq,not_true_eq_false,decide_false,aKL,aMe,aL1,aLT,fZ,Nat.reduceLeDiff,Nat.reduceLT,Nat.reduceSub,lU,bT,cK,fI,kA,nR,bne_iff_ne,ne_eq,not_false_eq_true,not_true_eq_false,VX,Nat.reduceEqDiff,Nat.reduceAdd]
        exact⟨1,by omega,by omega,⟨[y],wU,rfl⟩,by (repeat' apply aMh)<;>first | rfl | trivial | assumption⟩
       |
        succ i =>
        have eP:dR 0 1 24 (.ref 2 i 0 (i+1) (i+1)) [aC aF y] (Xd (aC aF w) (aC aF r) (i+1) out)=some (.ref 2 (i+1) 0 (i+2) (i+2),[kR,.row 0 [.agg [aC aF w,.ref 2 i 0 (i+1) (i+1),aC aF r]] 3 true,.row (i+1) ((out++[y]).map (aC aF)) 1 true]):=by
         rw[Xd,jT (f:=aC aF) (xs:=out) (by rw[dZ,dZ,aT]) iB.symm (aK5 _) (by decide) (by decide) (by omega)]
         rfl
        simp only[Xd] at eP
        simp only[fU,Xd,g2,g4,g9,g65,g66,g67,bZ,a1,a2,e4,e5,e6,hl,hz,eL,eS,eP,wi,bF,ne_eq,not_true_eq_false,decide_false,fZ,Nat.reduceLeDiff,Nat.reduceLT,Nat.reduceSub,lU,bT,cK,fI,kA,nR,bne_iff_ne,ne_eq,not_false_eq_true,not_true_eq_false,VX,Nat.reduceEqDiff,Nat.reduceAdd]
        exact⟨i+2,by omega,by omega,⟨out++[y],wU,rfl⟩,by (repeat' apply aMh)<;>first | rfl | trivial | assumption⟩
    ·have mC:i=s.b.length:=by omega
     rw[mC] at wA iB
     obtain⟨k,hk⟩:∃k,s.b.length=k+1:=⟨s.b.length-1,by omega⟩
     have aoB:QC s = .eJ [CE aF w out r,VB (Fp (w,out,r))]:=by unfold QC;rw[Hh,wA];rfl
     rw[aoB]
     have aCv:r.length=s.b.length:=by omega
     have Wn:i=k+1:=by omega
     subst Wn
     have hE:=TE (g:=out) (e:=r) (n:=r.length) (by omega) (by omega) (fun z hz=>by have:=(hof z hz).1;omega) rfl
     have RI:aG (Xd (aC aF w) (aC aF r) (k+1) out) 2 k=some (out.map (aC aF),1,true):=by rw[Xd,dZ,dZ,aT]
     have aiB:=GQ (d:=6) (c:=k+1) (gR ·) RI (by omega)
     rw[iB,hk] at aiB
     have hE2:=fun lo K=>TC.Dq (lo:=lo) (k:=K) (H:=Xd (aC aF w) (aC aF r) (k+1) out) (args:=[.ref 2 k 0 (k+1) (k+1),aC aF r]) hE rfl (Lw (Jb _) (gR _)) (fz2 aiB (aL (gR _))) rfl
     have aDo:[VV.ref 2 k 0 (k+1) (k+1),aC aF r].flatMap (iW depth (Xd (aC aF w) (aC aF r) (k+1) out))=[2]:=by
      rw[List.flatMap_cons,List.flatMap_cons,Kq RI (by rw[List.length_map];omega) (fQ gR),Ek (gR _)]
      rfl
     have aBr:Js (aC (fun b=>VB b) (qF out r r.length r.length))=false:=rfl
     rw[aDo] at hE2
     simp only[aBr,Bool.false_eq_true,if_false] at hE2
     have hfr:dD (Xd (aC aF w) (aC aF r) (k+1) out) [2]=[kR,.row 0 [.agg [aC aF w,.ref 2 k 0 (k+1) (k+1),aC aF r]] 3 true,.row k (out.map (aC aF)) 1 false]:=rfl
     rw[hfr] at hE2
     have hC:=DV (qF out r r.length r.length) (by rw[DX];omega)
     simp only[fU,Xd,g2,g7,g9,g66,g67,bZ,dW,fZ,Nat.reduceLeDiff,Nat.reduceLT,Nat.reduceSub,lU,bT,cK,fI,kA,nR,bne_iff_ne,ne_eq,not_false_eq_true,not_true_eq_false,VX,Nat.reduceEqDiff,Nat.reduceAdd]
     simp only[Xd] at hE2
     have st3:∀K:aA,bL 0 3 (.ptr 0 0 0 0) (.agg [aC aF w,.ref 2 k 0 (k+1) (k+1),aC aF r]) (kR::K)=some (.row 0 [.agg [aC aF w,.ref 2 k 0 (k+1) (k+1),aC aF r]] 3 true::K):=fun K=>by
      unfold kR
      rw[bS (e:=3) aT (by exact aNT) (aKB _) rfl rfl]
      rfl
     have ld3:∀K:aA,bH true 3 (.ptr 0 0 0 0) (.row 0 [.agg [aC aF w,.ref 2 k 0 (k+1) (k+1),aC aF r]] 3 true::K)=some (.agg [aC aF w,.ref 2 k 0 (k+1) (k+1),aC aF r]):=fun K=>by
      rw[bJ,aT]
      rfl
     simp only[hE2,hC,g2,st3,ld3,Bool.not_not,fZ,Nat.reduceLeDiff,Nat.reduceLT,Nat.reduceSub,lU,bT,cK,fI,kA,nR,bne_iff_ne,ne_eq,not_false_eq_true,not_true_eq_false,VX,Nat.reduceEqDiff,Nat.reduceAdd]
     refine bO (d:=6) (He (d:=5) ?_) (aN (v:=VB _) rfl)
     have hf3:=GQ (d:=4) (c:=k+1) (b:=2) (g:=k) (w:=false) (H:=[.row 0 [.agg [aC aF w,.ref 2 k 0 (k+1) (k+1),aC aF r]] 3 true,.row 0 [.agg [aC aF w,.ref 2 k 0 (k+1) (k+1),aC aF r]] 3 true,.row k (out.map (aC aF)) 1 false]) (gR ·) (by rw[dZ,dZ,aT]) (by omega)
     rw[iB,hk] at hf3
     rw[aLY,aN (gR w),aLY,hf3,aLY,aN (gR r)]
     rfl
end Go.PM
namespace Go.PM
structure Lin where
 u:List ByteArray
 d:List ByteArray
 deriving Inhabited
end Go.PM
namespace Go.PM
end Go.PM
namespace Go.PM
open Go.Lib
theorem anE (d:Nat) (h:d≤9223372036854775807):TC 219 [VI (d:Int)] (bD (decDigits d)):=by
 have:=QE (d:Int) (by omega) (by omega)
 rw[if_neg (by omega),aLT,Int.natAbs_natCast] at this
 exact this
theorem aiJ {n i:Nat} (hi:i+1=(aD 1000000000 n).length):n / 1000000000^i=n / 1000000000^i % 1000000000:=by
 have h1:=aeC (b:=1000000000) (by decide) n (i+1)
 rw[List.drop_of_length_le (by omega)] at h1
 have h2:=(nT (b:=1000000000) (by decide)).1 h1.symm
 rw[vP] at h2
 rcases Nat.div_eq_zero_iff.1 h2 with h | h
 ·exact absurd h (by decide)
 ·exact(Nat.mod_eq_of_lt h).symm
theorem MP (l:List UInt8) (a b:Nat):(⟨l.toArray⟩:ByteArray).extract a b=⟨((l.drop a).take (b-a)).toArray⟩:=by
 rw[ByteArray.ext_iff,ByteArray.data_extract]
 simp[List.extract_toArray,List.extract_eq_take_drop]
theorem amY (l:List UInt8) {a b:Nat} (h:a≤b) (hb:b≤l.length):zU (bD l) (some (VI (a:Int))) (some (VI (b:Int)))=some (bD ((l.drop a).take (b-a))):=by
 have hs:(⟨l.toArray⟩:ByteArray).size=l.length:=by simp[ByteArray.size]
 have e1:(0:Int)≤b∧(b:Int)≤(l.length:Int):=by omega
 have e2:(0:Int)≤a∧(a:Int)≤(b:Int):=by omega
 simp only[zU,IA,Cc,hs,fG,e1,e2,and_self,if_true,aLX,MP]
theorem R7 (l:List UInt8) {a:Nat} (h:a≤l.length):zU (bD l) (some (VI (a:Int))) none=some (bD (l.drop a)):=by
 have hs:(⟨l.toArray⟩:ByteArray).size=l.length:=by simp[ByteArray.size]
 have e2:(0:Int)≤a∧(a:Int)≤(l.length:Int):=by omega
 simp only[zU,IA,Cc,hs,fG,e2,and_self,if_true,aLX,MP]
 rw[aLu (by simp)]
theorem aAK (l:List UInt8) (h:1≤l.length):zU (bD l) (some (VI 1)) none=some (bD (l.drop 1)):=R7 l h
theorem acM {a:Nat} (h:a<1000000000):IntKind.i64.wrap ((a:Int)+1000000000)=((a+1000000000:Nat):Int):=wrapN _ (by omega) (by omega)
theorem qJ (n:Nat) (hn:bl n≤2199023255552):TC 208 [cC n] (bD (decDigits n)):=by
 refine TC.walk ⟨true,false⟩ JG rfl (aMp rfl) (by simp[aO,cM]) rfl ?_
 by_cases h0:n=0
 ·subst h0
  have hl:(((aD 1000000000 0).length:Nat):Int)=0:=by rw[cE];rfl
  simp only[Am,wD,cQ,hl,VX,Nat.reduceEqDiff,Nat.reduceAdd]
  rw[kD (by decide)]
  exact aL rfl
 have hl:¬(((aD 1000000000 n).length:Nat):Int)=0:=by have:=(tO (n:=n)).2 h0;omega
 obtain⟨L,hL⟩:∃L,(aD 1000000000 n).length=L+1:=⟨(aD 1000000000 n).length-1,by omega⟩
 have Fm:=pN (n:=n) (by omega)
 have hlT:=avP n
 have hdl:=DK n
 have w1:IntKind.i64.wrap (((L+1:Nat):Int)-1)=(L:Int):=wrapN _ (by omega) (by omega)
 have w2:IntKind.i64.wrap (((L+1:Nat):Int)-2)=(L:Int)-1:=by rw[wrap64 (by omega) (by omega)];omega
 have at':∀i,i≤L→bK 1 (cC n) (VI (i:Int)) []=some (.cJ (tV (n / 1000000000^i % 1000000000)) 0):=fun i hi=>aI (f:=tV) (t := .op) (H:=[]) (size:=1) (k := .i64) (Qc (b:=1000000000) (by decide) (n:=n) (i:=i) (by omega)) rfl
 have eL:=at' L (aKB _)
 have anO:=aiJ (n:=n) (i:=L) (by omega)
 rw[←anO] at eL
 have T3:n / 1000000000^L≠0:=(G0 (b:=1000000000) (by decide)).1 (by omega)
 have hqT:n / 1000000000^L<1000000000:=by rw[anO];exact Nat.mod_lt _ (by decide)
 have c1:=anE (n / 1000000000^L) (by omega)
 rw[hL] at hl
 simp only[Am,wD,cQ,hL,hl,w1,w2,eL,c1,VX,Nat.reduceEqDiff,Nat.reduceAdd]
 refine aP (fun(j:Nat) ρ H=>j≤L∧H=[]∧ρ 0=cC n∧ρ 3=bD (decDigits (n / 1000000000^j))∧ρ 4=VI ((j:Int)-1)) (fun j=>j) L ⟨aKB _,rfl,rfl,rfl,rfl⟩ ?_
 rintro j ρ H ⟨hj,rfl,g0,g3,g4⟩
 by_cases hz:(0:Int)≤(j:Int)-1
 ·obtain⟨i,rfl⟩:∃i,j=i+1:=⟨j-1,by omega⟩
  have Ed:((i+1:Nat):Int)-1=(i:Int):=by omega
  rw[Ed] at g4 hz
  have e1:=at' i (by omega)
  have hm:=Nat.mod_lt (n / 1000000000^i) (show 0<1000000000 by decide)
  have hq1:n / 1000000000^(i+1)≠0:=(G0 (b:=1000000000) (by decide)).1 (by omega)
  have hdm:=Nat.mod_add_div (n / 1000000000^i) 1000000000
  rw[←vP] at hdm
  have hch:=KF (Nat.pos_of_ne_zero hq1) hm
  have hle:n / 1000000000^i≤n:=Nat.div_le_self _ _
  have hdi:=DK (n / 1000000000^i)
  have hbi:=mA hle
  rw[show n / 1000000000^(i+1)*1000000000+n / 1000000000^i % 1000000000=n / 1000000000^i by omega] at hch
  generalize hAA:n / 1000000000^i=A at *
  generalize n / 1000000000^(i+1)=B at *
  have w4:IntKind.i64.wrap ((i:Int)-1)=(i:Int)-1:=wrap64 (by omega) (by omega)
  have c2:=anE (A % 1000000000+1000000000) (by omega)
  rw[asN hm] at c2
  have e2:=aAK (d10 1::Fb 9 (A % 1000000000)) (by simp)
  rw[List.drop_succ_cons,List.drop_zero] at e2
  have hlen:=congrArg List.length hch
  rw[aKM] at hlen
  have a1:=yX (decDigits B) (Fb 9 (A % 1000000000)) (by omega)
  rw[←hch] at a1
  have aEu:i≤L:=by omega
  have hmu:i<i+1:=by omega
  have w3:=acM hm
  simp only[uY,g0,g3,g4,hz,e1,w3,w4,c2,e2,a1,VX,Nat.reduceEqDiff,Nat.reduceAdd]
  refine⟨i,hmu,aEu,?_⟩
  rw[hAA]
  exact⟨rfl,rfl⟩
 ·have Xk:j=0:=by omega
  subst Xk
  rw[Nat.pow_zero,Nat.div_one] at g3
  simp only[uY,g0,g3,g4,hz,VX,Nat.reduceEqDiff,Nat.reduceAdd]
  exact aL rfl
theorem Qg (q:Rat) (hk:aK q≤1099511627776):TC 188 [aM q] (VB (Dp q)):=by
 refine TC.walk ⟨true,false⟩ ON rfl (aMp rfl) (by simp[aO,pX]) rfl ?_
 have la:=uR hk
 have lb:=uM hk
 have t1:=qJ q.num.natAbs (by omega)
 have t2:=qJ q.den (by omega)
 have hf:Dp q=(decide (((decDigits q.num.natAbs).length:Int)≤200)&&decide (((decDigits q.den).length:Int)≤200)):=by
  unfold Dp
  congr 1<;>exact decide_eq_decide.2 (by omega)
 rw[hf]
 by_cases hl:((decDigits q.num.natAbs).length:Int)≤200
 ·simp only[DT,BN,t1,t2,hl,bP,bU,iG,jX,jV,aS,fZ,Nat.reduceLeDiff,Nat.reduceLT,Nat.reduceSub,VX,Nat.reduceEqDiff,Nat.reduceAdd]
  exact aL rfl
 ·simp only[DT,BN,t1,t2,hl,bP,bU,iG,jX,jV,aS,fZ,Nat.reduceLeDiff,Nat.reduceLT,Nat.reduceSub,VX,Nat.reduceEqDiff,Nat.reduceAdd]
  exact aL rfl
theorem OF (q:Rat) (hk:aK q≤1099511627776):TC 189 [aM q] (bD (Pq q)):=by
 refine TC.walk ⟨true,false⟩ O6 rfl (aMp rfl) (by simp[aO,pX]) rfl ?_
 have la:=uR hk
 have lb:=uM hk
 have t1:=qJ q.num.natAbs (by omega)
 have t2:=qJ q.den (by omega)
 have d1:=DK q.num.natAbs
 have d2:=DK q.den
 have c1:∀lo H K,_:=fun lo H K=>NW (n:=q.den) (lo:=lo) (H:=H) (K:=K) (aLi (pN (by omega)))
 have a1:dK .add (.string ⟨#[45]⟩) (.string ⟨(decDigits q.num.natAbs).toArray⟩)=some (.string ⟨(45::decDigits q.num.natAbs).toArray⟩):=yX [45] _ (by simp only[aKL,aMe];omega)
 have a2:dK .add (.string ⟨#[47]⟩) (.string ⟨(decDigits q.den).toArray⟩)=some (.string ⟨(47::decDigits q.den).toArray⟩):=yX [47] (decDigits q.den) (by simp only[aKL,aMe];omega)
 have a3:=yX (45::decDigits q.num.natAbs) (47::decDigits q.den) (by simp only[aKL];omega)
 have a4:=yX (decDigits q.num.natAbs) (47::decDigits q.den) (by simp only[aKL];omega)
 have hs:Pq q=(if q.num<0 then (45::decDigits q.num.natAbs) else decDigits q.num.natAbs)++(if q.den=1 then [] else 47::decDigits q.den):=by
  unfold Pq
  by_cases hn:q.num<0
  ·rw[if_pos hn,if_pos hn];rfl
  ·rw[if_neg hn,if_neg hn];rfl
 rw[hs]
 by_cases hd:gH q.den 1=0
 ·rw[if_pos (AP.1 hd),List.append_nil]
  by_cases hn:q.num<0
  all_goals
   simp only[D6,A6,t1,t2,a1,a2,a3,a4,c1,hd,hn,eT,bU,iG,jX,jV,aS,fZ,Nat.reduceLeDiff,Nat.reduceLT,Nat.reduceSub,VX,Nat.reduceEqDiff,Nat.reduceAdd]
   exact aL rfl
 ·rw[if_neg (mt AP.2 hd)]
  by_cases hn:q.num<0
  all_goals
   simp only[D6,A6,t1,t2,a1,a2,a3,a4,c1,hd,hn,eT,bU,iG,jX,jV,aS,fZ,Nat.reduceLeDiff,Nat.reduceLT,Nat.reduceSub,VX,Nat.reduceEqDiff,Nat.reduceAdd]
   exact aL rfl
theorem O7 (q:Rat) (hk:aK q≤1099511627776):TC 171 [aM q] (B3 q):=by
 refine TC.walk ⟨true,false⟩ Pb rfl (aMp rfl) (by simp[aO,pX]) (G1 q) ?_
 have t1:=Qg q hk
 have t2:=OF q hk
 unfold B3
 by_cases h:Dp q=true
 ·rw[h] at t1
  rw[if_pos h]
  simp only[D8,A9,t1,t2,bU,cI,gO,aS,fZ,Nat.reduceLeDiff,Nat.reduceLT,Nat.reduceSub,VX,Nat.reduceEqDiff,Nat.reduceAdd]
  exact aL rfl
 ·have h':Dp q=false:=by simpa using h
  rw[h'] at t1
  rw[if_neg h]
  simp only[D8,A9,t1,bU,cI,gO,aS,fZ,Nat.reduceLeDiff,Nat.reduceLT,Nat.reduceSub,VX,Nat.reduceEqDiff,Nat.reduceAdd]
  exact aL rfl
end Go.PM
namespace Go.PM
open Go.Lib
def jG (c:UInt8):List UInt8→List (List UInt8)
 | []=>[[]]
 |
  x::r=>if x=c then []::jG c r else match jG c r with
  | []=>[[x]]
  | a::t=>(x::a)::t
theorem PH {c:UInt8} {r:List UInt8}:∀ {a:List UInt8},c∉a→jG c (a++c::r)=a::jG c r:=by
 intro a
 induction a with
 | nil=>intro _;rw[aLT,jG,if_pos rfl]
 |
  cons x a ih =>
  intro h
  rw[List.mem_cons,not_or] at h
  rw[aL1,jG,if_neg (fun he=>h.1 he.symm),ih h.2]
theorem Ii {c:UInt8}:∀ {a:List UInt8},c∉a→jG c a=[a]:=by
 intro a
 induction a with
 | nil=>intro _;rfl
 |
  cons x a ih =>
  intro h
  rw[List.mem_cons,not_or] at h
  rw[jG,if_neg (fun he=>h.1 he.symm),ih h.2]
theorem Xz {c:UInt8} (l:List UInt8):jG c l≠[]:=by
 cases l with
 | nil=>simp[jG]
 |
  cons x r =>
  rw[jG]
  split
  ·simp
  ·split<;>simp
theorem Wd {c:UInt8} {l:List UInt8} (h:(oJ c l).2=none):jG c l=[l]:=Ii (Ds h).2.2
theorem Mx {c:UInt8} {l r:List UInt8} (h:(oJ c l).2=some r):jG c l=(oJ c l).1::jG c r:=by
 obtain⟨_,h2,h3⟩:=Lg h
 have:=PH (r:=r) h3
 rw[←h2] at this
 exact this
theorem Um {c:UInt8} {l:List UInt8} (h:c∈l):2≤(jG c l).length:=by
 cases hc:(oJ c l).2 with
 | none=>exact absurd h (Ds hc).2.2
 |
  some r =>
  rw[Mx hc,aKL]
  have:=aNz.2 (Xz (c:=c) r)
  omega
theorem acJ {l:List UInt8} {i:Nat} (h:i<l.length):(l.take (i+1)).all jQ=((l.take i).all jQ&&jQ (l.getD i 0)):=by
 rw[aMr,List.all_append]
 have:l[i]? = some (l.getD i 0):=by rw[aKI h,aKy,aKI h];rfl
 rw[this]
 simp
set_option maxHeartbeats 1000000 in
theorem sO (l:List UInt8) (hl:l.length≤1000000000000):TC 168 [bD l] (VB (jK l)):=by
 refine TC.walk ⟨true,false⟩ Ku rfl (aMp rfl) rfl rfl ?_
 simp only[Gj,C8,VX,Nat.reduceEqDiff,Nat.reduceAdd]
 refine aP (fun(i:Nat) ρ H=>i≤l.length∧H=[]∧(l.take i).all jQ=true∧ρ 0=bD l∧ρ 3=VI i) (fun i=>l.length-i) 0 ⟨aK5 _,rfl,rfl,rfl,rfl⟩ ?_
 rintro i ρ H ⟨hi,rfl,hd,g0,g3⟩
 by_cases bZ:(i:Int)<(l.length:Int)
 ·have YO:i<l.length:=by omega
  have e1:=Ga l YO
  have wi:IntKind.i64.wrap ((i:Int)+1)=((i+1:Nat):Int):=wrapN (i+1) (by omega) (by omega)
  have ht:=acJ YO
  rw[hd,aOd] at ht
  have Xv:jQ (l.getD i 0)=(decide (48≤(l.getD i 0).toNat)&&decide ((l.getD i 0).toNat≤57)):=rfl
  have jP:jQ (l.getD i 0)=false→jK l=false:=by
   intro h
   rw[h] at ht
   have:l.all jQ=false:=by rw[←aLK (i+1) l,List.all_append,ht,Bool.false_and]
   unfold jK
   rw[this]
   rfl
  generalize (l.getD i 0).toNat=c at *
  by_cases q1:(c:Int)<48
  ·rw[jP (by rw[Xv,decide_eq_false (by omega)];rfl)]
   simp only[eO,g0,g3,bP,bZ,e1,q1,VX,Nat.reduceEqDiff,Nat.reduceAdd]
   exact aL rfl
  ·by_cases q2:(57:Int)<(c:Int)
   ·rw[jP (by rw[Xv,decide_eq_false (show ¬c≤57 by omega),Bool.and_false])]
    simp only[eO,g0,g3,bP,bZ,e1,q1,q2,VX,Nat.reduceEqDiff,Nat.reduceAdd]
    exact aL rfl
   ·rw[Xv,decide_eq_true (by omega),decide_eq_true (by omega),aLZ] at ht
    simp only[eO,g0,g3,bP,bZ,e1,q1,q2,wi,VX,Nat.reduceEqDiff,Nat.reduceAdd]
    exact⟨i+1,by omega,by omega,ht,rfl⟩
 ·have mC:i=l.length:=by omega
  subst mC
  rw[aLO] at hd
  by_cases h1:(1:Int)≤(l.length:Int)
  ·by_cases h2:(l.length:Int)≤200
   ·by_cases h3:(l.length:Int)=1
    ·rw[lI.2 ⟨hd,by omega,by omega,.inl (by omega)⟩]
     simp only[eO,g0,g3,bP,bZ,ge_iff_le,h1,h2,h3,Int.reduceLE,Int.reduceLT,VX,Nat.reduceEqDiff,Nat.reduceAdd]
     exact aL rfl
    ·have e1:=KW l (by omega)
     by_cases h4:(((l.getD 0 0).toNat:Int)=48)
     ·have hk:jK l=false:=by
       cases h:jK l with
       | false=>rfl
       |
        true =>
        rcases(lI.1 h).2.2.2 with h5 | h5
        ·omega
        ·exact absurd (UInt8.toNat_inj.1 (by rw[show (48:UInt8).toNat=48 from rfl];omega)) h5
      rw[hk]
      simp only[eO,g0,g3,bP,bZ,ge_iff_le,h1,h2,h3,h4,e1,VX,Nat.reduceEqDiff,Nat.reduceAdd]
      exact aL rfl
     ·have h5:l.getD 0 0≠48:=fun h=>h4 (by rw[h];rfl)
      rw[lI.2 ⟨hd,by omega,by omega,.inr h5⟩]
      simp only[eO,g0,g3,bP,bZ,ge_iff_le,h1,h2,h3,h4,e1,VX,Nat.reduceEqDiff,Nat.reduceAdd]
      exact aL rfl
   ·have hk:jK l=false:=by
     cases h:jK l with
     | false=>rfl
     | true=>have:=(lI.1 h).2.2.1;omega
    rw[hk]
    simp only[eO,g0,g3,bP,bZ,ge_iff_le,h1,h2,VX,Nat.reduceEqDiff,Nat.reduceAdd]
    exact aL rfl
  ·have hk:jK l=false:=by
    cases h:jK l with
    | false=>rfl
    | true=>have:=(lI.1 h).2.1;omega
   rw[hk]
   simp only[eO,g0,g3,bP,bZ,ge_iff_le,h1,VX,Nat.reduceEqDiff,Nat.reduceAdd]
   exact aL rfl
set_option maxHeartbeats 1000000 in
theorem HT (l:List UInt8) (c:UInt8) (hl:l.length≤1000000000000):TC 167 [bD l,.sc (.int .u8 (c.toNat:Int))] (aC bD (jG c l)):=by
 refine TC.walk ⟨true,false⟩ Qw rfl (aMp rfl) rfl (zY (size:=1) (fun _=>rfl) (fun _=>rfl) fun _=>rfl) ?_
 have e3:∀lr,mW lr [.string ⟨#[]⟩] 0 [] []=some (.ref 0 0 0 0 0,[.row 0 (([]:List (List UInt8)).map bD) 1 true]):=fun lr=>mX (H:=[]) (lr:=lr) (z:=[.string ⟨#[]⟩]) rfl
 have e4:∀(x:List UInt8) (H:aA),mW false [.string ⟨#[]⟩] 1 [(0,bD x)] H=some (.tree [bD x] (.cl 1),H):=fun x H=>iY (z:=[.string ⟨#[]⟩]) rfl rfl rfl
 have e5:∀(x:List UInt8) (H:aA),cZ 1 (.tree [bD x] (.cl 1)) H=some [bD x]:=fun x H=>eV rfl rfl
 simp only[Mc,Hv,e3,VX,Nat.reduceEqDiff,Nat.reduceAdd]
 refine aP (fun(s:List (List UInt8)×Nat×Nat) ρ H=>H=[.row s.1.length (s.1.map bD) 1 true]∧s.2.1≤s.2.2∧s.2.2≤l.length+1∧s.1.length≤s.2.1 ∧
  ((s.2.2≤l.length∧jG c l=s.1++jG c (l.drop s.2.1)∧c∉(l.drop s.2.1).take (s.2.2-s.2.1))∨(s.2.2=l.length+1∧jG c l=s.1)) ∧
  ρ 0=bD l∧ρ 1 = .sc (.int .u8 (c.toNat:Int))∧ρ 5 = .ref 0 s.1.length 0 s.1.length s.1.length∧ρ 6=VI s.2.1∧ρ 7=VI s.2.2) (fun s=>l.length+1-s.2.2) ([],0,0) ⟨rfl,aK5 _,aK5 _,aK5 _,.inl ⟨aK5 _,rfl,by simp⟩,rfl,rfl,rfl,rfl,rfl⟩ ?_
 rintro⟨out,fr,i⟩ ρ H ⟨rfl,hfi,hi,iB,wU,g0,g1,g5,g6,g7⟩
 simp only at hfi hi iB wU g5 g6 g7
 by_cases bZ:(i:Int)≤(l.length:Int)
 ·have YO:i≤l.length:=by omega
  obtain⟨hp,hc⟩:jG c l=out++jG c (l.drop fr)∧c∉(l.drop fr).take (i-fr):=by
   rcases wU with⟨_,h1,h2⟩ | ⟨h,_⟩
   ·exact⟨h1,h2⟩
   ·omega
  have wi:IntKind.i64.wrap ((i:Int)+1)=((i+1:Nat):Int):=wrapN (i+1) (by omega) (by omega)
  have e2:=amY l hfi YO
  have eP:=jT (f:=bD) (xs:=out) (x:=(l.drop fr).take (i-fr)) (lo:=0) (b:=0) (g:=out.length) (n:=out.length) (e:=1) (bytes:=16) (H:=[.row out.length (out.map bD) 1 true]) aT rfl (aK5 _) (by decide) (by decide) (by omega)
  have Lb:([.row out.length (out.map bD) 1 true]:aA).set 0 (.row (out.length+1) ((out++[(l.drop fr).take (i-fr)]).map bD) 1 true)=[.row (out.length+1) ((out++[(l.drop fr).take (i-fr)]).map bD) 1 true]:=rfl
  rw[Lb] at eP
  by_cases q1:i=l.length
  ·subst q1
   have anC:jG c l=out++[(l.drop fr).take (l.length-fr)]:=by
    rw[hp]
    have:(l.drop fr).take (l.length-fr)=l.drop fr:=aLu (by rw[aM2];omega)
    rw[this] at hc ⊢
    rw[Ii hc]
   simp only[sC,g0,g1,g5,g6,g7,bP,bZ,eq_self,e2,e4,e5,eP,wi,VX,Nat.reduceEqDiff,Nat.reduceAdd]
   refine⟨(out++[(l.drop fr).take (l.length-fr)],l.length+1,l.length+1),by simp only;omega,?_,by simp only;omega,by simp only;omega,?_,.inr ⟨rfl,anC⟩,?_⟩
   ·simp
   ·simp only[aKM,aKL,aMe];omega
   ·simp
  ·have atA:i<l.length:=by omega
   have q1':¬(i:Int)=(l.length:Int):=by omega
   have e1:=Ga l atA
   have hgd:l.drop i=l.getD i 0::l.drop (i+1):=by rw[List.drop_eq_getElem_cons atA,aKy,aKI atA];rfl
   by_cases q2:l.getD i 0=c
   ·have q2':((l.getD i 0).toNat:Int)=(c.toNat:Int):=by rw[q2]
    have anC:jG c l=(out++[(l.drop fr).take (i-fr)])++jG c (l.drop (i+1)):=by
     have VO:l.drop fr=(l.drop fr).take (i-fr)++c::l.drop (i+1):=by
      have h1:(l.drop fr).drop (i-fr)=l.drop i:=by rw[List.drop_drop];congr 1;omega
      conv=>lhs;rw[←aLK (i-fr) (l.drop fr),h1,hgd,q2]
     rw[hp]
     conv=>lhs;rw[VO]
     rw[PH hc,aMn]
     rfl
    simp only[sC,g0,g1,g5,g6,g7,bP,bZ,q1',e1,q2',eq_self,e2,e4,e5,eP,wi,VX,Nat.reduceEqDiff,Nat.reduceAdd]
    refine⟨(out++[(l.drop fr).take (i-fr)],i+1,i+1),by simp only;omega,?_,by simp only;omega,by simp only;omega,?_,.inl ⟨by simp only;omega,anC,by simp⟩,?_⟩
    ·simp
    ·simp only[aKM,aKL,aMe];omega
    ·simp
   ·have q2':¬((l.getD i 0).toNat:Int)=(c.toNat:Int):=fun h=>q2 (UInt8.toNat_inj.1 (by omega))
    simp only[sC,g0,g1,g5,g6,g7,bP,bZ,q1',e1,q2',wi,VX,Nat.reduceEqDiff,Nat.reduceAdd]
    refine⟨(out,fr,i+1),by simp only;omega,rfl,by simp only;omega,by simp only;omega,iB,.inl ⟨by simp only;omega,hp,?_⟩,rfl,rfl,rfl⟩
    simp only
    rw[show i+1-fr=(i-fr)+1 by omega,aMr,aLx,not_or]
    refine⟨hc,?_⟩
    have:(l.drop fr)[i-fr]? = some (l.getD i 0):=by
     rw[List.getElem?_drop,show fr+(i-fr)=i by omega,aKy,aKI atA]
     rfl
    rw[this]
    simp
    exact fun h=>q2 h.symm
 ·have anC:jG c l=out:=by
   rcases wU with⟨h,_⟩ | ⟨_,h⟩
   ·omega
   ·exact h
  rw[anC]
  simp only[sC,g0,g5,g7,bP,bZ,VX,Nat.reduceEqDiff,Nat.reduceAdd]
  exact II (es:=out.map bD) aT (by simp) (aKB _) (fQ fun _=>rfl)
theorem aiZ {l:List UInt8} (h:l.all jQ=true) {i:Nat} (hi:i<l.length):48≤(l.getD i 0).toNat∧(l.getD i 0).toNat≤57:=by
 have:=aKP.1 h (l.getD i 0) (by rw[aKy,aKI hi];exact List.getElem_mem hi)
 simpa[jQ] using this
theorem Oa {l:List UInt8} (hd:l.all jQ=true) (hl:l.length≤1000000000000) {fr tq:Nat} (hft:fr≤tq) (h9:tq-fr≤9) (htl:tq≤l.length) {H:aA} {lo:Nat} {ρ:cW} {Q:VQ} (h0:ρ 0=bD l) (h4:ρ 4=VI tq) (h6:ρ 6=VI 0) (h7:ρ 7=VI fr)
  (hQ:∀aQ,(∀t,t<6→aQ t=ρ t)→aQ 6=VI (cA ((l.drop fr).take (tq-fr)))→Q .normal aQ H):VW ⟨true,false⟩ lo (.loop pG) (tH 2 Q) ρ H:=by
 refine aP (fun(i:Nat) aQ H'=>fr≤i∧i≤tq∧H'=H∧(∀t,t<6→aQ t=ρ t)∧aQ 6=VI (cA ((l.drop fr).take (i-fr)))∧aQ 7=VI i) (fun i=>tq-i) fr ⟨aKB _,hft,rfl,fun _ _=>rfl,by rw[h6,Nat.sub_self];rfl,h7⟩ ?_
 rintro i aQ H' ⟨hfi,hi,rfl,hk,g6,g7⟩
 have g0:=(hk 0 (by decide)).trans h0
 have g4:=(hk 4 (by decide)).trans h4
 by_cases bZ:(i:Int)<(tq:Int)
 ·have YO:i<l.length:=by omega
  have e1:=Ga l YO
  obtain⟨c1,c2⟩:=aiZ hd YO
  have wi:IntKind.i64.wrap ((i:Int)+1)=((i+1:Nat):Int):=wrapN (i+1) (by omega) (by omega)
  have hcd:((l.drop fr).take (i-fr)).all jQ=true:=by
   rw[aKP] at hd ⊢
   exact fun x hx=>hd x (aLz (aLy hx))
  have bI:=Ko hcd
  rw[aMa,aM2,Nat.min_eq_left (by omega)] at bI
  have hp9:10^(i-fr)≤10^8:=aME (by decide) (by omega)
  have e8:(10:Nat)^8=100000000:=by decide
  have pO:cA ((l.drop fr).take (i+1-fr))=cA ((l.drop fr).take (i-fr))*10+dv (l.getD i 0):=by
   have:(l.drop fr)[i-fr]? = some (l.getD i 0):=by
    rw[List.getElem?_drop,show fr+(i-fr)=i by omega,aKy,aKI YO]
    rfl
   rw[show i+1-fr=(i-fr)+1 by omega,aMr,this]
   exact acH _ _
  have hdv:dv (l.getD i 0)=(l.getD i 0).toNat-48:=rfl
  rw[hdv] at pO
  generalize (l.getD i 0).toNat=c at *
  generalize cA ((l.drop fr).take (i-fr))=D at *
  have w1:IntKind.i64.wrap (10*(D:Int))=((10*D:Nat):Int):=wrapN _ (by omega) (by omega)
  have w2:IntKind.u8.wrap ((c:Int)-48)=((c-48:Nat):Int):=by
   simp[IntKind.wrap,IntKind.bits,IntKind.signed]
   omega
  have w3:IntKind.i64.wrap ((c-48:Nat):Int)=((c-48:Nat):Int):=wrapN _ rfl (by omega)
  have w4:IntKind.i64.wrap (((10*D:Nat):Int)+((c-48:Nat):Int))=((D*10+(c-48):Nat):Int):=wrapN _ (by omega) (by omega)
  simp only[pG,g0,g4,g6,g7,bZ,e1,w1,w2,w3,w4,wi,VX,Nat.reduceEqDiff,Nat.reduceAdd]
  refine⟨i+1,by omega,by omega,by omega,fun t ht => ?_,by rw[pO],rfl⟩
  try simp only[zX]
  repeat rw[if_neg (by omega)]
  exact hk t ht
 ·have mC:i=tq:=by omega
  subst mC
  simp only[pG,g4,g7,bZ,VX,Nat.reduceEqDiff,Nat.reduceAdd]
  refine hQ _ (fun t ht => ?_) ?_
  ·try simp only[zX]
   repeat rw[if_neg (by omega)]
   exact hk t ht
  ·simp only[g6,VX,Nat.reduceEqDiff,Nat.reduceAdd]
set_option maxHeartbeats 1000000 in
theorem wI (l:List UInt8) (hd:l.all jQ=true) (hl:l.length≤1000000000):TC 169 [bD l] (cC (cA l)):=by
 refine TC.walk ⟨true,false⟩ Kj rfl (aMp rfl) rfl (pU _) ?_
 have e3:∀lr,mW lr [.int .i64 0] 0 [] []=some (.ref 0 0 0 0 0,[.row 0 (([]:List Nat).map tV) 1 true]):=fun lr=>mX (H:=[]) (lr:=lr) (z:=[.int .i64 0]) rfl
 have e4:∀(x:Nat) (H:aA),mW false [.int .i64 0] 1 [(0,tV x)] H=some (.tree [tV x] (.cl 1),H):=fun x H=>iY (z:=[.int .i64 0]) rfl rfl rfl
 have e5:∀(x:Nat) (H:aA),cZ 1 (.tree [tV x] (.cl 1)) H=some [tV x]:=fun x H=>eV rfl rfl
 simp only[EY,Cg,e3,bP,VX,Nat.reduceEqDiff,Nat.reduceAdd]
 refine aP (fun(s:List Nat×Int) ρ H=>H=[.row s.1.length (s.1.map tV) 1 true]∧s.2≤l.length ∧ -9≤s.2∧s.1.length+s.2.toNat≤l.length∧(∀d∈s.1,d<1000000000)∧cA l=val 1000000000 s.1+1000000000^s.1.length*cA (l.take s.2.toNat) ∧
  ρ 0=bD l∧ρ 3 = .ref 0 s.1.length 0 s.1.length s.1.length∧ρ 4=VI s.2) (fun s=>s.2.toNat) ([],(l.length:Int)) ⟨rfl,Int.le_refl _,by simp only;omega,by simp,by simp,?_,rfl,rfl,rfl⟩ ?_
 ·simp only[aLX,aLO,aMe,Nat.pow_zero,Nat.one_mul,val,aL9]
 rintro⟨out,z⟩ ρ H ⟨rfl,hz,hz9,iB,hds,hv,g0,g3,g4⟩
 simp only at hz hz9 iB hds hv g3 g4
 by_cases jZ:0<z
 ·obtain⟨tq,rfl⟩:∃tq:Nat,z=tq:=⟨z.toNat,by omega⟩
  rw[aLX] at iB hv
  have hto:0<tq:=by omega
  have key:∀fr:Nat,fr≤tq→tq-fr≤9→cA (l.take tq)=cA (l.take fr)*10^(tq-fr)+cA ((l.drop fr).take (tq-fr))∧cA ((l.drop fr).take (tq-fr))<1000000000:=by
   intro fr h1 h2
   have hcd:((l.drop fr).take (tq-fr)).all jQ=true:=by
    rw[aKP] at hd ⊢
    exact fun x hx=>hd x (aLz (aLy hx))
   have hlen:((l.drop fr).take (tq-fr)).length=tq-fr:=by rw[aMa,aM2];omega
   constructor
   ·have:=List.take_add (l:=l) (i:=fr) (j:=tq-fr)
    rw[show fr+(tq-fr)=tq by omega] at this
    rw[this,PE,hlen]
   ·have:=Ko hcd
    rw[hlen] at this
    exact Nat.lt_of_lt_of_le this (Nat.le_trans (aME (by decide) h2) (by decide))
  have eP:=fun X=>jT (f:=tV) (xs:=out) (x:=X) (lo:=0) (b:=0) (g:=out.length) (n:=out.length) (e:=1) (bytes:=8) (H:=[.row out.length (out.map tV) 1 true]) aT rfl (aK5 _) (by decide) (by decide) (by omega)
  have Lb:∀X,([.row out.length (out.map tV) 1 true]:aA).set 0 (.row (out.length+1) ((out++[X]).map tV) 1 true)=[.row (out.length+1) ((out++[X]).map tV) 1 true]:=fun _=>rfl
  simp only[Lb] at eP
  by_cases h9:(9:Int)<(tq:Int)
  ·obtain⟨k1,k2⟩:=key (tq-9) (by omega) (by omega)
   have wz:IntKind.i64.wrap ((tq:Int)-9)=((tq-9:Nat):Int):=wrapN _ (by omega) (by omega)
   rw[show tq-(tq-9)=9 by omega] at k1 k2
   rw[show (10:Nat)^9=1000000000 by decide] at k1
   simp only[oU,g0,g3,g4,jZ,h9,wz,VX,Nat.reduceEqDiff,Nat.reduceAdd]
   refine Oa (l:=l) hd (by omega) (fr:=tq-9) (tq:=tq) (by omega) (by omega) (by omega) ?_ ?_ ?_ ?_ fun AS q q6 => ?_
   all_goals first | (simp only[g0,g4,VX,Nat.reduceEqDiff,Nat.reduceAdd];done) | skip
   rw[show tq-(tq-9)=9 by omega] at q6
   have u3:AS 3 = .ref 0 out.length 0 out.length out.length:=by rw[q 3 (by decide)];simp only[g3,VX,Nat.reduceEqDiff,Nat.reduceAdd]
   have u0:AS 0=bD l:=by rw[q 0 (by decide)];simp only[g0,VX,Nat.reduceEqDiff,Nat.reduceAdd]
   have u4:AS 4=VI tq:=by rw[q 4 (by decide)];simp only[g4,VX,Nat.reduceEqDiff,Nat.reduceAdd]
   generalize cA ((l.drop (tq-9)).take 9)=X at *
   have e4:=e4 X
   have e5:=e5 X
   have eP:=eP X
   simp only[u0,u3,u4,q6,e4,e5,eP,wz,VX,Nat.reduceEqDiff,Nat.reduceAdd]
   refine⟨(out++[X],((tq-9:Nat):Int)),by simp only;omega,?_,by simp only;omega,by simp only;omega,?_,?_,?_,?_⟩
   ·simp
   ·simp only[aKM,aKL,aMe];omega
   ·intro d hdm
    rcases aLx.1 hdm with h | h
    ·exact hds d h
    ·rw[aLH] at h;omega
   ·simp only[aLX]
    rw[hv,k1,vY,aKM,List.length_singleton,Nat.pow_succ]
    grind
   ·simp
  ·obtain⟨k1,k2⟩:=key 0 (by omega) (by omega)
   rw[aNQ,PF,Nat.zero_mul,aL9,aOe] at k1
   rw[aOe] at k2
   have wz:IntKind.i64.wrap ((tq:Int)-9)=(tq:Int)-9:=wrap64 (by omega) (by omega)
   simp only[oU,g0,g3,g4,jZ,h9,VX,Nat.reduceEqDiff,Nat.reduceAdd]
   refine Oa (l:=l) hd (by omega) (fr:=0) (tq:=tq) (by omega) (by omega) (by omega) ?_ ?_ ?_ ?_ fun AS q q6 => ?_
   all_goals first | (simp only[g0,g4,VX,Nat.reduceEqDiff,Nat.reduceAdd];done) | (simp only[VX,Nat.reduceEqDiff,Nat.reduceAdd];rfl) | skip
   rw[aOe] at q6
   have u3:AS 3 = .ref 0 out.length 0 out.length out.length:=by rw[q 3 (by decide)];simp only[g3,VX,Nat.reduceEqDiff,Nat.reduceAdd]
   have u0:AS 0=bD l:=by rw[q 0 (by decide)];simp only[g0,VX,Nat.reduceEqDiff,Nat.reduceAdd]
   have u4:AS 4=VI tq:=by rw[q 4 (by decide)];simp only[g4,VX,Nat.reduceEqDiff,Nat.reduceAdd]
   generalize cA ((l.drop 0).take tq)=X at *
   have e4:=e4 X
   have e5:=e5 X
   have eP:=eP X
   simp only[u0,u3,u4,q6,e4,e5,eP,wz,VX,Nat.reduceEqDiff,Nat.reduceAdd]
   refine⟨(out++[X],(tq:Int)-9),by simp only;omega,?_,by simp only;omega,by simp only;omega,?_,?_,?_,?_⟩
   ·simp
   ·simp only[aKM,aKL,aMe];omega
   ·intro d hdm
    rcases aLx.1 hdm with h | h
    ·exact hds d h
    ·rw[aLH] at h;omega
   ·simp only
    rw[show ((tq:Int)-9).toNat=0 by omega,aNQ,PF,Nat.mul_zero,Nat.add_zero,hv,k1,vY]
   ·simp
 ·have h0:z.toNat=0:=by omega
  rw[h0,aNQ,PF,Nat.mul_zero,Nat.add_zero] at hv
  rw[hv]
  have ct:=TC.asV (f:=tV) (xs:=out) (size:=1) (e:=1) (w:=true) (H:=[.row out.length (out.map tV) 1 true]) (b:=0) (gn:=out.length) (n:=out.length) (c:=out.length) (vU out hds (by show out.length≤70368744177664;omega)) aT rfl (aKB _) IM (fun _=>rfl) rfl rfl
  simp only[oU,g0,g3,g4,jZ,ct,VX,Nat.reduceEqDiff,Nat.reduceAdd]
  exact aL (cM _)
end Go.PM
namespace Go.PM
open Go.Lib
def Gg (l:List UInt8):VV:=match Bu l with
 | some q => .eJ [aM q,VB true]
 | none => .eJ [Pr,VB false]
theorem Bz (q:Rat):bA (aM q)=true:=by simp[aM,bA,aO,cM,qE]
theorem Sf (q:Rat):hJ (aM q)=true:=by simp[aM,hJ,sR,pU,qE]
theorem XW (l:List UInt8):hJ (Gg l)=true:=by
 unfold Gg
 split<;>simp[hJ,sR,Sf,WV,qE]
theorem Og {neg:Bool} {t b:Nat} (hb:b≠0) (hg:aNj t b=1) (hn:¬(neg=true∧t=0)):aM (mkRat (mH neg t) b) = .agg [VB neg,cC t,cC b]:=by
 obtain⟨e1,e2⟩:=MR (neg:=neg) hb hg
 refine NJ ?_ (by rw[e1,qK]) e2
 rw[e1]
 cases neg with
 | false=>unfold mH;simp
 |
  true =>
  have:t≠0:=fun h=>hn ⟨rfl,h⟩
  unfold mH
  simp
  omega
theorem G7 {n:Nat}:(((aD 1000000000 n).length:Nat):Int)=0↔n=0:=by
 rw[←nT (b:=1000000000) (n:=n) (by decide),←aMJ]
 omega
theorem Wl {neg:Bool} {d t:List UInt8} (h:(47:UInt8)∈t):sB neg d (some t)=none:=by
 have ht:jK t=false:=by
  cases hk:jK t with
  | false=>rfl
  | true=>exact absurd h (anL (lI.1 hk).1)
 unfold sB
 split
 ·rfl
 ·simp only
  rw[if_neg (fun h=>by rw[ht] at h;exact absurd h.1 (by decide))]
theorem at_one (x:List UInt8) (H:aA):bK 1 (aC bD [x]) (VI 0) H=some (.cJ (bD x) 0):=aI (f:=bD) (t := .op) (H:=H) (size:=1) (k := .i64) (xs:=[x]) (i:=0) rfl rfl
theorem arC (x y:List UInt8) (H:aA):bK 1 (aC bD [x,y]) (VI 0) H=some (.cJ (bD x) 0):=aI (f:=bD) (t := .op) (H:=H) (size:=1) (k := .i64) (xs:=[x,y]) (i:=0) rfl rfl
theorem arV (x y:List UInt8) (H:aA):bK 1 (aC bD [x,y]) (VI 1) H=some (.cJ (bD y) 0):=aI (f:=bD) (t := .op) (H:=H) (size:=1) (k := .i64) (xs:=[x,y]) (i:=1) rfl rfl
theorem abG (x:List UInt8) (H:aA):rL (aC bD [x]) H=some (VI 1):=eW (f:=bD) (xs:=[x])
theorem arR (x y:List UInt8) (H:aA):rL (aC bD [x,y]) H=some (VI 2):=eW (f:=bD) (xs:=[x,y])
set_option maxRecDepth 100000 in
set_option maxHeartbeats 4000000 in
theorem MZ (l:List UInt8) (hl:l.length≤1000000000):TC 110 [bD l] (Gg l):=by
 refine TC.walk ⟨true,false⟩ MY rfl (aMp rfl) rfl (XW l) ?_
 by_cases Ct:l=[]
 ·subst Ct
  have eC:TC 167 [.sc (.string ⟨#[]⟩),.sc (.int .u8 47)] (aC bD [[]]):=HT [] 47 (by simp)
  have eD:TC 168 [.sc (.string ⟨#[]⟩)] (VB false):=sO [] (by simp)
  have e1:Dk (.string ⟨#[]⟩)=some (.int .i64 0):=rfl
  have a1:=at_one []
  have a2:=abG []
  simp only[cG,bM,e1,eC,eD,a1,a2,Int.reduceLT,Int.reduceLE,aH,fZ,Nat.reduceLeDiff,Nat.reduceLT,Nat.reduceSub,VX,Nat.reduceEqDiff,Nat.reduceAdd]
  exact bO (d:=6) iI (aN (v:=VB false) rfl)
 have hp:0<l.length:=aNz.2 Ct
 have jZ:(0:Int)<(l.length:Int):=by omega
 have e0:=KW l hp
 unfold Gg
 unfold Bu
 have mI:isNeg l=decide (((l.getD 0 0).toNat:Int)=45):=by
  unfold isNeg
  rw[decide_eq_true (show 1≤l.length from hp),aOd]
  refine decide_eq_decide.2 ⟨fun h=>by rw[h];rfl,fun h=>UInt8.toNat_inj.1 (by rw[show (45:UInt8).toNat=45 from rfl];omega)⟩
 have Xb:(if isNeg l=true then l.drop 1 else l).length≤l.length:=by split<;>simp
 have q0:isNeg l=false→¬((l.getD 0 0).toNat:Int)=45:=fun h=>by rw[mI] at h;exact of_decide_eq_false h
 have q9:isNeg l=true→((l.getD 0 0).toNat:Int)=45:=fun h=>by rw[mI] at h;exact of_decide_eq_true h
 have r0:isNeg l=false→(if isNeg l=true then l.drop 1 else l)=l:=fun h=>by rw[h];rfl
 have r9:isNeg l=true→zU (bD l) (some (VI 1)) none=some (bD (if isNeg l=true then l.drop 1 else l)):=fun h=>by rw[h];exact R7 l (a:=1) hp
 generalize (if isNeg l=true then l.drop 1 else l)=r at *
 generalize isNeg l=neg at *
 clear mI
 have eC:TC 167 [bD r,.sc (.int .u8 47)] (aC bD (jG 47 r)):=HT r 47 (by omega)
 obtain⟨l1,l2⟩:=W6 (c:=47) (l:=r)
 cases hs:(oJ 47 r).2 with
 |
  none =>
  have hd:=(Ds hs).2.1
  rw[Wd hs] at eC
  rw[hd]
  have a1:=at_one r
  have a2:=abG r
  have eD:=sO r (by omega)
  cases hk:jK r with
  |
   false =>
   rw[hk] at eD
   have hpa:sB neg r none=none:=if_pos (.inl hk)
   rw[hpa]
   cases neg with
   |
    false =>
    have q1:=q0 rfl
    have Xb:=r0 rfl
    subst Xb
    simp only[cG,bM,bP,jZ,e0,q1,eC,eD,a1,a2,Int.reduceLT,aH,bC,aS,aY,eT,gS,eQ,gW,fZ,Nat.reduceLeDiff,Nat.reduceLT,Nat.reduceSub,VX,Nat.reduceEqDiff,Nat.reduceAdd]
    exact bO (d:=6) iI (aN (v:=VB false) rfl)
   |
    true =>
    have q1:=q9 rfl
    have e9:=r9 rfl
    simp only[cG,bM,bP,jZ,e0,q1,eC,eD,a1,a2,Int.reduceLT,e9,aH,bC,aS,aY,eT,gS,eQ,gW,fZ,Nat.reduceLeDiff,Nat.reduceLT,Nat.reduceSub,VX,Nat.reduceEqDiff,Nat.reduceAdd]
    exact bO (d:=6) iI (aN (v:=VB false) rfl)
  |
   true =>
   rw[hk] at eD
   have hbt:=AZ hk
   have eN:=wI r (lI.1 hk).1 (by omega)
   by_cases hz:neg=true∧cA r=0
   ·have hpa:sB neg r none=none:=if_pos (.inr hz)
    rw[hpa]
    obtain⟨rfl,K5⟩:=hz
    have q1:=q9 rfl
    have e9:=r9 rfl
    have Lm:(((aD 1000000000 (cA r)).length:Nat):Int)=0:=G7.2 K5
    simp only[cG,bM,bP,jZ,e0,q1,eC,eD,a1,a2,eN,e9,cQ,Lm,Int.reduceLT,aH,bC,aS,aY,eT,gS,eQ,gW,fZ,Nat.reduceLeDiff,Nat.reduceLT,Nat.reduceSub,VX,Nat.reduceEqDiff,Nat.reduceAdd]
    exact bO (d:=6) iI (aN (v:=VB false) rfl)
   ·have CI:neg=true→¬(((aD 1000000000 (cA r)).length:Nat):Int)=0:=fun h h0=>hz ⟨h,G7.1 h0⟩
    have hpa:sB neg r none=some (mkRat (mH neg (cA r)) 1):=if_neg (by rw[hk];rintro(h | h);exact absurd h (by decide);exact hz h)
    rw[hpa]
    simp only[]
    rw[Og (by decide) (Nat.gcd_one_right _) hz]
    cases neg with
    |
     false =>
     have q1:=q0 rfl
     have Xb:=r0 rfl
     subst Xb
     simp only[cG,bM,bP,jZ,e0,q1,eC,eD,a1,a2,eN,Int.reduceLT,Int.reduceEq,aH,bC,aS,aY,eT,gS,eQ,gW,fZ,Nat.reduceLeDiff,Nat.reduceLT,Nat.reduceSub,VX,Nat.reduceEqDiff,Nat.reduceAdd]
     exact bO (d:=6) (uI (aN (v:=VB false) rfl) (aN (cM _)) TG) (aN (v:=VB true) rfl)
    |
     true =>
     have q1:=q9 rfl
     have e9:=r9 rfl
     have Lm:=CI rfl
     simp only[cG,bM,bP,jZ,e0,q1,eC,eD,a1,a2,eN,Int.reduceLT,Int.reduceEq,e9,cQ,Lm,aH,bC,aS,aY,eT,gS,eQ,gW,fZ,Nat.reduceLeDiff,Nat.reduceLT,Nat.reduceSub,VX,Nat.reduceEqDiff,Nat.reduceAdd]
     exact bO (d:=6) (uI (aN (v:=VB true) rfl) (aN (cM _)) TG) (aN (v:=VB true) rfl)
 |
  some t =>
  have ltt:=l2 t hs
  rw[Mx hs] at eC
  generalize (oJ 47 r).1=d at *
  by_cases hm:(47:UInt8)∈t
  ·rw[Wl hm]
   have hP:=Um hm
   generalize hPP:jG 47 t=P at *
   have a2:∀H,rL (aC bD (d::P)) H=some (VI ((d::P).length:Int)):=fun H=>eW (f:=bD) (xs:=d::P)
   have hq3:(2:Int)<((d::P).length:Int):=by rw[aKL];omega
   generalize hQQ:d::P=PP at *
   clear hQQ hPP hP
   cases neg with
   |
    false =>
    have q1:=q0 rfl
    have Xb:=r0 rfl
    subst Xb
    simp only[cG,bM,bP,jZ,e0,q1,eC,a2,hq3,aH,bC,aS,aY,eT,gS,eQ,gW,fZ,Nat.reduceLeDiff,Nat.reduceLT,Nat.reduceSub,VX,Nat.reduceEqDiff,Nat.reduceAdd]
    exact bO (d:=6) iI (aN (v:=VB false) rfl)
   |
    true =>
    have q1:=q9 rfl
    have e9:=r9 rfl
    simp only[cG,bM,bP,jZ,e0,q1,eC,a2,hq3,e9,aH,bC,aS,aY,eT,gS,eQ,gW,fZ,Nat.reduceLeDiff,Nat.reduceLT,Nat.reduceSub,VX,Nat.reduceEqDiff,Nat.reduceAdd]
    exact bO (d:=6) iI (aN (v:=VB false) rfl)
  ·rw[Ii hm] at eC
   have a1:=arC d t
   have a3:=arV d t
   have a2:=arR d t
   have eD:=sO d (by omega)
   have eF:=sO t (by omega)
   cases hk:jK d with
   |
    false =>
    rw[hk] at eD
    have hpa:sB neg d (some t)=none:=if_pos (.inl hk)
    rw[hpa]
    cases neg with
    |
     false =>
     have q1:=q0 rfl
     have Xb:=r0 rfl
     subst Xb
     simp only[cG,bM,bP,jZ,e0,q1,eC,eD,a1,a2,Int.reduceLT,aH,bC,aS,aY,eT,gS,eQ,gW,fZ,Nat.reduceLeDiff,Nat.reduceLT,Nat.reduceSub,VX,Nat.reduceEqDiff,Nat.reduceAdd]
     exact bO (d:=6) iI (aN (v:=VB false) rfl)
    |
     true =>
     have q1:=q9 rfl
     have e9:=r9 rfl
     simp only[cG,bM,bP,jZ,e0,q1,eC,eD,a1,a2,Int.reduceLT,e9,aH,bC,aS,aY,eT,gS,eQ,gW,fZ,Nat.reduceLeDiff,Nat.reduceLT,Nat.reduceSub,VX,Nat.reduceEqDiff,Nat.reduceAdd]
     exact bO (d:=6) iI (aN (v:=VB false) rfl)
   |
    true =>
    rw[hk] at eD
    have hbt:=AZ hk
    have eN:=wI d (lI.1 hk).1 (by omega)
    by_cases hz:neg=true∧cA d=0
    ·have hpa:sB neg d (some t)=none:=if_pos (.inr hz)
     rw[hpa]
     obtain⟨rfl,K5⟩:=hz
     have q1:=q9 rfl
     have e9:=r9 rfl
     have Lm:(((aD 1000000000 (cA d)).length:Nat):Int)=0:=G7.2 K5
     simp only[cG,bM,bP,jZ,e0,q1,eC,eD,a1,a2,eN,e9,cQ,Lm,Int.reduceLT,aH,bC,aS,aY,eT,gS,eQ,gW,fZ,Nat.reduceLeDiff,Nat.reduceLT,Nat.reduceSub,VX,Nat.reduceEqDiff,Nat.reduceAdd]
     exact bO (d:=6) iI (aN (v:=VB false) rfl)
    ·have CI:neg=true→¬(((aD 1000000000 (cA d)).length:Nat):Int)=0:=fun h h0=>hz ⟨h,G7.1 h0⟩
     have hpa:sB neg d (some t)=if jK t=true∧1<cA t∧aNj (cA d) (cA t)=1 then some (mkRat (mH neg (cA d)) (cA t)) else none:=if_neg (by rw[hk];rintro(h | h);exact absurd h (by decide);exact hz h)
     rw[hpa]
     clear hpa
     cases ht:jK t with
     |
      false =>
      rw[ht] at eF
      rw[if_neg (fun h=>absurd h.1 (by decide))]
      cases neg with
      |
       false =>
       have q1:=q0 rfl
       have Xb:=r0 rfl
       subst Xb
       simp only[cG,bM,bP,jZ,e0,q1,eC,eD,eF,a1,a2,a3,eN,Int.reduceLT,Int.reduceEq,aH,bC,aS,aY,eT,gS,eQ,gW,fZ,Nat.reduceLeDiff,Nat.reduceLT,Nat.reduceSub,VX,Nat.reduceEqDiff,Nat.reduceAdd]
       exact bO (d:=6) iI (aN (v:=VB false) rfl)
      |
       true =>
       have q1:=q9 rfl
       have e9:=r9 rfl
       have Lm:=CI rfl
       simp only[cG,bM,bP,jZ,e0,q1,eC,eD,eF,a1,a2,a3,eN,Int.reduceLT,Int.reduceEq,e9,cQ,Lm,aH,bC,aS,aY,eT,gS,eQ,gW,fZ,Nat.reduceLeDiff,Nat.reduceLT,Nat.reduceSub,VX,Nat.reduceEqDiff,Nat.reduceAdd]
       exact bO (d:=6) iI (aN (v:=VB false) rfl)
     |
      true =>
      rw[ht] at eF
      have Oe:=AZ ht
      have eM:=wI t (lI.1 ht).1 (by omega)
      have c2:∀lo H K,_:=fun lo H K=>NW (n:=cA t) (lo:=lo) (H:=H) (K:=K) (aLi (pN (by omega)))
      have c3:=H9 (cA d) (cA t) (pN (by omega)) (pN (by omega))
      by_cases h1:gH (cA t) 1≤0
      ·have hle:¬1<cA t:=fun h=>by unfold gH at h1;rw[if_neg (by omega),if_neg (by omega)] at h1;exact absurd h1 (by decide)
       rw[if_neg (fun h=>hle h.2.1)]
       cases neg with
       |
        false =>
        have q1:=q0 rfl
        have Xb:=r0 rfl
        subst Xb
        simp only[cG,bM,bP,jZ,e0,q1,eC,eD,eF,a1,a2,a3,eN,eM,c2,h1,Int.reduceLT,Int.reduceEq,aH,bC,aS,aY,eT,gS,eQ,gW,fZ,Nat.reduceLeDiff,Nat.reduceLT,Nat.reduceSub,VX,Nat.reduceEqDiff,Nat.reduceAdd]
        exact bO (d:=6) iI (aN (v:=VB false) rfl)
       |
        true =>
        have q1:=q9 rfl
        have e9:=r9 rfl
        have Lm:=CI rfl
        simp only[cG,bM,bP,jZ,e0,q1,eC,eD,eF,a1,a2,a3,eN,eM,c2,h1,Int.reduceLT,Int.reduceEq,e9,cQ,Lm,aH,bC,aS,aY,eT,gS,eQ,gW,fZ,Nat.reduceLeDiff,Nat.reduceLT,Nat.reduceSub,VX,Nat.reduceEqDiff,Nat.reduceAdd]
        exact bO (d:=6) iI (aN (v:=VB false) rfl)
      ·have bI:1<cA t:=by
        rcases Nat.lt_or_ge 1 (cA t) with h | h
        ·exact h
        ·exfalso
         apply h1
         unfold gH
         split<;>(try split)<;>first | decide | omega
       have hgl:bl (aNj (cA d) (cA t))≤665:=Nat.le_trans (mA (Nat.le_of_dvd (by omega) (Nat.gcd_dvd_right _ _))) Oe
       have c4:∀lo H K,_:=fun lo H K=>NW (n:=aNj (cA d) (cA t)) (lo:=lo) (H:=H) (K:=K) (aLi (pN (by omega)))
       by_cases hg:aNj (cA d) (cA t)=1
       ·have h4:gH (aNj (cA d) (cA t)) 1=0:=by rw[hg];rfl
        rw[if_pos ⟨rfl,bI,hg⟩]
        simp only[]
        rw[Og (by omega) hg hz]
        cases neg with
        |
         false =>
         have q1:=q0 rfl
         have Xb:=r0 rfl
         subst Xb
         simp only[cG,bM,bP,jZ,e0,q1,eC,eD,eF,a1,a2,a3,eN,eM,c2,c3,c4,h1,h4,Int.reduceLT,Int.reduceEq,aH,bC,aS,aY,eT,gS,eQ,gW,fZ,Nat.reduceLeDiff,Nat.reduceLT,Nat.reduceSub,VX,Nat.reduceEqDiff,Nat.reduceAdd]
         exact bO (d:=6) (uI (aN (v:=VB false) rfl) (aN (cM _)) (aN (cM _))) (aN (v:=VB true) rfl)
        |
         true =>
         have q1:=q9 rfl
         have e9:=r9 rfl
         have Lm:=CI rfl
         simp only[cG,bM,bP,jZ,e0,q1,eC,eD,eF,a1,a2,a3,eN,eM,c2,c3,c4,h1,h4,Int.reduceLT,Int.reduceEq,e9,cQ,Lm,aH,bC,aS,aY,eT,gS,eQ,gW,fZ,Nat.reduceLeDiff,Nat.reduceLT,Nat.reduceSub,VX,Nat.reduceEqDiff,Nat.reduceAdd]
         exact bO (d:=6) (uI (aN (v:=VB true) rfl) (aN (cM _)) (aN (cM _))) (aN (v:=VB true) rfl)
       ·have h4:¬gH (aNj (cA d) (cA t)) 1=0:=by
         unfold gH
         split<;>(try split)<;>first | decide | omega
        rw[if_neg (fun h=>hg h.2.2)]
        cases neg with
        |
         false =>
         have q1:=q0 rfl
         have Xb:=r0 rfl
         subst Xb
         simp only[cG,bM,bP,jZ,e0,q1,eC,eD,eF,a1,a2,a3,eN,eM,c2,c3,c4,h1,h4,Int.reduceLT,Int.reduceEq,aH,bC,aS,aY,eT,gS,eQ,gW,fZ,Nat.reduceLeDiff,Nat.reduceLT,Nat.reduceSub,VX,Nat.reduceEqDiff,Nat.reduceAdd]
         exact bO (d:=6) iI (aN (v:=VB false) rfl)
        |
         true =>
         have q1:=q9 rfl
         have e9:=r9 rfl
         have Lm:=CI rfl
         simp only[cG,bM,bP,jZ,e0,q1,eC,eD,eF,a1,a2,a3,eN,eM,c2,c3,c4,h1,h4,Int.reduceLT,Int.reduceEq,e9,cQ,Lm,aH,bC,aS,aY,eT,gS,eQ,gW,fZ,Nat.reduceLeDiff,Nat.reduceLT,Nat.reduceSub,VX,Nat.reduceEqDiff,Nat.reduceAdd]
         exact bO (d:=6) iI (aN (v:=VB false) rfl)
end Go.PM
namespace Go.PM
open Go.Lib
end Go.PM
namespace Go.PM
open Go.Lib
theorem VA {l:List UInt8} {q:Rat} (h:Bu l=some q):Gg l = .eJ [aM q,VB true]:=by unfold Gg;rw[h]
theorem Wt {l:List UInt8} (h:Bu l=none):Gg l = .eJ [Pr,VB false]:=by unfold Gg;rw[h]
end Go.PM
namespace Go.PM
open Go.Lib
def Vk (o:Option (List Rat)):VV:=match o with
 | some qs => .eJ [aC aM qs,VB true]
 | none => .eJ [aC aM [],VB false]
theorem Eo:Vk none = .eJ [aC aM [],VB false]:=rfl
theorem Ei (qs:List Rat):Vk (some qs) = .eJ [aC aM qs,VB true]:=rfl
theorem jA (q:Rat):(aB (aM q)).length=3:=rfl
theorem rI (qs:List Rat):bA (aC aM qs)=true:=mO jA Bz
theorem afJ (q:Rat):CM (aM q)=true:=by simp[CM,aM,cC,jI]
theorem GV (qs:List Rat):hJ (aC aM qs)=true:=zY jA Sf afJ
theorem acL (o:Option (List Rat)):hJ (Vk o)=true:=by
 unfold Vk
 split
 ·exact zI (GV _) rfl
 ·exact zI (GV []) rfl
set_option maxHeartbeats 1000000 in
theorem A7 (xs:List ByteArray) (hn:xs.length≤1000000000) (hs:∀s∈xs,s.size≤1000000000):TC 57 [gM xs] (Vk (tB xs)):=by
 refine TC.walk ⟨true,false⟩ OA rfl (aMp rfl) (by simp[aO,kQ]) (acL _) ?_
 unfold tB
 by_cases Yb:(300:Int)<(xs.length:Int)
 ·rw[if_neg (by omega)]
  simp only[Ef,A2,Yb,VX,Nat.reduceEqDiff,Nat.reduceAdd]
  exact IB
 rw[if_pos (by omega)]
 have e0:=fun H=>mX (H:=H) (lr:=false) (z:=[.bool false,.slice none 0 0,.slice none 0 0]) rfl
 simp only[Ef,A2,Yb,e0,VX,Nat.reduceEqDiff,Nat.reduceAdd]
 refine OS (fun(s:Nat×List Rat) ρ H=>s.1≤xs.length∧(xs.take s.1).mapM pQ=some s.2∧H=[.row s.1 (s.2.map aM) 3 true]∧ρ 4 = .ref 0 s.1 0 s.1 s.1∧ρ 0=gM xs∧ρ 13=VI xs.length∧ρ 14=VI s.1) (fun s=>xs.length-s.1) (0,[]) ⟨aK5 _,rfl,rfl,rfl,rfl,rfl,rfl⟩ ?_
 rintro⟨i,out⟩ ρ H ⟨hi,wA,rfl,g4,g13,g14,g15⟩
 simp only at hi wA g4 g15
 have iB:out.length=i:=by rw[BV wA,aMa];omega
 by_cases bZ:(i:Int)<(xs.length:Int)
 ·obtain⟨x,hx⟩:∃x,xs[i]? = some x:=⟨_,aKI (by omega)⟩
  have hxm:=aLv hx
  have e1:=fun H=>aI (f:=sV) (t := .op) (H:=H) (size:=1) (k := .i64) hx rfl
  have wi:IntKind.i64.wrap ((i:Int)+1)=((i+1:Nat):Int):=wrapN (i+1) (by omega) (by omega)
  have e2:=MZ x.data.toList (by have:=hs x hxm;rw[Array.length_toList];show x.size≤_;omega)
  rw[←akV] at e2
  cases hp:pQ x with
  |
   none =>
   rw[Wt hp] at e2
   rw[mapM_none hp hxm]
   simp only[uA,g4,g13,g14,g15,bZ,e1,e2,Md,PZ,W2,aV,aW,aR,fZ,Nat.reduceLeDiff,Nat.reduceLT,Nat.reduceSub,lU,bT,cK,fI,kA,nR,bne_iff_ne,ne_eq,not_false_eq_true,not_true_eq_false,VX,Nat.reduceEqDiff,Nat.reduceAdd]
   exact IB
  |
   some q =>
   rw[VA hp] at e2
   have eL:∀H,mW false [.bool false,.slice none 0 0,.slice none 0 0] 1 [(0,aM q)] H=some (.tree [aM q] (.cl 3),H):=fun H=>iY rfl rfl rfl
   have eS:∀H,cZ 3 (.tree [aM q] (.cl 3)) H=some [aM q]:=fun H=>eV rfl rfl
   have eP:dR 0 3 56 (.ref 0 i 0 i i) [aM q] [.row i (out.map aM) 3 true,.row 0 [aM q] 3 true]=some (.ref 0 (i+1) 0 (i+1) (i+1),[.row (i+1) ((out++[q]).map aM) 3 true,.row 0 [aM q] 3 true]):=by
    rw[jT (f:=aM) (xs:=out) (by rw[aT]) iB.symm (aKB _) (by decide) (by decide) (by omega),aMf]
   simp only[uA,g4,g13,g14,g15,bZ,e1,e2,eL,eS,eP,wi,bU,gO,cI,aS,bC,aY,fZ,Nat.reduceLeDiff,Nat.reduceLT,Nat.reduceSub,lU,bT,cK,fI,kA,nR,bne_iff_ne,ne_eq,not_false_eq_true,not_true_eq_false,VX,Nat.reduceEqDiff,Nat.reduceAdd]
   refine⟨(i+1,out++[q]),by simp only;omega,?_,by simp only;omega,by simp only[sH hx];exact RT wA hp,rfl,?_⟩
   ·rw[DP (oP _ (fQ Bz)),LD]
   ·simp only[Bs,g13,g14,Da (kQ _),KV (Nat.lt_succ_self 0),VX,Nat.reduceEqDiff,Nat.reduceAdd,aNQ,oA,List.all_nil,aMe,Bs,Pm,Da]
 ·have mC:i=xs.length:=by omega
  subst mC
  rw[aLO] at wA
  rw[wA]
  simp only[uA,g4,g13,g14,g15,bZ,VX,Nat.reduceEqDiff,Nat.reduceAdd]
  refine bO (d:=6) ?_ (aN (v:=VB true) rfl)
  have:=UB (d:=5) (w:=true) (f:=aM) (e:=3) (b:=0) (g:=xs.length) (c:=xs.length) (xs:=out) (H:=[.row xs.length (out.map aM) 3 true]) Bz (by rw[aT]) (by omega)
  rw[iB] at this
  exact this
set_option maxHeartbeats 1000000 in
theorem GJ {lo:Nat} {H:aA} {q:Rat} (h:lo≤H.length):bL lo 3 (.ptr H.length 0 0 0) (aM q) (H++[cell0])=some (H++[.row 0 [aM q] 3 true]):=by
 rw[bS (g:=0) (e:=3) (j:=0) jD (by exact aNT) h rfl rfl,Ou]
 rfl
theorem E3 {lo:Nat} {H:aA} {v:VV} (qs:List Rat) {B:Nat} (hv:Rd aM 3 qs H v) (dS:lo≤H.length) (hb:∀q∈qs,aK q≤B) (hk:qs.length*(B+1)+1≤1099511627776) (hB:B≤1099511627776) (hn:qs.length≤1000000000) :
  jH 60 [v] lo H (Q3 (fun _ _ _ r=>r=aM (dM qs)) H):=by
 refine jH.walk ⟨true,false⟩ MW (aMp rfl) ?_
 have e1:=BU
 have e2:=hv.len (H++[cell0,.row 0 [aM 0] 3 true]) (List.prefix_append _ _)
 have s0:bL lo 3 (.ptr (H.length+1) 0 0 0) (aM 0) (H++[cell0,cell0])=some (H++[cell0,.row 0 [aM 0] 3 true]):=by
  have:=GJ (lo:=lo) (H:=H++[cell0]) (q:=0) (by rw[aKM];omega)
  simpa only[aKM,aKL,aMe,aL9,aMn,aL1,aLT] using this
 simp only[HX,E5,e1,e2,s0,aKM,aKL,aMe,aMn,aL1,aLT,dT,VX,Nat.reduceEqDiff,Nat.reduceAdd,Nat.reduceLeDiff,Nat.reduceLT,Nat.reduceSub]
 refine aP (fun(i:Nat) ρ H1=>i≤qs.length∧H <+: H1∧aG H1 H.length 0=some ([rz],3,true)∧aG H1 (H.length+1) 0=some ([aM (dM (qs.take i))],3,true)∧ρ 2 = .ptr H.length 0 0 0∧ρ 3 = .ptr (H.length+1) 0 0 0∧ρ 0=v∧ρ 7=VI qs.length∧ρ 8=VI i) (fun i=>qs.length-i) 0 ⟨aK5 _,List.prefix_append _ _,Cd.trans aT,NO.trans (dZ.trans aT),rfl,rfl,rfl,rfl,rfl⟩ ?_
 rintro i ρ H1 ⟨hi,hp,Kp,T4,g2,g3,g0,g7,g8⟩
 have CU:=iT T4
 have s3:bH true 3 (.ptr (H.length+1) 0 0 0) H1=some (aM (dM (qs.take i))):=by
  rw[bJ,T4]
  exact cI _
 by_cases bZ:(i:Int)<(qs.length:Int)
 ·obtain⟨q,hq⟩:∃q,qs[i]? = some q:=⟨_,aKI (by omega)⟩
  obtain⟨p,a1,a2⟩:=hv.get H1 hp i q hq
  have a2':=(a2 true).trans (cI _)
  have wi:IntKind.i64.wrap ((i:Int)+1)=((i+1:Nat):Int):=wrapN (i+1) (by omega) (by omega)
  have h1:=Bc hb i
  have h2:=hb q (aLv hq)
  have h3:(i+1)*(B+1)≤qs.length*(B+1):=Nat.mul_le_mul_right _ (by omega)
  have e3:=tS (dM (qs.take i)) q (by omega) (by omega)
  rw[←DO hq] at e3
  have s4:=bS (lo:=lo) (v:=aM (dM (qs.take (i+1)))) (j:=0) T4 (by exact aNT) (by omega) rfl rfl
  rw[aMf] at s4
  simp only[yL,g2,g3,g0,g7,g8,bZ,a1,a2',e3,s3,s4,wi,dT,VX,Nat.reduceEqDiff,Nat.reduceAdd,Nat.reduceLeDiff,Nat.reduceLT,Nat.reduceSub]
  exact⟨i+1,by omega,by omega,lR hp (by omega),aZ (by omega) Kp,bQ T4,by (repeat' apply aMh)<;>first | rfl | trivial | assumption⟩
 ·have mC:i=qs.length:=by omega
  subst mC
  rw[aLO] at s3
  have s4:=bS (lo:=lo) (v:=aM (dM qs)) (j:=0) Kp (by exact aNT) dS rfl rfl
  rw[aMf] at s4
  have s5:bH true 3 (.ptr H.length 0 0 0) (H1.set H.length (.row 0 [aM (dM qs)] 3 true))=some (aM (dM qs)):=by
   rw[bJ,bQ Kp]
   exact cI _
  simp only[yL,g2,g3,g7,g8,bZ,s3,s4,s5,dT,VX,Nat.reduceEqDiff,Nat.reduceAdd,Nat.reduceLeDiff,Nat.reduceLT,Nat.reduceSub]
  exact⟨lR hp (aKB _),rfl⟩
theorem Z3 {q:Rat}:q.num<0↔q<0:=by rw[←Int.not_le,Rat.num_nonneg];constructor<;>intro h<;>grind
theorem uU (qs:List Rat) (hn:qs.length≤1000000000):TC 58 [aC aM qs] (VB (!(qs.any fun q=>decide (q<0)))):=by
 refine TC.walk ⟨true,false⟩ Is rfl (aMp rfl) (by simp[aO,rI]) rfl ?_
 simp only[DB,BH,VX,Nat.reduceEqDiff,Nat.reduceAdd]
 refine aP (fun(i:Nat) ρ H=>i≤qs.length∧H=[]∧(∀j x,j<i→qs[j]? = some x→¬x<0)∧ρ 0=aC aM qs∧ρ 5=VI qs.length∧ρ 6=VI i) (fun i=>qs.length-i) 0 ⟨aK5 _,rfl,fun j x h=>by omega,rfl,rfl,rfl⟩ ?_
 rintro i ρ H ⟨hi,rfl,jP,g0,g5,g6⟩
 by_cases bZ:(i:Int)<(qs.length:Int)
 ·obtain⟨q,hq⟩:∃q,qs[i]? = some q:=⟨_,aKI (by omega)⟩
  have e2:=fun H=>aI (f:=aM) (t := .op) (H:=H) (size:=3) (k := .i64) hq rfl
  have wi:IntKind.i64.wrap ((i:Int)+1)=((i+1:Nat):Int):=wrapN (i+1) (by omega) (by omega)
  by_cases mI:q.num<0
  ·have An:qs.any (fun q=>decide (q<0))=true:=List.any_eq_true.2 ⟨q,aLv hq,decide_eq_true (Z3.1 mI)⟩
   rw[An]
   simp only[nL,g0,g5,g6,bZ,e2,mI,iG,bU,gO,cI,aS,bC,aY,fZ,Nat.reduceLeDiff,Nat.reduceLT,Nat.reduceSub,lU,bT,cK,fI,kA,nR,bne_iff_ne,ne_eq,not_false_eq_true,not_true_eq_false,VX,Nat.reduceEqDiff,Nat.reduceAdd]
   exact aL rfl
  ·simp only[nL,g0,g5,g6,bZ,e2,mI,wi,iG,bU,gO,cI,aS,bC,aY,fZ,Nat.reduceLeDiff,Nat.reduceLT,Nat.reduceSub,lU,bT,cK,fI,kA,nR,bne_iff_ne,ne_eq,not_false_eq_true,not_true_eq_false,VX,Nat.reduceEqDiff,Nat.reduceAdd]
   refine⟨i+1,by omega,by omega,fun j y hj hy => ?_,rfl⟩
   rcases Nat.lt_or_ge j i with Ed | Ed
   ·exact jP j y Ed hy
   ·have:j=i:=by omega
    subst this
    rw[hq] at hy
    cases hy
    exact mt Z3.2 mI
 ·have mC:i=qs.length:=by omega
  subst mC
  have An:qs.any (fun q=>decide (q<0))=false:=by
   rw[List.any_eq_false]
   intro x hx
   obtain⟨j,hj⟩:=List.getElem?_of_mem hx
   simpa using jP j x (aKA.1 hj).1 hj
  rw[An]
  simp only[nL,g0,g5,g6,bZ,VX,Nat.reduceEqDiff,Nat.reduceAdd]
  exact aL rfl
theorem X4 {a b:Rat}:a=b↔(decide (a.num<0)=decide (b.num<0)∧a.num.natAbs*b.den=b.num.natAbs*a.den):=by
 constructor
 ·rintro rfl
  exact⟨rfl,rfl⟩
 ·rintro⟨h1,h2⟩
  have h3:a.num<0↔b.num<0:=by simpa using h1
  have ha:=a.den_nz
  have hb:=b.den_nz
  have key:a.num*b.den=b.num*a.den→a=b:=fun h=>by
   have:=(Rat.mkRat_eq_iff (n₁:=a.num) (n₂:=b.num) ha hb).2 h
   rwa [Rat.mkRat_self,Rat.mkRat_self] at this
  refine key ?_
  have e1:(a.num.natAbs:Int)*b.den=b.num.natAbs*a.den:=by exact_mod_cast h2
  by_cases hn:a.num<0
  ·have hn2:=h3.1 hn
   have q1:a.num = -(a.num.natAbs:Int):=by omega
   have q2:b.num = -(b.num.natAbs:Int):=by omega
   rw[q1,q2,Int.neg_mul,Int.neg_mul,e1]
  ·have hn2:=mt h3.2 hn
   have q1:a.num=(a.num.natAbs:Int):=by omega
   have q2:b.num=(b.num.natAbs:Int):=by omega
   rw[q1,q2,e1]
set_option maxHeartbeats 1000000 in
theorem M8 (a b:Rat) (ME:aK a≤1099511627776) (IZ:aK b≤1099511627776):TC 160 [aM a,aM b] (VB (decide (a=b))):=by
 refine TC.walk ⟨true,false⟩ Ns rfl (aMp rfl) (by simp only[aO,Bz];rfl) rfl ?_
 have b1 := @pY a
 have b2 := @pY b
 have b3 := @oE a
 have b4 := @oE b
 have b5:=oD a.num.natAbs b.den
 have b6:=oD b.num.natAbs a.den
 have c1:=fP a.num.natAbs b.den (aLi (pN (by omega))) (aLi (pN (by omega)))
 have c2:=fP b.num.natAbs a.den (aLi (pN (by omega))) (aLi (pN (by omega)))
 have c3:=yU (a.num.natAbs*b.den) (b.num.natAbs*a.den) (aLi (pN (by omega))) (aLi (pN (by omega)))
 by_cases q1:decide (a.num<0)=decide (b.num<0)
 ·have q2:(decide (a.num<0) == decide (b.num<0))=true:=by simpa using q1
  have hz := @AP (a.num.natAbs*b.den) (b.num.natAbs*a.den)
  by_cases q3:gH (a.num.natAbs*b.den) (b.num.natAbs*a.den)=0
  ·rw[decide_eq_true (X4.2 ⟨q1,hz.1 q3⟩)]
   simp only[yY,uK,c1,c2,c3,q2,q3,yI,bU,iG,jX,jV,aS,fZ,Nat.reduceLeDiff,Nat.reduceLT,Nat.reduceSub,lU,bT,cK,fI,kA,nR,bne_iff_ne,ne_eq,not_false_eq_true,not_true_eq_false,VX,Nat.reduceEqDiff,Nat.reduceAdd]
   exact aL rfl
  ·rw[decide_eq_false (fun h=>q3 (hz.2 (X4.1 h).2))]
   simp only[yY,uK,c1,c2,c3,q2,q3,yI,bU,iG,jX,jV,aS,fZ,Nat.reduceLeDiff,Nat.reduceLT,Nat.reduceSub,lU,bT,cK,fI,kA,nR,bne_iff_ne,ne_eq,not_false_eq_true,not_true_eq_false,VX,Nat.reduceEqDiff,Nat.reduceAdd]
   exact aL rfl
 ·have q2:(decide (a.num<0) == decide (b.num<0))=false:=by simpa using q1
  rw[decide_eq_false (fun h=>q1 (X4.1 h).1)]
  simp only[yY,uK,q2,yI,bU,iG,jX,jV,aS,fZ,Nat.reduceLeDiff,Nat.reduceLT,Nat.reduceSub,lU,bT,cK,fI,kA,nR,bne_iff_ne,ne_eq,not_false_eq_true,not_true_eq_false,VX,Nat.reduceEqDiff,Nat.reduceAdd]
  exact aL rfl
theorem JW (qs:List Rat) (hb:∀q∈qs,aK q≤665) (hl:qs.length≤300):TC 96 [aC aM qs] (VB (jB qs)):=by
 refine TC.walk ⟨true,false⟩ JZ rfl (aMp rfl) (by simp[aO,rI]) rfl ?_
 have e1:=uU qs (by omega)
 have e2:=fun(K:aA)=>E3 (lo:=0) (H:=K) (v:=aC aM qs) qs (Rd.tree jA) (aK5 _) hb (N9 hl) (by omega) (by omega)
 have hsb:=Bc hb qs.length
 rw[aLO] at hsb
 have e3:=HW
 have hsr:=N9 hl
 have e4:=M8 (dM qs) 1 (by omega) (by rw[AQ];omega)
 unfold jB
 cases An:qs.any (fun q=>decide (q<0)) with
 |
  true =>
  rw[An] at e1
  simp only[Bool.not_true,Bool.false_and] at e1 ⊢
  simp only[Ah,xD,e1,VX,Nat.reduceEqDiff,Nat.reduceAdd]
  exact aL rfl
 |
  false =>
  rw[An] at e1
  simp only[Bool.not_false,aOd] at e1 ⊢
  simp only[Ah,xD,e1,VX,Nat.reduceEqDiff,Nat.reduceAdd]
  refine rK rfl (e2 _) fun r L hr => ?_
  subst hr
  simp only[e3,e4,VX,Nat.reduceEqDiff,Nat.reduceAdd]
  exact aL rfl
end Go.PM
namespace Go.PM
open Go.Lib
end Go.PM
namespace Go.PM
def xV:aE:=(.seq (LS [LM 20 6,LM 21 4,LO 22 (.bin .lss (LT 20) (LT 21)),LM 23 22,LY 23 24 (.mv (LT 0)),LY 23 25 (.mv (LT 6)),LY 23 26 (.iaddr 1 (LT 24) (LT 25)),LY 23 27 (LL 26),LY 23 28 (.mv (LT 5)),LY 23 29 (.iaddr 3 (LT 27) (LT 28)),LY 23 30 (LK 29),LY 23 31 (.call 59 [(LT 30)]),LO 32 (.pick (LT 23) (LT 31) LF)] (.cond (LT 32) .skip (.exit 2))) (.block 3 (.cU [LM 33 6,LO 34 (.bin .add (LT 33) (LI 1)),LM 6 34])))
def xY:aE:=(.seq (LS [LM 76 9,LM 77 4,LO 78 (.bin .leq (LT 76) (LT 77))] (.cond (LT 78) .skip (.exit 6))) (.seq (.block 7 (.cU [LM 81 0,LM 82 7,LO 83 (.iaddr 1 (LT 81) (LT 82)),LO 84 (LL 83),LM 85 9,LM 86 0,LM 87 7,LO 88 (.iaddr 1 (LT 86) (LT 87)),LO 89 (LL 88),LM 90 9,LO 91 (.iaddr 3 (LT 89) (LT 90)),LO 92 (LK 91),LO 93 (LK 8),LM 94 0,LM 95 5,LO 96 (.iaddr 1 (LT 94) (LT 95)),LO 97 (LL 96),LM 98 9,LO 99 (.iaddr 3 (LT 97) (LT 98)),LO 100 (LK 99),LQ 101 (.call 125 [(LT 93),(LT 100)]),LQ 102 (.call 82 [(LT 92),(LT 101)]),LO 103 (.iaddr 3 (LT 84) (LT 85)),LN (.store 3 (LT 103) (LT 102))])) (.cU [LM 79 9,LO 80 (.bin .add (LT 79) (LI 1)),LM 9 80])))
def nU:aE:=(.seq (LS [LM 42 7,LM 43 4,LO 44 (.bin .lss (LT 42) (LT 43))] (.cond (LT 44) .skip (.exit 4))) (.seq (.block 5 (.seq (LS [LM 47 7,LM 48 5,LO 49 (.bin .eql (LT 47) (LT 48)),LM 50 49,LZ 50 51 (.mv (LT 0)),LZ 50 52 (.mv (LT 7)),LZ 50 53 (.iaddr 1 (LT 51) (LT 52)),LZ 50 54 (LL 53),LZ 50 55 (.mv (LT 5)),LZ 50 56 (.iaddr 3 (LT 54) (LT 55)),LZ 50 57 (LK 56),LZ 50 58 (.call 59 [(LT 57)]),LO 59 (.pick (LT 50) LG (LT 58))] (.cond (LT 59) (.exit 5) .skip)) (LS [LM 60 0,LM 61 7,LO 62 (.iaddr 1 (LT 60) (LT 61)),LO 63 (LL 62),LM 64 5,LO 65 (.iaddr 3 (LT 63) (LT 64)),LO 66 (LK 65),LM 67 0,LM 68 5,LO 69 (.iaddr 1 (LT 67) (LT 68)),LO 70 (LL 69),LM 71 5,LO 72 (.iaddr 3 (LT 70) (LT 71)),LO 73 (LK 72),LQ 74 (.call 81 [(LT 66),(LT 73)]),LQ 8 (.new [(.bool false),(.slice none 0 0),(.slice none 0 0)]),LN (.store 3 (LT 8) (LT 74))] (LS [LM 75 5,LM 9 75] (.block 6 (.loop xY)))))) (.cU [LM 45 7,LO 46 (.bin .add (LT 45) (LI 1)),LM 7 46])))
def yF:aE:=(.seq (LS [LM 14 5,LM 15 4,LO 16 (.bin .lss (LT 14) (LT 15))] (.cond (LT 16) .skip (.exit 0))) (.seq (.block 1 (LS [LM 19 5,LM 6 19] (.seq (.block 2 (.loop xV)) (.seq (LS [LM 35 6,LM 36 4,LO 37 (.bin .eql (LT 35) (LT 36))] (.cond (LT 37) (LS [LO 2 (.mv (.const (.slice none 0 0))),LO 3 (.mv LF)] .ret) .skip)) (LS [LM 38 0,LM 39 5,LM 40 6,LO 41 (.call 179 [(LT 38),(LT 39),(LT 40)])] (LS [LO 7 (.mv (LI 0))] (.block 4 (.loop nU)))))))) (.cU [LM 17 5,LO 18 (.bin .add (LT 17) (LI 1)),LM 5 18])))
def yB:aE:=(.seq (LS [LM 105 11,LM 106 4,LO 107 (.bin .lss (LT 105) (LT 106))] (.cond (LT 107) .skip (.exit 8))) (.seq (.block 9 (.cU [LM 110 10,LM 111 0,LM 112 11,LO 113 (.iaddr 1 (LT 111) (LT 112)),LO 114 (LL 113),LM 115 4,LO 116 (.iaddr 3 (LT 114) (LT 115)),LO 117 (LK 116),LM 118 0,LM 119 11,LO 120 (.iaddr 1 (LT 118) (LT 119)),LO 121 (LL 120),LM 122 11,LO 123 (.iaddr 3 (LT 121) (LT 122)),LO 124 (LK 123),LQ 125 (.call 81 [(LT 117),(LT 124)]),LQ 126 (.lit [(.bool false),(.slice none 0 0),(.slice none 0 0)] 1 [(0,(LT 125))]),LO 127 (.app 3 56 (LT 110) (LT 126)),LM 10 127])) (.cU [LM 108 11,LO 109 (.bin .add (LT 108) (LI 1)),LM 11 109])))
def EN:aE:=(LS [LO 2 (.mv (.const (.slice none 0 0))),LO 3 (.mv LF)] (LS [LM 12 0,LO 13 (.len (LT 12)),LM 4 13] (.seq (LS [LO 5 (.mv (LI 0))] (.block 0 (.loop yF))) (LS [LO 104 (.lit [(.bool false),(.slice none 0 0),(.slice none 0 0)] 0 []),LM 10 104] (.seq (LS [LO 11 (.mv (LI 0))] (.block 8 (.loop yB))) (LS [LM 128 10,LM 2 128,LO 3 (.mv LG)] .ret))))))
def HN:aU:=⟨129,[(.tmp 2),(.tmp 3)],EN⟩
theorem M4:fT 134=some HN:=by kernel_rfl
def FB:aE:=(LS [LM 7 0,LM 8 1,LO 9 (.iaddr 1 (LT 7) (LT 8)),LO 10 (LL 9),LM 6 10] (LS [LM 11 0,LM 12 1,LM 13 0,LM 14 2,LO 15 (.iaddr 1 (LT 13) (LT 14)),LO 16 (LL 15),LO 17 (.iaddr 1 (LT 11) (LT 12)),LN (.store 1 (LT 17) (LT 16))] (.cU [LM 18 0,LM 19 2,LM 20 6,LO 21 (.iaddr 1 (LT 18) (LT 19)),LN (.store 1 (LT 21) (LT 20))])))
def I5:aU:=⟨22,[],FB⟩
theorem PL:fT 179=some I5:=by kernel_rfl
end Go.PM
namespace Go.PM
open Go.Lib
theorem PU (x:List Rat):(aB (aC aM x)).length=1:=rfl
theorem aeQ (m:List (List Rat)):bA (aC (aC aM) m)=true:=mO PU rI
theorem aoM (m:List (List Rat)):hJ (aC (aC aM) m)=true:=zY PU GV fun _=>rfl
end Go.PM
namespace Go.PM
def AY:aE:=(LS [LO 1 (.box (LT 0)),LO 2 (.mv (.const (.string ⟨#[]⟩))),LO 3 (.mv LF)] (LS [LO 7 (LK 1),LO 8 (.call 171 [(LT 7)]),LM 6 8,LO 9 (LX 6 0),LO 10 (LX 6 1),LM 4 9,LM 5 10] (.seq (LS [LM 11 5,LO 12 (.un .not (LT 11))] (.cond (LT 12) (LS [LO 2 (.mv (.const (.string ⟨#[]⟩))),LO 3 (.mv LF)] .ret) .skip)) (LS [LM 13 4,LM 2 13,LO 3 (.mv LG)] .ret))))
def Eg:aU:=⟨14,[(.tmp 2),(.tmp 3)],AY⟩
theorem OR:fT 112=some Eg:=by kernel_rfl
end Go.PM
namespace Go.PM
end Go.PM
namespace Go.PM
open Go.Lib
theorem axT {b g j o e:Nat} {H:aA} {es:List VV} {w:Bool} {x x':VV} (h:aG H b g=some (es,e,w)) (hx:es[j]? = some x) (hf:PM.fz 7 H x=some x'):PM.fz depth H (.ptr b g j o)=some (x'.cJ o):=by
 show PM.fz (7+1) H _=_
 unfold PM.fz
 have:bA (.ptr b g j o)=false:=rfl
 simp[this,h,hx,hf]
theorem OG (q:Rat) (hk:aK q≤1099511627776):TC 112 [aM q] (B3 q):=by
 refine TC.walk ⟨true,false⟩ OR rfl (aMp rfl) (Ap (Bz _)) (G1 q) ?_
 have e1:=O7 q hk
 unfold B3 at e1 ⊢
 by_cases h:Dp q=true
 ·rw[if_pos h] at e1 ⊢
  simp only[Eg,AY,e1,bU,gO,cI,aS,bC,aY,fZ,Nat.reduceLeDiff,Nat.reduceLT,Nat.reduceSub,lU,bT,cK,fI,kA,nR,bne_iff_ne,ne_eq,not_false_eq_true,not_true_eq_false,VX,Nat.reduceEqDiff,Nat.reduceAdd]
  exact aL rfl
 ·rw[if_neg h] at e1 ⊢
  simp only[Eg,AY,e1,bU,gO,cI,aS,bC,aY,fZ,Nat.reduceLeDiff,Nat.reduceLT,Nat.reduceSub,lU,bT,cK,fI,kA,nR,bne_iff_ne,ne_eq,not_false_eq_true,not_true_eq_false,VX,Nat.reduceEqDiff,Nat.reduceAdd]
  exact aL rfl
end Go.PM
namespace Go.PM
open Go.Lib
end Go.PM