/- Texts of a claim, in one: part 13. -/
import Derived.KernelRfl
import Derived.Lib.LaidTab
import Derived.LaidLaws
import Derived.LaidMore
import Derived.MakeChecks
import Derived.Handed
import Derived.Test.YtjmflicajplclaaGreatDoorKXl
set_option linter.unusedSimpArgs false
set_option linter.unusedVariables false
namespace Go.PM
def wS:aD:=(LS [LO 15 (.bin .lss (LT 14) (LT 13))] (.seq (.cond (LT 15) .skip (.exit 0)) (.seq (.block 1 (LS [LM 16 14,LM 5 16] (LS [LM 18 0,LO 19 (.chk (LT 18)),LO 20 (LA 0 19),LO 21 (LL 20),LM 22 5,LO 23 (.iaddr 1 (LT 21) (LT 22)),LO 24 (LL 23),LO 25 (.call 181 [(LT 24)]),LM 17 25,LO 26 (LX 17 0),LO 27 (LX 17 1),LM 6 26,LM 7 27] (.seq (LS [LM 28 7,LO 29 (.un .not (LT 28))] (.cond (LT 29) (LS [LO 30 (.build [(.slice none 0 0)] [(0,1)] []),LN (.store 1 (LT 2) (LT 30)),LO 3 (.mv LF)] .ret) .skip)) (.dJ [LO 31 (LA 0 4),LO 32 (LL 31),LM 33 6,LO 34 (.lit [(.slice none 0 0)] 1 [(0,(LT 33))]),LO 35 (.app 1 24 (LT 32) (LT 34)),LO 36 (LA 0 4),LN (.store 1 (LT 36) (LT 35))]))))) (.dJ [LO 37 (.bin .add (LT 14) (LI 1)),LM 14 37]))))
def DG:aD:=(LS [LO 2 (.new [(.slice none 0 0)]),LO 3 (.mv LF)] (LS [LO 8 (.build [(.slice none 0 0)] [(0,1)] []),LO 4 (.new [(.slice none 0 0)]),LN (.store 1 (LT 4) (LT 8))] (.seq (LS [LM 9 0,LO 10 (.chk (LT 9)),LO 11 (LA 0 10),LO 12 (LL 11),LO 13 (.len (LT 12)),LO 14 (.mv (LI 0))] (.block 0 (.loop wS))) (LS [LO 38 (.load true 1 (LT 4)),LN (.store 1 (LT 2) (LT 38)),LO 3 (.mv LG)] .ret))))
def GF:aT:=⟨39,[(.cell 2 true 1),(.tmp 3)],DG⟩
theorem Ml:gO 138=some GF:=by kernel_rfl
end Go.PM
namespace Go.PM
open Go.Lib
theorem Ub (x:List Rat):(aB (aQ bM x)).length=1:=rfl
theorem WJ (m:List (List Rat)):bA (aQ (aQ bM) m)=true:=oD Ub FI
end Go.PM
namespace Go.PM
def Cv:aD:=(LS [LO 2 (.new [(.slice none 0 0)]),LO 3 (.mv LF)] (LS [LM 7 0,LO 8 (.build [(.slice none 0 0)] [(0,1)] [(0,(LT 7))]),LO 4 (.new [(.slice none 0 0)]),LN (.store 1 (LT 4) (LT 8))] (LS [LO 10 (.call 138 [(LT 4)]),LM 9 10,LO 11 (LX 9 0),LO 12 (LX 9 1),LO 5 (.new [(.slice none 0 0)]),LN (.store 1 (LT 5) (LT 11)),LM 6 12] (.seq (LS [LM 13 6,LO 14 (.un .not (LT 13))] (.cond (LT 14) (LS [LO 15 (.build [(.slice none 0 0)] [(0,1)] []),LN (.store 1 (LT 2) (LT 15)),LO 3 (.mv LF)] .ret) .skip)) (LS [LO 16 (.load true 1 (LT 5)),LN (.store 1 (LT 2) (LT 16)),LO 3 (.mv LG)] .ret)))))
def Fg:aT:=⟨17,[(.cell 2 true 1),(.tmp 3)],Cv⟩
theorem J1:gO 61=some Fg:=by kernel_rfl
end Go.PM
namespace Go.PM
def dW:aD:=(.seq (LS [LM 20 7,LM 21 4,LO 22 (.bin .lss (LT 20) (LT 21))] (.cond (LT 22) .skip (.exit 0))) (.seq (.block 1 (LS [LM 26 0,LM 27 7,LO 28 (.iaddr 1 (LT 26) (LT 27)),LO 29 (LL 28),LO 30 (.call 57 [(LT 29)]),LM 25 30,LO 31 (LX 25 0),LO 32 (LX 25 1),LM 8 31,LM 9 32] (.seq (LS [LM 33 9,LO 34 (.un .not (LT 33)),LM 35 34,LZ 35 36 (.mv (LT 8)),LZ 35 37 (.len (LT 36)),LZ 35 38 (.mv (LT 4)),LZ 35 39 (.bin .neq (LT 37) (LT 38)),LO 40 (.pick (LT 35) LG (LT 39)),LM 41 40,LZ 41 42 (.mv (LT 8)),LZ 41 43 (.call 58 [(LT 42)]),LZ 41 44 (.un .not (LT 43)),LO 45 (.pick (LT 41) LG (LT 44)),LM 46 45,LZ 46 47 (.mv (LT 8)),LZ 46 48 (.mv (LT 7)),LZ 46 49 (.iaddr 3 (LT 47) (LT 48)),LZ 46 50 (LK 49),LZ 46 51 (.call 59 [(LT 50)]),LZ 46 52 (.un .not (LT 51)),LO 53 (.pick (LT 46) LG (LT 52))] (.cond (LT 53) (LS [LO 54 (.build [(.slice none 0 0)] [(0,1)] []),LN (.store 1 (LT 2) (LT 54)),LO 3 (.mv LF)] .ret) .skip)) (LS [LM 55 6,LM 56 55,LZ 56 57 (.mv (LT 8)),LZ 56 58 (.call 60 [(LT 57)]),LZ 56 59 (.call 59 [(LT 58)]),LZ 56 60 (.un .not (LT 59)),LO 61 (.pick (LT 56) LG (LT 60)),LM 6 61] (.dJ [LM 62 5,LM 63 8,LO 64 (.lit [(.slice none 0 0)] 1 [(0,(LT 63))]),LO 65 (.app 1 24 (LT 62) (LT 64)),LM 5 65]))))) (.dJ [LM 23 7,LO 24 (.bin .add (LT 23) (LI 1)),LM 7 24])))
def pW:aD:=(LS [LO 2 (.new [(.slice none 0 0)]),LO 3 (.mv LF)] (LS [LM 10 0,LO 11 (.len (LT 10)),LM 4 11] (.seq (LS [LM 12 4,LO 13 (.bin .lss (LT 12) (LI 1)),LM 14 13,LZ 14 15 (.mv (LT 4)),LZ 14 16 (.bin .gtr (LT 15) (LI 12)),LO 17 (.pick (LT 14) LG (LT 16))] (.cond (LT 17) (LS [LO 18 (.build [(.slice none 0 0)] [(0,1)] []),LN (.store 1 (LT 2) (LT 18)),LO 3 (.mv LF)] .ret) .skip)) (LS [LO 19 (.lit [(.slice none 0 0)] 0 []),LM 5 19] (LS [LO 6 (.mv LF)] (.seq (LS [LO 7 (.mv (LI 0))] (.block 0 (.loop dW))) (.seq (LS [LM 66 6,LO 67 (.un .not (LT 66))] (.cond (LT 67) (LS [LO 68 (.build [(.slice none 0 0)] [(0,1)] []),LN (.store 1 (LT 2) (LT 68)),LO 3 (.mv LF)] .ret) .skip)) (LS [LM 69 5,LO 70 (.call 62 [(LT 69)]),LO 71 (.call 61 [(LT 70)]),LO 72 (LX 71 0),LO 73 (LX 71 1),LN (.store 1 (LT 2) (LT 72)),LM 3 73] .ret))))))))
def tQ:aT:=⟨74,[(.cell 2 true 1),(.tmp 3)],pW⟩
theorem HL:gO 16=some tQ:=by kernel_rfl
def wI:aD:=(.seq (LS [LM 11 4,LM 12 0,LO 13 (.len (LT 12)),LO 14 (.bin .lss (LT 11) (LT 13))] (.cond (LT 14) .skip (.exit 0))) (.seq (.block 1 (LS [LM 17 0,LM 18 4,LO 19 (.iaddr 1 (LT 17) (LT 18)),LO 20 (LL 19),LO 21 (.call 60 [(LT 20)]),LO 5 (.new [(.bool false),(.slice none 0 0),(.slice none 0 0)]),LN (.store 3 (LT 5) (LT 21))] (LS [LO 22 (LK 3),LO 23 (LK 5),LO 24 (.call 80 [(LT 22),(LT 23)])] (.cond (LT 24) (.dJ [LO 25 (LK 5),LN (.store 3 (LT 3) (LT 25))]) .skip)))) (.dJ [LM 15 4,LO 16 (.bin .add (LT 15) (LI 1)),LM 4 16])))
def wT:aD:=(.seq (LS [LM 34 9,LM 35 0,LO 36 (.len (LT 35)),LO 37 (.bin .lss (LT 34) (LT 36))] (.cond (LT 37) .skip (.exit 4))) (.seq (.block 5 (.dJ [LM 40 8,LM 41 0,LM 42 7,LO 43 (.iaddr 1 (LT 41) (LT 42)),LO 44 (LL 43),LM 45 9,LO 46 (.iaddr 3 (LT 44) (LT 45)),LO 47 (LK 46),LO 48 (LK 3),LQ 49 (.call 81 [(LT 47),(LT 48)]),LQ 50 (.lit [(.bool false),(.slice none 0 0),(.slice none 0 0)] 1 [(0,(LT 49))]),LO 51 (.app 3 56 (LT 40) (LT 50)),LM 8 51])) (.dJ [LM 38 9,LO 39 (.bin .add (LT 38) (LI 1)),LM 9 39])))
def wV:aD:=(.seq (LS [LM 27 7,LM 28 0,LO 29 (.len (LT 28)),LO 30 (.bin .lss (LT 27) (LT 29))] (.cond (LT 30) .skip (.exit 2))) (.seq (.block 3 (LS [LO 33 (.lit [(.bool false),(.slice none 0 0),(.slice none 0 0)] 0 []),LM 8 33] (.seq (LS [LO 9 (.mv (LI 0))] (.block 4 (.loop wT))) (LS [LM 52 8,LM 53 7,LO 54 (.call 83 []),LM 55 8,LO 56 (.call 60 [(LT 55)]),LO 57 (.call 82 [(LT 54),(LT 56)]),LO 58 (.iaddr 3 (LT 52) (LT 53)),LN (.store 3 (LT 58) (LT 57))] (.dJ [LM 59 6,LM 60 8,LO 61 (.lit [(.slice none 0 0)] 1 [(0,(LT 60))]),LO 62 (.app 1 24 (LT 59) (LT 61)),LM 6 62]))))) (.dJ [LM 31 7,LO 32 (.bin .add (LT 31) (LI 1)),LM 7 32])))
def DK:aD:=(LS [LO 2 (.mv (.const (.slice none 0 0)))] (LS [LO 10 (.call 77 []),LO 3 (.new [(.bool false),(.slice none 0 0),(.slice none 0 0)]),LN (.store 3 (LT 3) (LT 10))] (.seq (LS [LO 4 (.mv (LI 0))] (.block 0 (.loop wI))) (LS [LO 26 (.lit [(.slice none 0 0)] 0 []),LM 6 26] (.seq (LS [LO 7 (.mv (LI 0))] (.block 2 (.loop wV))) (LS [LM 63 6,LM 2 63] .ret))))))
def Gc:aT:=⟨64,[(.tmp 2)],DK⟩
theorem LJ:gO 62=some Gc:=by kernel_rfl
end Go.PM
namespace Go.PM
open Go.Lib
theorem alG {b g j o e:Nat} {H:aA} {es:List VV} {w:Bool} {x x':VV} (h:aH H b g=some (es,e,w)) (hx:es[j]? = some x) (hf:PM.fz 7 H x=some x'):PM.fz depth H (.ptr b g j o)=some (x'.dB o):=by
 show PM.fz (7+1) H _=_
 unfold PM.fz
 have:bA (.ptr b g j o)=false:=rfl
 simp[this,h,hx,hf]
end Go.PM
namespace Go.PM
open Go.Lib
set_option maxHeartbeats 1000000 in
theorem GO (qs:List Rat) (hn:qs.length≤1000000) (hb:∀q∈qs,bQ q≤1099511627776):FC 181 [aQ bM qs] (Xg (YB sV 1 (Cw qs)) (Cw qs).isSome):=by
 refine FC.Mu ⟨true,false⟩ Gd (Nat.le_of_ble_eq_true rfl) fun n => ?_
 have e0:∀K,jY false [.string ⟨#[]⟩] 0 [] K=some (.ref K.length 0 0 0 0,K++[.row 0 [] 1 true]):=fun K=>iA rfl
 simp only[CH,Ay,e0,List.length_replicate,kC,VX,Nat.reduceEqDiff,Nat.reduceAdd,Nat.reduceLeDiff,Nat.reduceLT,Nat.reduceSub]
 refine aP (fun(i:Nat) ρ H=>i≤qs.length∧(∀q∈qs.take i,xA q=true)∧H=List.replicate n cA.dead++[cA.row i (((qs.take i).map J5).map sV) 1 true]∧ρ 4 = .ref n i 0 i i∧ρ 0=aQ bM qs∧ρ 10=VI qs.length∧ρ 11=VI i) (fun i=>qs.length-i) 0 ⟨Nat.zero_le _,by simp,rfl,rfl,rfl,rfl,rfl⟩ ?_
 rintro i ρ H ⟨hi,rU,rfl,g4,g0,g10,g11⟩
 have gG:aH (List.replicate n cA.dead++[cA.row i (((qs.take i).map J5).map sV) 1 true]) n i=some (((qs.take i).map J5).map sV,1,true):=by rw[Am,aU]
 by_cases cK:(i:Int)<(qs.length:Int)
 ·obtain⟨q,hq⟩:∃q,qs[i]? = some q:=⟨_,List.getElem?_eq_getElem (by omega)⟩
  have hqm:=List.mem_of_getElem? hq
  have a1:=fun H=>aI (f:=bM) (t := .op) (H:=H) (size:=3) (k := .i64) hq rfl
  have wi:IntKind.i64.wrap ((i:Int)+1)=((i+1:Nat):Int):=wrapN (i+1) (by omega) (by omega)
  have e2:=Ln q (hb q hqm)
  unfold SK at e2
  cases hf:xA q with
  |
   false =>
   rw[if_neg (by simp[hf])] at e2
   rw[Qt hqm hf]
   simp only[nR,g4,g0,g10,g11,cK,a1,e2,gD,kC,VX,Nat.reduceEqDiff,Nat.reduceAdd,Nat.reduceLeDiff,Nat.reduceLT,Nat.reduceSub]
   exact⟨_,Bk (by simp),rfl,Bv,.tree [] .nil,rfl,rfl⟩
  |
   true =>
   rw[if_pos hf] at e2
   have eL:∀H,jY false [.string ⟨#[]⟩] 1 [(0,bC (Ff q))] H=some (.tree [sV (J5 q)] (.cl 1),H):=fun H=>gJ rfl rfl rfl
   have eS:∀H,dF 1 (.tree [sV (J5 q)] (.cl 1)) H=some [sV (J5 q)]:=fun H=>dV rfl rfl
   have eP:eE n 1 16 (.ref n i 0 i i) [sV (J5 q)] (List.replicate n cA.dead++[cA.row i (((qs.take i).map J5).map sV) 1 true])=some (.ref n (i+1) 0 (i+1) (i+1),List.replicate n cA.dead++[cA.row (i+1) (((qs.take (i+1)).map J5).map sV) 1 true]):=by
    rw[gZ (f:=sV) (xs:=(qs.take i).map J5) gG (by simp;omega) (Nat.le_refl _) (by decide) (by decide) (by omega),iK hq]
    simp only[List.map_append,BR]
    rfl
   simp only[nR,g4,g0,g10,g11,cK,a1,e2,eL,eS,eP,wi,gD,kC,VX,Nat.reduceEqDiff,Nat.reduceAdd,Nat.reduceLeDiff,Nat.reduceLT,Nat.reduceSub]
   refine⟨i+1,by omega,by omega,fun p hp => ?_,by (repeat' apply And.intro)<;>first | rfl | trivial | assumption⟩
   rw[iK hq] at hp
   rcases List.mem_append.1 hp with h | h
   ·exact rU p h
   ·rw[List.mem_singleton] at h;subst h;exact hf
 ·have lS:i=qs.length:=by omega
  subst lS
  rw[List.take_length] at rU gG
  rw[OC rU]
  simp only[nR,g4,g10,g11,cK,List.take_length,kC,VX,Nat.reduceEqDiff,Nat.reduceAdd,Nat.reduceLeDiff,Nat.reduceLT,Nat.reduceSub]
  refine⟨_,⟨rfl,fun _ _ _ _ _ h=>h⟩,by simp[dY,pC,lQ],by simp only[dR,List.all_cons,List.all_nil,Bool.and_true];exact DY (fun _=>rfl) _,.ref n qs.length 0 qs.length qs.length,rfl,⟨n,qs.length,qs.length,Nat.le_refl _,by simp,by simp,by simp,gG⟩⟩
set_option maxHeartbeats 2000000 in
theorem MT (m:List (List Rat)) (hn:m.length≤1000000) (hb:∀r∈m,r.length≤1000000∧∀q∈r,bQ q≤1099511627776):FC 138 [(Ns (aQ (aQ bM) m)).dB 0] (Xg (CG ((uH m).getD [])) (uH m).isSome):=by
 refine FC.Mu ⟨true,false⟩ Ml (Nat.le_of_ble_eq_true rfl) fun n => ?_
 have s0:cD n 1 (.ptr (n+1) 0 0 0) (.agg [.tree [] .nil]) (List.replicate n cA.dead++[cA.row 0 [.tree [] .nil] 1 true,.row 0 [.tree [] .nil] 1 true])=some (List.replicate n cA.dead++[cA.row 0 [.tree [] .nil] 1 true,.row 0 [.agg [.tree [] .nil]] 1 true]):=by
  rw[bX (e:=1) (g:=0) (j:=0) (by rw[xK,jB,aU]) (by exact Nat.zero_lt_one) (by omega) rfl rfl,Ts]
  rfl
 simp only[GF,DG,s0,Wh,DV,List.length_replicate,List.length_cons,List.length_nil,List.append_assoc,List.cons_append,List.nil_append,jJ,kC,VX,Nat.reduceEqDiff,Nat.reduceAdd,Nat.reduceLeDiff,Nat.reduceLT,Nat.reduceSub]
 refine aP (fun(i:Nat) ρ H=>i≤m.length∧vU n H∧(∃x v bE,aH H n 0=some ([.tree [] .nil],1,true)∧aH H (n+1) 0=some ([x],1,true)∧aB x=[v]∧uH (m.take i)=some bE∧Pq sV 1 bE (n+2) H.length H v)∧ρ 2 = .ptr n 0 0 0∧ρ 4 = .ptr (n+1) 0 0 0∧ρ 0=(Ns (aQ (aQ bM) m)).dB 0∧ρ 13=VI m.length∧ρ 14=VI i) (fun i=>m.length-i) 0
  ⟨Nat.zero_le _,⟨[.row 0 [.tree [] .nil] 1 true,.row 0 [.agg [.tree [] .nil]] 1 true],rfl,rfl⟩,⟨.agg [.tree [] .nil],.tree [] .nil,[],by rw[Am,aU],by rw[xK,jB,aU],rfl,rfl,.inl ⟨rfl,rfl⟩⟩,rfl,rfl,rfl,rfl,rfl⟩ ?_
 rintro i ρ H ⟨hi,hO,⟨x,v,bE,vO,AW,hx,Gv,hv⟩,g2,g4,g0,g13,g14⟩
 have BP:=eW AW
 by_cases cK:(i:Int)<(m.length:Int)
 ·obtain⟨r,hr⟩:∃r,m[i]? = some r:=⟨_,List.getElem?_eq_getElem (by omega)⟩
  have CE:=hb r (List.mem_of_getElem? hr)
  have a1:=fun H=>aI (f:=aQ bM) (t := .op) (H:=H) (size:=1) (k := .i64) hr rfl
  have wi:IntKind.i64.wrap ((i:Int)+1)=((i+1:Nat):Int):=wrapN (i+1) (by omega) (by omega)
  simp only[wS,g2,g4,g0,g13,g14,cK,a1,Wh,kC,VX,Nat.reduceEqDiff,Nat.reduceAdd,Nat.reduceLeDiff,Nat.reduceLT,Nat.reduceSub]
  refine NL (n:=n) (GO r CE.1 CE.2) rfl (X8 (aK (FI _))) hO YB.cL fun u H2 p2 hO2 _ hu => ?_
  cases ht:Cw r with
  |
   none =>
   rw[ht] at hu
   have hu:u = .tree [] .nil:=hu
   subst hu
   have akS:uH m=none:=mapM_none ht (List.mem_of_getElem? hr)
   rw[akS]
   have s1:cD n 1 (.ptr n 0 0 0) (.agg [.tree [] .nil]) H2=some (H2.set n (.row 0 [.agg [.tree [] .nil]] 1 true)):=by
    rw[bX (cP p2 vO) (by exact Nat.zero_lt_one) (Nat.le_refl _) rfl rfl]
    rfl
   have s2:cN true 1 (.ptr n 0 0 0) (H2.set n (.row 0 [.agg [.tree [] .nil]] 1 true))=some (.agg [.tree [] .nil]):=by
    rw[bR,bJ (cP p2 vO)]
    rfl
   simp only[g2,g4,s1,s2,Option.isSome_none,kC,VX,Nat.reduceEqDiff,Nat.reduceAdd,Nat.reduceLeDiff,Nat.reduceLT,Nat.reduceSub]
   exact⟨_,Bk (by rw[List.length_set];have:=p2.length_le;omega),rfl,Bv,.agg [.tree [] .nil],rfl,_,rfl,.inl ⟨rfl,rfl⟩⟩
  |
   some ys =>
   rw[ht] at hu
   obtain⟨b,g,c,k1,k2,rfl,k3,k4⟩:=hu
   have eL:∀K,jY false [.slice none 0 0] 1 [(0,.ref b g 0 ys.length c)] K=some (.tree [.ref b g 0 ys.length c] (.cl 1),K):=fun K=>gJ rfl rfl rfl
   have eS:∀K,dF 1 (.tree [.ref b g 0 ys.length c] (.cl 1)) K=some [.ref b g 0 ys.length c]:=fun K=>dV rfl rfl
   obtain⟨v',H3,ap,hv',cL,hlen,Lr,Bw,_⟩:=(hv.cL (dO.pre p2)).snoc (lJ:=n) (by omega) (by rw[qZ Gv,List.length_take];omega) ⟨b,g,c,ys⟩ k1 (by simp only;omega) k3 k4
   have Nn:=cL _ _ _ (by omega) (cP p2 AW)
   have l1:cN false 1 (.ptr (n+1) 0 0 0) H2=some v:=by
    rw[bR,cP p2 AW]
    simp[dK,hx]
   have l2:aH H2 (n+1) 0=some ([x],1,true):=cP p2 AW
   have wX:=hv'.gE
   have s1:cD n 1 (.ptr (n+1) 0 0 0) v' H3=some (H3.set (n+1) (.row 0 [v'] 1 true)):=by
    rw[bX Nn (by exact Nat.zero_lt_one) (by omega) (by rw[wX.2.1];rfl) (by rw[wX.2.1];simp[wX.1])]
    rfl
   have hO3:=(Lr n (by omega) hO2).set (b:=n+1) (g:=0) (e:=1) (es:=[v']) (w:=true) (by omega) (by
    rcases hv' with⟨rfl,_⟩ | ⟨b',g',Yx,q1,q2,rfl,_⟩
    ·rfl
    ·simp[pC,dY];omega)
   simp only[g4,g14,wi,eL,eS,l1,ap,s1,Nn,l2,Ag,Nat.add_zero,Option.isSome_some,kC,VX,Nat.reduceEqDiff,Nat.reduceAdd,Nat.reduceLeDiff,Nat.reduceLT,Nat.reduceSub]
   refine⟨i+1,by omega,by omega,hO3,⟨v',v',bE++[ys],aZ (by omega) (cL _ _ _ (by omega) (cP p2 vO)),bJ Nn,wX.2.1,?_,?_⟩,by (repeat' apply And.intro)<;>first | rfl | trivial | assumption⟩
   ·rw[iK hr]
    exact Eb Gv ht
   ·rw[List.length_set]
    exact hv'.cL (dO.set (by omega))
 ·have lS:i=m.length:=by omega
  subst lS
  rw[List.take_length] at Gv
  rw[Gv]
  have wX:=hv.gE
  have l1:cN true 1 (.ptr (n+1) 0 0 0) H=some (.agg [v]):=by
   rw[bR,AW]
   simp[dK,hx]
  have s1:cD n 1 (.ptr n 0 0 0) (.agg [v]) H=some (H.set n (.row 0 [.agg [v]] 1 true)):=by
   rw[bX vO (by exact Nat.zero_lt_one) (Nat.le_refl _) rfl (by simp[aB,wX.1])]
   rfl
  have s2:cN true 1 (.ptr n 0 0 0) (H.set n (.row 0 [.agg [v]] 1 true))=some (.agg [v]):=by
   rw[bR,bJ vO]
   rfl
  simp only[wS,g2,g4,g13,g14,cK,l1,s1,s2,Option.isSome_some,kC,VX,Nat.reduceEqDiff,Nat.reduceAdd,Nat.reduceLeDiff,Nat.reduceLT,Nat.reduceSub]
  have Lr:dY n v=true:=by
   rcases hv with⟨rfl,_⟩ | ⟨b',g',Yx,q1,q2,rfl,_⟩
   ·rfl
   ·simp[dY];omega
  obtain⟨L,rfl,hL⟩:=hO
  refine⟨L.set 0 (.row 0 [.agg [v]] 1 true),⟨by simp,fun _ _ _ _ _ h=>by rw[BR];exact h⟩,by simp[dY,pC,Lr,lQ],?_,.agg [v],rfl,v,rfl,?_⟩
  ·have:=(vU.set (n:=n) (b:=n) (g:=0) (e:=1) (es:=[.agg [v]]) (w:=true) ⟨L,rfl,hL⟩ (Nat.le_refl _) (by simp[pC,dY,Lr]))
   rw[BR] at this
   obtain⟨L',h1,h2⟩:=this
   rw[List.append_cancel_left h1]
   exact h2
  ·rw[←BR,List.length_set]
   have:=hv.rg.cL (H':=(List.replicate n cA.dead++L).set n (.row 0 [.agg [v]] 1 true)) (dO.set (by omega))
   rw[DV] at this
   exact this.wide (by omega) (Nat.le_refl _)
set_option maxHeartbeats 1000000 in
theorem Ka (m:List (List Rat)) (hn:m.length≤1000000) (hb:∀r∈m,r.length≤1000000∧∀q∈r,bQ q≤1099511627776):FC 61 [aQ (aQ bM) m] (Xg (CG ((uH m).getD [])) (uH m).isSome):=by
 refine FC.Mu ⟨true,false⟩ J1 (Nat.le_of_ble_eq_true rfl) fun n => ?_
 have s0:cD n 1 (.ptr (n+1) 0 0 0) (.agg [aQ (aQ bM) m]) (List.replicate n cA.dead++[cA.row 0 [.tree [] .nil] 1 true,.row 0 [.tree [] .nil] 1 true])=some (List.replicate n cA.dead++[cA.row 0 [.tree [] .nil] 1 true,.row 0 [Ns (aQ (aQ bM) m)] 1 true]):=by
  rw[bX (e:=1) (g:=0) (j:=0) (by rw[xK,jB,aU]) (by exact Nat.zero_lt_one) (by omega) rfl rfl,Ts]
  rfl
 have hf:PM.fz depth (List.replicate n cA.dead++[cA.row 0 [.tree [] .nil] 1 true,.row 0 [Ns (aQ (aQ bM) m)] 1 true]) (.ptr (n+1) 0 0 0)=some ((Ns (aQ (aQ bM) m)).dB 0):=alG (es:=[Ns (aQ (aQ bM) m)]) (e:=1) (w:=true) (by rw[xK,jB,aU]) rfl (aJ (YY (WJ _)))
 simp only[Fg,Cv,s0,DV,List.length_replicate,List.length_cons,List.length_nil,List.append_assoc,List.cons_append,List.nil_append,jJ,kC,VX,Nat.reduceEqDiff,Nat.reduceAdd,Nat.reduceLeDiff,Nat.reduceLT,Nat.reduceSub]
 refine(MT m hn hb).adE rfl (X8 hf) ?_
 rintro r L ⟨v,rfl,hv⟩ hr hL
 have hv:=hv.cL dO.move
 have hlen:(List.replicate n cA.dead++[cA.row 0 [.tree [] .nil] 1 true,.row 0 [Ns (aQ (aQ bM) m)] 1 true]).length=n+2:=by simp
 rw[hlen] at hv
 obtain⟨c,rfl,Yw,Yi,hc3⟩:=hv.own (n:=n) (by omega)
 have hT:Cp n (n+2) (List.replicate n cA.dead++[cA.row 0 [.tree [] .nil] 1 true,.row 0 [Ns (aQ (aQ bM) m)] 1 true]++L):=by
  refine Cp.app (fun b g es e w hb hr => ?_) (by simp) hL
  rw[List.getElem?_eq_none (by rw[hlen];exact hb)] at hr
  cases hr
 generalize hH:List.replicate n cA.dead++[cA.row 0 [.tree [] .nil] 1 true,.row 0 [Ns (aQ (aQ bM) m)] 1 true]++L=H2 at *
 have vO:aH H2 n 0=some ([.tree [] .nil],1,true):=by rw[←hH,List.append_assoc,Am,List.cons_append,aU]
 have F3:n+2≤H2.length:=by rw[←hH];simp
 have hll:n+2+L.length=H2.length:=by rw[←hH];simp;omega
 rw[hll] at hv
 have s1:cD n 1 (.ptr H2.length 0 0 0) (.agg [c]) (H2++[cA.row 0 [.tree [] .nil] 1 true])=some (H2++[cA.row 0 [.agg [c]] 1 true]):=by
  rw[bX (e:=1) (g:=0) (j:=0) iD (by exact Nat.zero_lt_one) (by omega) rfl (by simp[aB,Yw]),GN]
  rfl
 cases ht:uH m with
 |
  none =>
  have s2:cD n 1 (.ptr n 0 0 0) (.agg [.tree [] .nil]) (H2++[cA.row 0 [.agg [c]] 1 true])=some ((H2++[cA.row 0 [.agg [c]] 1 true]).set n (.row 0 [.agg [.tree [] .nil]] 1 true)):=by
   rw[bX (bK vO) (by exact Nat.zero_lt_one) (Nat.le_refl _) rfl rfl]
   rfl
  have s3:cN true 1 (.ptr n 0 0 0) ((H2++[cA.row 0 [.agg [c]] 1 true]).set n (.row 0 [.agg [.tree [] .nil]] 1 true))=some (.agg [.tree [] .nil]):=by
   rw[bR,bJ (bK vO)]
   rfl
  simp only[s1,s2,s3,Option.isSome_none,jJ,kC,VX,Nat.reduceEqDiff,Nat.reduceAdd,Nat.reduceLeDiff,Nat.reduceLT,Nat.reduceSub]
  exact⟨_,Bk (by rw[List.length_set,List.length_append];omega),rfl,Bv,.agg [.tree [] .nil],rfl,_,rfl,.inl ⟨rfl,rfl⟩⟩
 |
  some bE =>
  rw[ht] at hv
  have l1:cN true 1 (.ptr H2.length 0 0 0) (H2++[cA.row 0 [.agg [c]] 1 true])=some (.agg [c]):=by
   rw[bR,iD]
   rfl
  have s2:cD n 1 (.ptr n 0 0 0) (.agg [c]) (H2++[cA.row 0 [.agg [c]] 1 true])=some ((H2++[cA.row 0 [.agg [c]] 1 true]).set n (.row 0 [.agg [c]] 1 true)):=by
   rw[bX (bK vO) (by exact Nat.zero_lt_one) (Nat.le_refl _) rfl (by simp[aB,Yw])]
   rfl
  have s3:cN true 1 (.ptr n 0 0 0) ((H2++[cA.row 0 [.agg [c]] 1 true]).set n (.row 0 [.agg [c]] 1 true))=some (.agg [c]):=by
   rw[bR,bJ (bK vO)]
   rfl
  simp only[s1,s2,s3,l1,Option.isSome_some,jJ,kC,VX,Nat.reduceEqDiff,Nat.reduceAdd,Nat.reduceLeDiff,Nat.reduceLT,Nat.reduceSub]
  have hT2:Cp n (n+2) ((H2++[cA.row 0 [.agg [c]] 1 true]).set n (.row 0 [.agg [c]] 1 true)):=Cp.set (Cp.aqU hT (by simp[dR,pC,dY,hc3])) (by omega)
  obtain⟨L2,k1,k2,k3⟩:=QS (n:=n) (k:=n+2) (by omega) (by rw[List.length_set,List.length_append];omega) hT2
  refine⟨L2,k1,by simp[dY,pC,hc3,lQ],k2,.agg [c],rfl,?_⟩
  obtain⟨c',TG,hv⟩:=hv
  cases TG
  have hl3:=k1.1
  rw[List.length_set,List.length_append,List.length_append,List.length_replicate] at hl3
  simp only[Option.getD_some] at hv
  exact⟨c,rfl,(hv.cL (H':=List.replicate n cA.dead++L2) fun b g x h1 h2 h3=>k3 b g x (by omega) (aZ (by omega) (bK h3))).wide (by omega) (by simp only[List.length_cons,List.length_nil] at hl3;omega)⟩
end Go.PM
namespace Go.PM
section
variable {α:Type}
def vec (n:Nat) (f:Nat→α):List α:=(List.range n).map f
theorem Ha (n:Nat) (f:Nat→α):(vec n f).length=n:=by simp[vec]
theorem Vy {n i:Nat} {f:Nat→α} (h:i<n):(vec n f)[i]? = some (f i):=by simp[vec,h]
theorem afX {n:Nat} {f:Nat→α} {x:α}:x∈vec n f↔∃i,i<n∧f i=x:=by simp[vec]
end
end Go.PM
namespace Go.PM
open Go.Lib
theorem Y5 {qs:List Rat} {B i:Nat} {y:Rat} (h:∀q∈qs,bQ q≤B) (hy:bQ y≤B):∀q∈qs.set i y,bQ q≤B:=fun q hq=>by
 rcases List.mem_or_eq_of_mem_set hq with h1 | rfl
 ·exact h q h1
 ·exact hy
theorem Vv.own {n lo hi:Nat} {s:Kr} {H:aA} {v:VV} (h:Vv s lo hi H v) (hn:n≤lo):∃a b c,v = .agg [a,b,c]∧cC a=true∧cC b=true∧cC c=true∧dY n a=true∧dY n b=true∧dY n c=true:=by
 obtain⟨a,b,c,m1,m2,rfl,l1,l2,l3,ha,hb,hc⟩:=h
 refine⟨a,b,c,rfl,ha.cell,hb.cell,hc.cell,?_,?_,?_⟩
 ·rcases ha with⟨rfl,_⟩ | ⟨b,g,c,h1,h2,rfl,h3⟩
  ·rfl
  ·simp[dY];omega
 ·rcases hb with⟨rfl,_⟩ | ⟨b,g,c,rs,h1,h2,rfl,h3⟩
  ·rfl
  ·simp[dY];omega
 ·rcases hc with⟨rfl,_⟩ | ⟨b,g,c,h1,h2,rfl,h3⟩
  ·rfl
  ·simp[dY];omega
end Go.PM
namespace Go.PM
end Go.PM
namespace Go.PM
open Go.Lib
def SvS (s:Kr) (lo hi:Nat) (H:aA) (v:VV):Prop:=(∃a b c,v = .agg [a,b,c]∧cC a=true∧cC b=true∧cC c=true∧∀n,n≤lo→dY n a=true∧dY n b=true∧dY n c=true)∧Gx (svV s) lo hi H v
theorem SvS.cL {s:Kr}:∀ {lo hi H H' v},SvS s lo hi H v→dO lo hi H H'→SvS s lo hi H' v:=fun h hk=>⟨h.1,h.2.cL hk⟩
theorem SvS.wide {s:Kr}:∀ {lo hi lJ qW:Nat} {H:aA} {v:VV},SvS s lo hi H v→lJ≤lo→hi≤qW→SvS s lJ qW H v:=fun h hl hh=>by
 obtain⟨⟨a,b,c,h1,h2,h3,h4,h5⟩,h6⟩:=h
 exact⟨⟨a,b,c,h1,h2,h3,h4,fun n hn=>h5 n (by omega)⟩,fun H' hk=>h6 H' (hk.sub hl hh)⟩
theorem SvS.ag {s:Kr} {lo hi:Nat} {H:aA} {v:VV} (h:SvS s lo hi H v) (n:Nat) (hn:n≤lo):∃a b c,v = .agg [a,b,c]∧cC a=true∧cC b=true∧cC c=true∧dY n a=true∧dY n b=true∧dY n c=true:=by
 obtain⟨⟨a,b,c,h1,h2,h3,h4,h5⟩,_⟩:=h
 exact⟨a,b,c,h1,h2,h3,h4,h5 n hn⟩
end Go.PM
namespace Go.PM
open Go.Lib
theorem Ye {qs:List Rat} {x:List ByteArray} (h:Cw qs=some x):x.length=qs.length:=by
 unfold Cw at h
 split at h
 ·cases h
  rw[List.length_map]
 ·cases h
theorem YB.own {α:Type} {f:α→VV} {e lo hi n:Nat} {H:aA} {v:VV} {o:Option (List α)} (h:YB f e o lo hi H v) (hn:n≤lo):dY n v=true:=by
 cases o with
 |
  none =>
  have h:v = .tree [] .nil:=h
  subst h
  rfl
 |
  some ys =>
  obtain⟨b,g,c,h1,h2,rfl,h3⟩:=h
  simp[dY];omega
theorem Pq.own {α:Type} {f:α→VV} {e lo hi n:Nat} {H:aA} {v:VV} {bE:List (List α)} (h:Pq f e bE lo hi H v) (hn:n≤lo):dY n v=true:=by
 rcases h with⟨rfl,_⟩ | ⟨b,g,rs,q1,q2,rfl,_⟩
 ·rfl
 ·simp[dY];omega
end Go.PM
namespace Go.PM
open Go.Lib
end Go.PM
namespace Go.PM
open Go.Lib
section
variable {α:Type} {f:α→VV} {e:Nat}
structure RdT (f:α→VV) (e:Nat) (m:List (List α)) (H:aA) (v:VV):Prop where
 len:∀H',H <+: H'→qB v H'=some (VI m.length)
 get:∀H',H <+: H'→∀(i:Nat) r,m[i]? = some r→∃p w,bP 1 v (VI i) H'=some p∧cN false 1 p H'=some w∧Rd f e r H' w
theorem RdT.pre {m:List (List α)} {H H':aA} {v:VV} (h:RdT f e m H v) (hh:H <+: H'):RdT f e m H' v:=⟨fun H2 h2=>h.len H2 (hh.trans h2),fun H2 h2=>h.get H2 (hh.trans h2)⟩
theorem RdT.tree {m:List (List α)} {H:aA} {t:TK} (hs:∀x,(aB (f x)).length=e):RdT f e m H (.tree (m.map (aQ f)) t) :=
 ⟨fun _ _=>eI,fun _ _ i x hx=>⟨_,_,aI hx rfl,by rw[Ku];rfl,Rd.tree hs⟩⟩
theorem RdT.row {m:List (List α)} {H:aA} {b g n c:Nat} {w:Bool} (h:aH H b g=some (m.map (aQ f),1,w)) (hn:n=m.length) (hs:∀x,(aB (f x)).length=e):RdT f e m H (.ref b g 0 n c):=by
 subst hn
 refine⟨fun H' hh=>dP (cP hh h),fun H' hh i x hx => ?_⟩
 have hi:=(List.getElem?_eq_some_iff.1 hx).1
 have e1:=aS (o:=0) (n:=m.length) (c:=c) (i:=i) (k := .i64) (cP hh h) hi
 rw[Nat.zero_add] at e1
 exact⟨_,_,e1,by rw[qD (f:=aQ f) (cP hh h) hx];rfl,Rd.tree hs⟩
theorem MG.snoc {lo hi lJ b g:Nat} {H:aA} {rs:List (Ae α)} (h:MG f e lo hi b g H rs) (hg:g=rs.length) (fG:lJ≤lo) (hn:g≤1000000000) (r:Ae α) (hhi:hi≤r.b) (hc:r.xs.length≤r.c) (hr:aH H r.b r.g=some (r.xs.map f,e,true)) :
  eE lJ 1 24 (.ref b g 0 g g) [.ref r.b r.g 0 r.xs.length r.c] H=some (.ref b (g+1) 0 (g+1) (g+1),H.set b (.row (g+1) ((rs++[r]).map qO) 1 true))∧MG f e lo H.length b (g+1) (H.set b (.row (g+1) ((rs++[r]).map qO) 1 true)) (rs++[r]):=by
 have aBq:=h.blo
 have aCJ:=h.bhi
 have AX:=eW hr
 have uE:=gZ (f:=qO) (xs:=rs) (x:=r) (lo:=lJ) (bytes:=24) h.out hg (by omega) (by decide) (by decide) (by omega)
 refine⟨uE,bJ h.out,h.blo,eW h.out,?_,fun s hs => ?_⟩
 ·rw[List.map_append,List.nodup_append]
  refine⟨h.rows.nd,by simp,fun a ha c TG => ?_⟩
  obtain⟨s,hs,rfl⟩:=List.mem_map.1 ha
  have:=h.rows.row s hs
  simp only[List.map_cons,List.map_nil,List.mem_singleton] at TG
  omega
 ·rcases List.mem_append.1 hs with hs | hs
  ·obtain⟨k1,k2,k3,k4,k5⟩:=h.rows.row s hs
   exact⟨k1,by omega,k3,k4,aZ (by omega) k5⟩
  ·rw[List.mem_singleton] at hs
   subst hs
   exact⟨by omega,AX,by omega,hc,aZ (by omega) hr⟩
end
def iE (m:List (List Rat)) (i:Nat):Rat:=(m.take i).foldl (fun a r=>if a<cU r then cU r else a) 0
def cH (m:List (List Rat)):Rat:=iE m m.length
theorem Al {m:List (List Rat)} {i:Nat} {r:List Rat} (h:m[i]? = some r):iE m (i+1)=if iE m i<cU r then cU r else iE m i:=by
 unfold iE
 rw[iK h,List.foldl_append]
 rfl
def kZ (d:Rat) (i:Nat) (r:List Rat):List Rat:=(r.map (· / d)).set i (1-cU (r.map (· / d)))
def mF (m:List (List Rat)):List (List Rat):=vec m.length fun i=>kZ (cH m) i (m.getD i [])
theorem nL {qs:List Rat} {B n:Nat} (h:∀q∈qs,bQ q≤B) (hn:qs.length≤n):bQ (cU qs)≤n*(B+1)+1:=by
 have h1:=Fv h qs.length
 rw[List.take_length] at h1
 have h2:qs.length*(B+1)≤n*(B+1):=Nat.mul_le_mul_right _ hn
 omega
theorem uM {m:List (List Rat)} {B n:Nat} (h:∀r∈m,r.length≤n∧∀q∈r,bQ q≤B):∀i,bQ (iE m i)≤n*(B+1)+1
 |
  0=>by
  show bQ 0≤_
  rw[L6]
  omega
 |
  i+1=>by
  cases hr:m[i]? with
  |
   none =>
   have:iE m (i+1)=iE m i:=by
    unfold iE
    rw[List.take_add_one,hr]
    simp
   rw[this]
   exact uM h i
  |
   some r =>
   rw[Al hr]
   have:=h r (List.mem_of_getElem? hr)
   split
   ·exact nL this.2 this.1
   ·exact uM h i
theorem I2 {qs:List Rat} {d:Rat} {B D:Nat} (h:∀q∈qs,bQ q≤B) (hd:bQ d≤D):∀q∈qs.map (· / d),bQ q≤B+D+1:=fun q hq=>by
 obtain⟨p,hp,rfl⟩:=List.mem_map.1 hq
 have h1:=h p hp
 have h2:=Xx p d
 omega
set_option maxHeartbeats 4000000 in
theorem QK {lo:Nat} {H:aA} {v:VV} (m:List (List Rat)) {n B:Nat} (hv:RdT bF 3 m H v) (fG:lo≤H.length) (hm:m.length=n) (hn:n≤100) (hB:B≤1000000) (hb:∀r∈m,r.length=n∧∀q∈r,bQ q≤B) (hd:cH m≠0) :
  kS 72 [v] lo H (NC (TabIs bF 3 (mF m)) H):=by
 have hmul:n*(B+1)≤100*(B+1):=Nat.mul_le_mul_right _ hn
 have uC:∀r∈m,r.length≤n∧∀q∈r,bQ q≤B:=fun r hr=>⟨Nat.le_of_eq (hb r hr).1,(hb r hr).2⟩
 refine kS.walk ⟨true,false⟩ Ss (Nat.le_of_ble_eq_true rfl) ?_
 have e1:TC 64 [VI 0] (bF 0):=tO 0 (by decide) (by decide)
 have s0:=yI (lo:=lo) (H:=H) (q:=0) fG
 have e2:=hv.len _ (List.prefix_append H [.row 0 [bF 0] 3 true])
 simp only[NN,JA,e1,s0,e2,kC,VX,Nat.reduceEqDiff,Nat.reduceAdd,Nat.reduceLeDiff,Nat.reduceLT,Nat.reduceSub]
 refine aP (fun(i:Nat) ρ H1=>i≤m.length∧H <+: H1∧aH H1 H.length 0=some ([bF (iE m i)],3,true)∧ρ 0=v∧ρ 3 = .ptr H.length 0 0 0∧ρ 12=v∧ρ 13=VI m.length∧ρ 14=VI i) (fun i=>m.length-i) 0 ⟨Nat.zero_le _,List.prefix_append _ _,iD,rfl,rfl,rfl,rfl,rfl⟩ ?_
 rintro i ρ H1 ⟨hi,hp,Jz,g0,g3,g12,g13,g14⟩
 have BP:=eW Jz
 by_cases cK:(i:Int)<(m.length:Int)
 ·obtain⟨r,hr⟩:∃r,m[i]? = some r:=⟨_,List.getElem?_eq_getElem (by omega)⟩
  have CE:=hb r (List.mem_of_getElem? hr)
  obtain⟨p,w,a1,a2,hw⟩:=hv.get H1 hp i r hr
  have wi:IntKind.i64.wrap ((i:Int)+1)=((i+1:Nat):Int):=wrapN (i+1) (by omega) (by omega)
  have AX:r.length*(B+1)≤100*(B+1):=Nat.mul_le_mul_right _ (by omega)
  simp only[Cb,g0,g3,g12,g13,g14,cK,a1,a2,kC,VX,Nat.reduceEqDiff,Nat.reduceAdd,Nat.reduceLeDiff,Nat.reduceLT,Nat.reduceSub]
  refine nJ rfl (Fq (H:=H1) r hw (by omega) CE.2 (by omega) (by omega) (by omega)) fun x L hx => ?_
  subst hx
  have FE:=bK (L:=L) Jz
  have Ql:=kQ (L:=L) hp
  have F3:H1.length≤(H1++L).length:=by rw[List.length_append];omega
  generalize H1++L=H2 at *
  have s1:=yI (lo:=lo) (H:=H2) (q:=cU r) (by omega)
  have s2:=KE (H:=H2) (K:=[]) (q:=cU r)
  have s3:cN true 3 (.ptr H.length 0 0 0) (H2++[cA.row 0 [bF (cU r)] 3 true])=some (bF (iE m i)):=by
   rw[bR,bK FE]
   exact dL _
  have b1:=nL CE.2 (Nat.le_of_eq CE.1)
  have b2:=uM uC i
  have e3:=Mr (cU r) (iE m i) (by omega) (by omega)
  have vC:=Al hr
  by_cases hc:iE m i<cU r
  ·have TG:=Ws.2 hc
   rw[if_pos hc] at vC
   have s4:=bX (lo:=lo) (v:=bF (cU r)) (j:=0) (bK (L:=[.row 0 [bF (cU r)] 3 true]) FE) (by exact Nat.zero_lt_one) fG rfl rfl
   rw[List.set_cons_zero] at s4
   simp only[g0,g3,g12,g13,g14,s1,s2,s3,s4,e3,TG,wi,kC,VX,Nat.reduceEqDiff,Nat.reduceAdd,Nat.reduceLeDiff,Nat.reduceLT,Nat.reduceSub]
   exact⟨i+1,by omega,by omega,mC (kQ Ql) (Nat.le_refl _),by rw[vC];exact bJ (bK FE),by (repeat' apply And.intro)<;>first | rfl | trivial | assumption⟩
  ·have TG:=mt Ws.1 hc
   rw[if_neg hc] at vC
   simp only[g0,g3,g12,g13,g14,s1,s2,s3,e3,TG,wi,kC,VX,Nat.reduceEqDiff,Nat.reduceAdd,Nat.reduceLeDiff,Nat.reduceLT,Nat.reduceSub]
   exact⟨i+1,by omega,by omega,kQ Ql,by rw[vC];exact bK FE,by (repeat' apply And.intro)<;>first | rfl | trivial | assumption⟩
 ·have lS:i=m.length:=by omega
  subst lS
  have e0:∀K,jY false [.slice none 0 0] 0 [] K=some (.ref K.length 0 0 0 0,K++[.row 0 [] 1 true]):=fun K=>iA rfl
  have e3:=hv.len _ (kQ (L:=[.row 0 [] 1 true]) hp)
  simp only[Cb,g0,g3,g12,g13,g14,cK,e0,e3,kC,VX,Nat.reduceEqDiff,Nat.reduceAdd,Nat.reduceLeDiff,Nat.reduceLT,Nat.reduceSub]
  have Jz:aH H1 H.length 0=some ([bF (cH m)],3,true):=Jz
  have bm:=uM uC m.length
  rw[←cH] at bm
  refine aP (fun(i:Nat) ρ H2=>i≤m.length∧H <+: H2∧aH H2 H.length 0=some ([bF (cH m)],3,true)∧(∃rs,rs.length=i∧rs.map (·.xs)=(mF m).take i∧MG bF 3 H1.length H2.length H1.length i H2 rs)∧ρ 3 = .ptr H.length 0 0 0∧ρ 7 = .ref H1.length i 0 i i∧ρ 27=v∧ρ 28=VI m.length∧ρ 29=VI i) (fun i=>m.length-i) 0
   ⟨Nat.zero_le _,kQ hp,bK Jz,⟨[],rfl,rfl,iD,Nat.le_refl _,by simp,by simp,by simp⟩,by (repeat' apply And.intro)<;>first | rfl | trivial | assumption⟩ ?_
  clear g0 g3 g12 g13 g14 cK
  rintro i ρ H2 ⟨hi,Ql,FE,⟨rs,AX,OS,hM⟩,g3,g7,g27,g28,g29⟩
  by_cases cK:(i:Int)<(m.length:Int)
  ·obtain⟨r,hr⟩:∃r,m[i]? = some r:=⟨_,List.getElem?_eq_getElem (by omega)⟩
   have CE:=hb r (List.mem_of_getElem? hr)
   obtain⟨p,w,a1,a2,hw⟩:=hv.get H2 Ql i r hr
   have wi:IntKind.i64.wrap ((i:Int)+1)=((i+1:Nat):Int):=wrapN (i+1) (by omega) (by omega)
   have hbh:=hM.bhi
   have s3:cN true 3 (.ptr H.length 0 0 0) H2=some (bF (cH m)):=by
    rw[bR,FE]
    exact dL _
   simp only[BY,g3,g7,g27,g28,g29,cK,a1,a2,s3,kC,VX,Nat.reduceEqDiff,Nat.reduceAdd,Nat.reduceLeDiff,Nat.reduceLT,Nat.reduceSub]
   refine nJ rfl (M9 (H:=H2) r (cH m) hd hw (by omega) (by omega) (fun q hq=>by have:=CE.2 q hq;omega) (by omega)) fun x L3 hx => ?_
   obtain⟨bp,gp,cp,k1,k2,rfl,k3,k4⟩:=hx
   have hM3:=hM.pre (List.prefix_append H2 L3)
   have axU:=bK (L:=L3) FE
   have hp3:=kQ (L:=L3) Ql
   have hl3:H2.length≤(H2++L3).length:=by rw[List.length_append];omega
   generalize H2++L3=H3 at *
   have e4:TC 64 [VI 1] (bF 1):=tO 1 (by decide) (by decide)
   have qb:=I2 CE.2 bm
   have Z7:(r.map (· / cH m)).length*(B+(n*(B+1)+1)+1+1)≤100*(B+(n*(B+1)+1)+1+1):=Nat.mul_le_mul_right _ (by rw[List.length_map];omega)
   simp only[e4,kC,VX,Nat.reduceEqDiff,Nat.reduceAdd,Nat.reduceLeDiff,Nat.reduceLT,Nat.reduceSub]
   refine nJ rfl (Fq (H:=H3) (v := .ref bp gp 0 r.length cp) (r.map (· / cH m)) (Rd.row k4 (List.length_map ..).symm) (by omega) qb (by omega) (by omega) (by rw[List.length_map];omega)) fun x L4 hx => ?_
   subst hx
   have hM4:=hM3.pre (List.prefix_append H3 L4)
   have aiW:=bK (L:=L4) axU
   have hp4:=kQ (L:=L4) hp3
   have hl4:H3.length≤(H3++L4).length:=by rw[List.length_append];omega
   have k5:=bK (L:=L4) k4
   generalize H3++L4=H4 at *
   have b3:=nL (n:=n) qb (Nat.le_of_eq (by rw[List.length_map];exact CE.1))
   have anN:n*(B+(n*(B+1)+1)+1+1)≤100*(B+(n*(B+1)+1)+1+1):=Nat.mul_le_mul_right _ hn
   have e5:=Lc 1 (cU (r.map (· / cH m))) (by rw[HT];omega) (by omega)
   have a3:=aS (o:=0) (n:=r.length) (c:=cp) (i:=i) (k := .i64) k5 (by omega)
   rw[Nat.zero_add] at a3
   have s5:=eH (lo:=lo) (f:=bF) (x:=1-cU (r.map (· / cH m))) (j:=i) k5 (by rw[List.length_map];omega) (by omega) rfl rfl
   have hM5:=hM4.cL (H':=H4.set bp (.row gp ((kZ (cH m) i r).map bF) 3 true)) (dO.set (by omega))
   have k6:=bJ (g:=gp) (e:=3) (w:=true) (es:=(kZ (cH m) i r).map bF) k5
   have U0:(kZ (cH m) i r).length=r.length:=by rw[kZ,List.length_set,List.length_map]
   have hk6:=eW k6
   obtain⟨ap,hM6⟩:=hM5.snoc (lJ:=lo) AX.symm (by omega) (by omega) ⟨bp,gp,cp,kZ (cH m) i r⟩ k1 (by simp only[U0];rw[List.length_map] at k3;exact k3) k6
   simp only[U0] at ap
   have eL:∀K,jY false [.slice none 0 0] 1 [(0,.ref bp gp 0 r.length cp)] K=some (.tree [.ref bp gp 0 r.length cp] (.cl 1),K):=fun K=>gJ rfl rfl rfl
   have eS:∀K,dF 1 (.tree [.ref bp gp 0 r.length cp] (.cl 1)) K=some [.ref bp gp 0 r.length cp]:=fun K=>dV rfl rfl
   have s5':cD lo 3 (.ptr bp gp i 0) (bF (1-cU (r.map (· / cH m)))) H4=some (H4.set bp (.row gp ((kZ (cH m) i r).map bF) 3 true)):=s5
   simp only[g7,e5,a3,s5',eL,eS,ap,wi,g29,kC,VX,Nat.reduceEqDiff,Nat.reduceAdd,Nat.reduceLeDiff,Nat.reduceLT,Nat.reduceSub]
   refine⟨i+1,by omega,by omega,mC (mC hp4 (by omega)) (by omega),aZ (by omega) (aZ (by omega) aiW),⟨rs++[⟨bp,gp,cp,kZ (cH m) i r⟩],by rw[List.length_append,AX];rfl,?_,?_⟩,by (repeat' apply And.intro)<;>first | rfl | trivial | assumption⟩
   ·have sL:(mF m)[i]? = some (kZ (cH m) i r):=by
     rw[mF,Vy (by omega),List.getD_eq_getElem?_getD,hr]
     rfl
    rw[iK sL,List.map_append,OS]
    rfl
   ·exact hM6.wide (Nat.le_refl _) (by simp)
  ·have lS:i=m.length:=by omega
   subst lS
   rw[List.take_of_length_le (by rw[mF,Ha];exact Nat.le_refl _)] at OS
   simp only[BY,g3,g7,g27,g28,g29,cK,kC,VX,Nat.reduceEqDiff,Nat.reduceAdd,Nat.reduceLeDiff,Nat.reduceLT,Nat.reduceSub]
   have U0:(mF m).length=m.length:=by rw[mF,Ha]
   exact⟨Ql,H1.length,m.length,m.length,rs,by rw[U0],by rw[U0];exact Nat.le_refl _,hM.wide hp.length_le (Nat.le_refl _),OS⟩
end Go.PM
namespace Go.PM
open Go.Lib
set_option maxHeartbeats 4000000 in
theorem Lj {lo:Nat} {H:aA} {v:VV} (m:List (List Rat)) {n B:Nat} (hv:RdT bM 3 m H v) (fG:lo≤H.length) (hm:m.length=n) (hn:n≤100) (hB:B≤1000000) (hb:∀r∈m,r.length=n∧∀q∈r,bQ q≤B) (hd:cH m≠0) :
  kS 62 [v] lo H (NC (TabIs bM 3 (mF m)) H):=by
 have hmul:n*(B+1)≤100*(B+1):=Nat.mul_le_mul_right _ hn
 have uC:∀r∈m,r.length≤n∧∀q∈r,bQ q≤B:=fun r hr=>⟨Nat.le_of_eq (hb r hr).1,(hb r hr).2⟩
 refine kS.walk ⟨true,false⟩ LJ (Nat.le_of_ble_eq_true rfl) ?_
 have e1:=Dv
 have s0:=HU (lo:=lo) (H:=H) (q:=0) fG
 simp only[Gc,DK,e1,s0,kC,VX,Nat.reduceEqDiff,Nat.reduceAdd,Nat.reduceLeDiff,Nat.reduceLT,Nat.reduceSub]
 refine aP (fun(i:Nat) ρ H1=>i≤m.length∧H <+: H1∧aH H1 H.length 0=some ([bM (iE m i)],3,true)∧ρ 0=v∧ρ 3 = .ptr H.length 0 0 0∧ρ 4=VI i) (fun i=>m.length-i) 0 ⟨Nat.zero_le _,List.prefix_append _ _,iD,rfl,rfl,rfl⟩ ?_
 rintro i ρ H1 ⟨hi,hp,Jz,g0,g3,g4⟩
 have BP:=eW Jz
 have el:=hv.len H1 hp
 by_cases cK:(i:Int)<(m.length:Int)
 ·obtain⟨r,hr⟩:∃r,m[i]? = some r:=⟨_,List.getElem?_eq_getElem (by omega)⟩
  have CE:=hb r (List.mem_of_getElem? hr)
  obtain⟨p,w,a1,a2,hw⟩:=hv.get H1 hp i r hr
  have wi:IntKind.i64.wrap ((i:Int)+1)=((i+1:Nat):Int):=wrapN (i+1) (by omega) (by omega)
  have AX:r.length*(B+1)≤100*(B+1):=Nat.mul_le_mul_right _ (by omega)
  simp only[wI,g0,g3,g4,cK,el,a1,a2,kC,VX,Nat.reduceEqDiff,Nat.reduceAdd,Nat.reduceLeDiff,Nat.reduceLT,Nat.reduceSub]
  refine nJ rfl (wO (H:=H1) r hw (by omega) CE.2 (by omega) (by omega) (by omega)) fun x L hx => ?_
  subst hx
  have FE:=bK (L:=L) Jz
  have Ql:=kQ (L:=L) hp
  have F3:H1.length≤(H1++L).length:=by rw[List.length_append];omega
  generalize H1++L=H2 at *
  have s1:=HU (lo:=lo) (H:=H2) (q:=cU r) (by omega)
  have s2:=Zz (H:=H2) (K:=[]) (q:=cU r)
  have s3:cN true 3 (.ptr H.length 0 0 0) (H2++[cA.row 0 [bM (cU r)] 3 true])=some (bM (iE m i)):=by
   rw[bR,bK FE]
   exact gD _
  have b1:=nL CE.2 (Nat.le_of_eq CE.1)
  have b2:=uM uC i
  have e3:=Md (iE m i) (cU r) (by omega) (by omega)
  have vC:=Al hr
  by_cases hc:iE m i<cU r
  ·rw[decide_eq_true hc] at e3
   rw[if_pos hc] at vC
   have s4:=bX (lo:=lo) (v:=bM (cU r)) (j:=0) (bK (L:=[.row 0 [bM (cU r)] 3 true]) FE) (by exact Nat.zero_lt_one) fG rfl rfl
   rw[List.set_cons_zero] at s4
   simp only[g0,g3,g4,s1,s2,s3,s4,e3,wi,kC,VX,Nat.reduceEqDiff,Nat.reduceAdd,Nat.reduceLeDiff,Nat.reduceLT,Nat.reduceSub]
   exact⟨i+1,by omega,by omega,mC (kQ Ql) (Nat.le_refl _),by rw[vC];exact bJ (bK FE),by (repeat' apply And.intro)<;>first | rfl | trivial | assumption⟩
  ·rw[decide_eq_false hc] at e3
   rw[if_neg hc] at vC
   simp only[g0,g3,g4,s1,s2,s3,e3,wi,kC,VX,Nat.reduceEqDiff,Nat.reduceAdd,Nat.reduceLeDiff,Nat.reduceLT,Nat.reduceSub]
   exact⟨i+1,by omega,by omega,kQ Ql,by rw[vC];exact bK FE,by (repeat' apply And.intro)<;>first | rfl | trivial | assumption⟩
 ·have lS:i=m.length:=by omega
  subst lS
  have e0:∀K,jY false [.slice none 0 0] 0 [] K=some (.ref K.length 0 0 0 0,K++[.row 0 [] 1 true]):=fun K=>iA rfl
  simp only[wI,g0,g3,g4,cK,el,e0,kC,VX,Nat.reduceEqDiff,Nat.reduceAdd,Nat.reduceLeDiff,Nat.reduceLT,Nat.reduceSub]
  have Jz:aH H1 H.length 0=some ([bM (cH m)],3,true):=Jz
  have bm:=uM uC m.length
  rw[←cH] at bm
  refine aP (fun(i:Nat) ρ H2=>i≤m.length∧H <+: H2∧aH H2 H.length 0=some ([bM (cH m)],3,true)∧(∃rs,rs.length=i∧rs.map (·.xs)=(mF m).take i∧MG bM 3 H1.length H2.length H1.length i H2 rs)∧ρ 0=v∧ρ 3 = .ptr H.length 0 0 0∧ρ 6 = .ref H1.length i 0 i i∧ρ 7=VI i) (fun i=>m.length-i) 0
   ⟨Nat.zero_le _,kQ hp,bK Jz,⟨[],rfl,rfl,iD,Nat.le_refl _,by simp,by simp,by simp⟩,by (repeat' apply And.intro)<;>first | rfl | trivial | assumption⟩ ?_
  clear g0 g3 g4 cK el
  rintro i ρ H2 ⟨hi,Ql,FE,⟨rs,AX,OS,hM⟩,g0,g3,g6,g7⟩
  have el:=hv.len H2 Ql
  by_cases cK:(i:Int)<(m.length:Int)
  ·obtain⟨r,hr⟩:∃r,m[i]? = some r:=⟨_,List.getElem?_eq_getElem (by omega)⟩
   have CE:=hb r (List.mem_of_getElem? hr)
   have wi:IntKind.i64.wrap ((i:Int)+1)=((i+1:Nat):Int):=wrapN (i+1) (by omega) (by omega)
   have hbh:=hM.bhi
   have e0':∀K,jY false [.bool false,.slice none 0 0,.slice none 0 0] 0 [] K=some (.ref K.length 0 0 0 0,K++[.row 0 [] 3 true]):=fun K=>iA rfl
   simp only[wV,g0,g3,g6,g7,cK,el,e0',kC,VX,Nat.reduceEqDiff,Nat.reduceAdd,Nat.reduceLeDiff,Nat.reduceLT,Nat.reduceSub]
   have F3:=Ql.length_le
   refine aP (fun(k:Nat) ρ H3=>k≤n∧H2 <+: H3∧aH H3 H2.length k=some (((r.take k).map (· / cH m)).map bM,3,true)∧ρ 0=v∧ρ 3 = .ptr H.length 0 0 0∧ρ 6 = .ref H1.length i 0 i i∧ρ 7=VI i∧ρ 8 = .ref H2.length k 0 k k∧ρ 9=VI k) (fun k=>n-k) 0 ⟨Nat.zero_le _,List.prefix_append _ _,iD,by (repeat' apply And.intro)<;>first | rfl | trivial | assumption⟩ ?_
   clear g0 g3 g6 g7
   rintro k ρ H3 ⟨hk,hp3,gG,g0,g3,g6,g7,g8,g9⟩
   have alJ:=Ql.trans hp3
   have el3:=hv.len H3 alJ
   have hl3:=eW gG
   by_cases hkn:(k:Int)<(m.length:Int)
   ·obtain⟨q,hq⟩:∃q,r[k]? = some q:=⟨_,List.getElem?_eq_getElem (by omega)⟩
    obtain⟨p,w,a1,a2,hw⟩:=hv.get H3 alJ i r hr
    obtain⟨p2,a3,a4⟩:=hw.get H3 (List.prefix_refl _) k q hq
    have a4':=(a4 true).trans (gD _)
    have wk:IntKind.i64.wrap ((k:Int)+1)=((k+1:Nat):Int):=wrapN (k+1) (by omega) (by omega)
    have s3:cN true 3 (.ptr H.length 0 0 0) H3=some (bM (cH m)):=by
     rw[bR,cP hp3 FE]
     exact gD _
    have e4:=K2 q (cH m) hd (by have:=CE.2 q (List.mem_of_getElem? hq);omega) (by omega)
    have eL:∀H,jY false [.bool false,.slice none 0 0,.slice none 0 0] 1 [(0,bM (q / cH m))] H=some (.tree [bM (q / cH m)] (.cl 3),H):=fun H=>gJ rfl rfl rfl
    have eS:∀H,dF 3 (.tree [bM (q / cH m)] (.cl 3)) H=some [bM (q / cH m)]:=fun H=>dV rfl rfl
    have eP:=Gt (lo:=lo) (bytes:=56) (x:=q / cH m) gG (by simp;omega) (by omega) (by decide) (by decide) (by omega)
    simp only[wT,g0,g3,g7,g8,g9,hkn,el3,a1,a2,a3,a4',s3,e4,eL,eS,eP,wk,kC,VX,Nat.reduceEqDiff,Nat.reduceAdd,Nat.reduceLeDiff,Nat.reduceLT,Nat.reduceSub]
    exact⟨k+1,by omega,by omega,mC hp3 (Nat.le_refl _),by rw[iK hq,List.map_append (l₁:=r.take k)];exact bJ gG,by (repeat' apply And.intro)<;>first | rfl | trivial | assumption⟩
   ·have hke:k=n:=by omega
    subst hke
    rw[List.take_of_length_le (by omega)] at gG
    have e4:=Nb
    simp only[wT,g0,g3,g6,g7,g8,g9,hkn,el3,e4,kC,VX,Nat.reduceEqDiff,Nat.reduceAdd,Nat.reduceLeDiff,Nat.reduceLT,Nat.reduceSub]
    have qb:=I2 CE.2 bm
    have Z7:(r.map (· / cH m)).length*(B+(k*(B+1)+1)+1+1)≤100*(B+(k*(B+1)+1)+1+1):=Nat.mul_le_mul_right _ (by rw[List.length_map];omega)
    have Gr:(r.map (· / cH m)).length=k:=by rw[List.length_map];omega
    refine nJ rfl (wO (H:=H3) (v := .ref H2.length k 0 k k) (r.map (· / cH m)) (Rd.row gG Gr.symm) (by omega) qb (by omega) (by omega) (by omega)) fun x L4 hx => ?_
    subst hx
    have hM4:=hM.pre (hp3.trans (List.prefix_append H3 L4))
    have aiW:=cP (hp3.trans (List.prefix_append H3 L4)) FE
    have hp4:=kQ (L:=L4) alJ
    have hl4:H3.length≤(H3++L4).length:=by rw[List.length_append];omega
    have k5:=bK (L:=L4) gG
    generalize H3++L4=H4 at *
    have b3:=nL (n:=k) qb (Nat.le_of_eq Gr)
    have anN:k*(B+(k*(B+1)+1)+1+1)≤100*(B+(k*(B+1)+1)+1+1):=Nat.mul_le_mul_right _ hn
    have e5:=J3 1 (cU (r.map (· / cH m))) (by rw[HT];omega) (by omega)
    have a3:=aS (o:=0) (n:=k) (c:=k) (i:=i) (k := .i64) k5 (by omega)
    rw[Nat.zero_add] at a3
    have s5:cD lo 3 (.ptr H2.length k i 0) (bM (1-cU (r.map (· / cH m)))) H4=some (H4.set H2.length (.row k ((kZ (cH m) i r).map bM) 3 true)):=eH (lo:=lo) (f:=bM) (x:=1-cU (r.map (· / cH m))) (j:=i) k5 (by omega) (by omega) rfl rfl
    have hM5:=hM4.cL (H':=H4.set H2.length (.row k ((kZ (cH m) i r).map bM) 3 true)) (dO.set (by omega))
    have k6:=bJ (g:=k) (e:=3) (w:=true) (es:=(kZ (cH m) i r).map bM) k5
    have U0:(kZ (cH m) i r).length=k:=by rw[kZ,List.length_set];exact Gr
    obtain⟨ap,hM6⟩:=hM5.snoc (lJ:=lo) AX.symm (by omega) (by omega) ⟨H2.length,k,k,kZ (cH m) i r⟩ (Nat.le_refl _) (by simp only[U0];exact Nat.le_refl _) k6
    simp only[U0] at ap
    have eL:∀K,jY false [.slice none 0 0] 1 [(0,.ref H2.length k 0 k k)] K=some (.tree [.ref H2.length k 0 k k] (.cl 1),K):=fun K=>gJ rfl rfl rfl
    have eS:∀K,dF 1 (.tree [.ref H2.length k 0 k k] (.cl 1)) K=some [.ref H2.length k 0 k k]:=fun K=>dV rfl rfl
    simp only[g6,g7,g8,e5,a3,s5,eL,eS,ap,wi,kC,VX,Nat.reduceEqDiff,Nat.reduceAdd,Nat.reduceLeDiff,Nat.reduceLT,Nat.reduceSub]
    refine⟨i+1,by omega,by omega,mC (mC hp4 (by omega)) (by omega),aZ (by omega) (aZ (by omega) aiW),⟨rs++[⟨H2.length,k,k,kZ (cH m) i r⟩],by rw[List.length_append,AX];rfl,?_,?_⟩,by (repeat' apply And.intro)<;>first | rfl | trivial | assumption⟩
    ·have sL:(mF m)[i]? = some (kZ (cH m) i r):=by
      rw[mF,Vy (by omega),List.getD_eq_getElem?_getD,hr]
      rfl
     rw[iK sL,List.map_append,OS]
     rfl
    ·exact hM6.wide (Nat.le_refl _) (by simp)
  ·have lS:i=m.length:=by omega
   subst lS
   rw[List.take_of_length_le (by rw[mF,Ha];exact Nat.le_refl _)] at OS
   simp only[wV,g0,g3,g6,g7,cK,el,kC,VX,Nat.reduceEqDiff,Nat.reduceAdd,Nat.reduceLeDiff,Nat.reduceLT,Nat.reduceSub]
   have U0:(mF m).length=m.length:=by rw[mF,Ha]
   exact⟨Ql,H1.length,m.length,m.length,rs,by rw[U0],by rw[U0];exact Nat.le_refl _,hM.wide hp.length_le (Nat.le_refl _),OS⟩
end Go.PM
namespace Go.PM
open Go.Lib
theorem aeG {lo hi:Nat} {H:aA}:CG [] lo hi H (.agg [.tree [] .nil]):=⟨_,rfl,.inl ⟨rfl,rfl⟩⟩
abbrev V4:cA := .row 0 [.tree [] .nil] 1 true
theorem xW {n:Nat} {K:aA}:aH (List.replicate n cA.dead++V4::K) n 0=some ([.tree [] .nil],1,true):=by rw[Am,aU]
theorem VG {n t:Nat} {F:Nat} {args jF:List VV} {bE:List (List ByteArray)} {ok:Bool} {H:aA} {K:VV→aA→Prop} (h:FC F jF (Xg (CG bE) ok)) (yZ:Dg.contains F=true) (hf:args.mapM (PM.fz depth H)=some jF) (hr:aH H t 0=some ([.tree [] .nil],1,true)) (hnt:n≤t)
  (hk:∀v H2 H3,cD n 1 (.ptr t 0 0 0) v H2=some H3→cN true 1 (.ptr t 0 0 0) H3=some v→(∃L',Gk H3 (List.replicate n .dead++L')∧dY n (.fN [v,.sc (.bool ok)])=true∧dR n L'=true∧Xg (CG bE) ok n (.fN [v,.sc (.bool ok)]) L')→K (.fN [v,.sc (.bool ok)]) H2) :
  cZ F args n H K:=by
 refine h.adE yZ hf ?_
 rintro r L ⟨v,rfl,hv⟩ Fh hL
 have hv:=hv.cL dO.move
 rw[←List.length_append] at hv
 have ht:=eW hr
 obtain⟨c,rfl,h1,h2,h3⟩:=hv.own (n:=n) (by omega)
 have hL':dR n L=true:=GL (by omega) hL
 refine hk (.agg [c]) _ ((H++L).set t (.row 0 [.agg [c]] 1 true)) ?_ ?_ ?_
 ·rw[bX (bK hr) (by exact Nat.zero_lt_one) hnt rfl (by simp[aB,h1])]
  rfl
 ·rw[bR,bJ (bK hr)]
  rfl
 ·exact akU (k:=H.length) (lo:=H.length) (hi:=(H++L).length) (by omega) (by rw[List.length_set,List.length_append];omega) ((Cp.start.aqU hL').set (by omega)) (by simp[dY,pC,h3]) CG.cL CG.wide (hv.cL (dO.set (by omega))) (Nat.le_refl _) (by rw[List.length_set];exact Nat.le_refl _)
theorem tJ {n t:Nat} {H:aA} {bE:Option (List (List ByteArray))} (hr:aH H t 0=some ([.tree [] .nil],1,true)) (hnt:n≤t) (hv:bE=none) :
  cD n 1 (.ptr t 0 0 0) (.agg [.tree [] .nil]) H=some (H.set t (.row 0 [.agg [.tree [] .nil]] 1 true))∧cN true 1 (.ptr t 0 0 0) (H.set t (.row 0 [.agg [.tree [] .nil]] 1 true))=some (.agg [.tree [] .nil]) ∧
  ∃L,Gk (H.set t (.row 0 [.agg [.tree [] .nil]] 1 true)) (List.replicate n .dead++L)∧dY n (.fN [.agg [.tree [] .nil],.sc (.bool false)])=true∧dR n L=true∧Xg (CG (bE.getD [])) bE.isSome n (.fN [.agg [.tree [] .nil],.sc (.bool false)]) L:=by
 subst hv
 refine⟨?_,?_,_,Bk (by rw[List.length_set];have:=eW hr;omega),rfl,Bv,_,rfl,aeG⟩
 ·rw[bX hr (by exact Nat.zero_lt_one) hnt rfl rfl]
  rfl
 ·rw[bR,bJ hr]
  rfl
theorem FU {a:Nat} (h:a≤12):a*(665+1)+1≤7993:=by omega
def iP (n i:Nat) (xs:List ByteArray):Option (List Rat):=match EN xs with
 | some r=>if r.length=n∧(r.any fun q=>decide (q<0))=false∧r.getD i 0=0 then some r else none
 | none=>none
def nM (c:List (List ByteArray)):Nat→Option (List (List Rat))
 | 0=>some []
 |
  i+1=>match nM c i,iP c.length i (c.getD i []) with
  | some out,some r=>some (out++[r])
  | _,_=>none
def iX (c:List (List ByteArray)):Option (List (List ByteArray)):=if 1≤c.length∧c.length≤12 then
  match nM c c.length with
  | some m=>if cH m=0 then none else uH (mF m)
  | none=>none
 else none
theorem P8 {n i:Nat} {xs:List ByteArray} {r:List Rat} (h:iP n i xs=some r):EN xs=some r∧r.length=n∧(∀q∈r,0≤q)∧r.getD i 0=0:=by
 unfold iP at h
 split at h
 ·rename_i ps hp
  split at h
  ·rename_i hc
   cases h
   refine⟨hp,hc.1,fun q hq => ?_,hc.2.2⟩
   have:=List.any_eq_false.1 hc.2.1 q hq
   exact Rat.not_lt.1 (by simpa using this)
  ·cases h
 ·cases h
theorem G4 {c:List (List ByteArray)} {i:Nat} (h:nM c i=none):∀j,i≤j→nM c j=none:=by
 intro j hj
 induction j with
 |
  zero =>
  have:i=0:=by omega
  subst this
  exact h
 |
  succ j ih =>
  by_cases Rx:i≤j
  ·rw[nM,ih Rx]
  ·have:i=j+1:=by omega
   subst this
   exact h
theorem vN {c:List (List ByteArray)}:∀ {i:Nat} {m:List (List Rat)},nM c i=some m→m.length=i∧∀r∈m,r.length=c.length∧∀q∈r,0≤q∧bQ q≤665
 | 0,m,h=>by cases h;exact⟨rfl,fun r hr=>by cases hr⟩
 |
  i+1,m,h=>by
  rw[nM] at h
  split at h
  ·rename_i out r h1 h2
   cases h
   obtain⟨k1,k2⟩:=vN h1
   obtain⟨j1,j2,j3,_⟩:=P8 h2
   refine⟨by rw[List.length_append,k1];rfl,fun s hs => ?_⟩
   rcases List.mem_append.1 hs with hs | hs
   ·exact k2 s hs
   ·rw[List.mem_singleton] at hs
    subst hs
    exact⟨j2,fun q hq=>⟨j3 q hq,(FX j1).1 q hq⟩⟩
  ·cases h
theorem Jc {qs:List Rat} (h:∀q∈qs,0≤q):0≤cU qs:=by
 have key:∀i,i≤qs.length→0≤cU (qs.take i):=by
  intro i
  induction i with
  | zero=>intro _;show (0:Rat)≤0;exact Rat.le_refl
  |
   succ i ih =>
   intro hi
   have hq:qs[i]? = some qs[i]:=List.getElem?_eq_getElem (by omega)
   rw[Eh hq]
   have h1:=ih (by omega)
   have h2:=h _ (List.getElem_mem (by omega:i<qs.length))
   grind
 have:=key qs.length (Nat.le_refl _)
 rwa [List.take_length] at this
theorem F1 {m:List (List Rat)} (h:∀r∈m,0≤cU r):∀i,0≤iE m i∧0≤cU ((m.map cU).take i)∧(cU ((m.map cU).take i)=0↔iE m i=0)∧(((m.take i).any fun r => !decide (cU r=0)) = !decide (iE m i=0))
 | 0=>⟨Rat.le_refl,Rat.le_refl,⟨fun _=>rfl,fun _=>rfl⟩,rfl⟩
 |
  i+1=>by
  obtain⟨h1,h2,h3,h4⟩:=F1 h i
  cases hr:m[i]? with
  |
   none =>
   have e1:iE m (i+1)=iE m i:=by unfold iE;rw[List.take_add_one,hr];simp
   have e2:(m.map cU).take (i+1)=(m.map cU).take i:=by rw[List.take_add_one,List.getElem?_map,hr];simp
   have e3:m.take (i+1)=m.take i:=by rw[List.take_add_one,hr];simp
   rw[e1,e2,e3]
   exact⟨h1,h2,h3,h4⟩
  |
   some r =>
   have h0:=h r (List.mem_of_getElem? hr)
   have Fh:(m.map cU)[i]? = some (cU r):=by rw[List.getElem?_map,hr];rfl
   rw[Al hr,Eh Fh,iK hr,List.any_append,h4]
   simp only[List.any_cons,List.any_nil,Bool.or_false]
   by_cases hc:iE m i<cU r
   ·rw[if_pos hc]
    have hp:¬cU r=0:=by grind
    have hs:¬cU ((m.map cU).take i)+cU r=0:=by grind
    refine⟨h0,by grind,⟨fun h=>absurd h hs,fun h=>absurd h hp⟩,by simp[hp]⟩
   ·rw[if_neg hc]
    refine⟨h1,by grind,?_,?_⟩
    ·constructor
     ·intro h;exact h3.1 (by grind)
     ·intro h;have:=h3.2 h;grind
    ·by_cases hz:iE m i=0
     ·have:cU r=0:=by grind
      simp[hz,this]
     ·simp[hz]
theorem Ij {m:List (List Rat)} {n B:Nat} (hm:m.length=n) (hb:∀r∈m,r.length=n∧∀q∈r,bQ q≤B) (hn:n≤100) (hB:B≤1000000):(mF m).length=n∧∀r∈mF m,r.length=n∧∀q∈r,bQ q≤100000000000:=by
 refine⟨by rw[mF,Ha,hm],fun r hr => ?_⟩
 obtain⟨i,hi,rfl⟩:=afX.1 hr
 have hgi:m[i]? = some m[i]:=List.getElem?_eq_getElem hi
 have CE:=hb _ (List.getElem_mem hi)
 rw[List.getD_eq_getElem?_getD,hgi,Option.getD_some]
 have bm:=uM (n:=n) (B:=B) (fun r hr=>⟨Nat.le_of_eq (hb r hr).1,(hb r hr).2⟩) m.length
 rw[←cH] at bm
 have qb:=I2 CE.2 bm
 have hl:(m[i].map (· / cH m)).length=n:=by rw[List.length_map];exact CE.1
 have b3:=nL qb (Nat.le_of_eq hl)
 have m1:n*(B+1)≤100*(B+1):=Nat.mul_le_mul_right _ hn
 have m2:n*(B+(n*(B+1)+1)+1+1)≤100*(B+(n*(B+1)+1)+1+1):=Nat.mul_le_mul_right _ hn
 have b4:=WD 1 (cU (m[i].map (· / cH m)))
 rw[HT] at b4
 refine⟨by rw[kZ,List.length_set,hl],Y5 (fun q hq => ?_) (by omega)⟩
 have:=qb q hq
 omega
set_option maxHeartbeats 4000000 in
theorem IX (c:List (List ByteArray)) (hn:c.length≤1000000000) (hs:∀r∈c,r.length≤1000000000∧∀s∈r,s.size≤1000000000):FC 18 [Hq c] (Xg (CG ((iX c).getD [])) (iX c).isSome):=by
 refine FC.Mu ⟨true,false⟩ Iw (Nat.le_of_ble_eq_true rfl) fun n => ?_
 by_cases h1:(c.length:Int)<1
 ·obtain⟨f1,f2,f3⟩:=tJ (n:=n) (bE:=iX c) (xW (n:=n) (K:=[])) (Nat.le_refl _) (by unfold iX;exact if_neg (by omega))
  simp only[tN,qJ,h1,f1,f2,jJ,DV,List.length_replicate,kC,VX,Nat.reduceEqDiff,Nat.reduceAdd,Nat.reduceLeDiff,Nat.reduceLT,Nat.reduceSub]
  exact f3
 by_cases h12:12<(c.length:Int)
 ·obtain⟨f1,f2,f3⟩:=tJ (n:=n) (bE:=iX c) (xW (n:=n) (K:=[])) (Nat.le_refl _) (by unfold iX;exact if_neg (by omega))
  simp only[tN,qJ,h1,h12,f1,f2,jJ,DV,List.length_replicate,kC,VX,Nat.reduceEqDiff,Nat.reduceAdd,Nat.reduceLeDiff,Nat.reduceLT,Nat.reduceSub]
  exact f3
 have wU:iX c=match nM c c.length with
  | some m=>if cH m=0 then none else uH (mF m)
  | none=>none:=by unfold iX;exact if_pos ⟨by omega,by omega⟩
 have c12:c.length≤12:=by omega
 have e0:∀K,jY false [.slice none 0 0] 0 [] K=some (.ref K.length 0 0 0 0,K++[.row 0 [] 1 true]):=fun K=>iA rfl
 have e1:TC 64 [VI 0] (bF 0):=tO 0 (by decide) (by decide)
 have s0:cD n 3 (.ptr (n+2) 0 0 0) (bF 0) (List.replicate n cA.dead++[V4,.row 0 [] 1 true,cell0])=some (List.replicate n cA.dead++[V4,.row 0 [] 1 true,.row 0 [bF 0] 3 true]):=by
  have:=yI (lo:=n) (H:=List.replicate n cA.dead++[V4,.row 0 [] 1 true]) (q:=0) (by simp)
  simpa using this
 simp only[tN,qJ,h1,h12,e0,e1,s0,jJ,zF,DV,List.length_replicate,List.length_cons,List.length_nil,List.append_assoc,List.cons_append,List.nil_append,kC,VX,Nat.reduceEqDiff,Nat.reduceAdd,Nat.reduceLeDiff,Nat.reduceLT,Nat.reduceSub]
 refine aP (fun(i:Nat) ρ H=>i≤c.length∧(∃m,nM c i=some m∧aH H n 0=some ([.tree [] .nil],1,true)∧aH H (n+1) i=some (m.map (aQ bF),1,true)∧aH H (n+2) 0=some ([bF (cU (m.map cU))],3,true))∧ρ 0=Hq c∧ρ 2 = .ptr n 0 0 0∧ρ 4 = .ref (n+1) i 0 i i∧ρ 5 = .ptr (n+2) 0 0 0∧ρ 21=Hq c∧ρ 22=VI c.length∧ρ 23=VI i) (fun i=>c.length-i) 0
  ⟨Nat.zero_le _,⟨[],rfl,xW,by rw[xK,jB,aU];rfl,by rw[xK,jB,jB,aU];rfl⟩,rfl,rfl,rfl,rfl,rfl,rfl,rfl⟩ ?_
 rintro i ρ H ⟨hi,⟨m,hm,vO,AW,WM⟩,g0,g2,g4,g5,g21,g22,g23⟩
 have F3:=eW WM
 obtain⟨Kz,YA⟩:=vN hm
 by_cases cK:(i:Int)<(c.length:Int)
 ·obtain⟨r,hr⟩:∃r,c[i]? = some r:=⟨_,List.getElem?_eq_getElem (by omega)⟩
  have CE:=hs r (List.mem_of_getElem? hr)
  have YF:c.getD i []=r:=by rw[List.getD_eq_getElem?_getD,hr];rfl
  have a1:=fun H=>aI (f:=fM) (t := .op) (H:=H) (size:=1) (k := .i64) hr rfl
  have wi:IntKind.i64.wrap ((i:Int)+1)=((i+1:Nat):Int):=wrapN (i+1) (by omega) (by omega)
  have e2:=QT r CE.1 CE.2
  have vC:nM c (i+1)=match iP c.length i r with | some q=>some (m++[q]) | none=>none:=by
   rw[nM,hm,YF]
   cases iP c.length i r<;>rfl
  have bad:iP c.length i r=none→iX c=none:=fun h=>by
   rw[h] at vC
   rw[wU,G4 vC c.length (by omega)]
  cases E0:EN r with
  |
   none =>
   rw[E0,Uo] at e2
   obtain⟨f1,f2,f3⟩:=tJ (n:=n) (bE:=iX c) vO (Nat.le_refl _) (bad (by unfold iP;rw[E0]))
   simp only[fF,g0,g2,g21,g22,g23,cK,a1,e2,f1,f2,kC,VX,Nat.reduceEqDiff,Nat.reduceAdd,Nat.reduceLeDiff,Nat.reduceLT,Nat.reduceSub]
   exact f3
  |
   some w =>
   rw[E0,Us] at e2
   obtain⟨hb,hlw,_⟩:=FX E0
   by_cases hl:(w.length:Int)=(c.length:Int)
   ·have e3:=Ab w 67 (fun q=>decide (q<0)) (fun q _=>K3 q) (by omega)
    cases Ip:w.any (fun q=>decide (q<0)) with
    |
     true =>
     rw[Ip] at e3
     obtain⟨f1,f2,f3⟩:=tJ (n:=n) (bE:=iX c) vO (Nat.le_refl _) (bad (by unfold iP;rw[E0];exact if_neg (fun h=>by rw[Ip] at h;cases h.2.1)))
     simp only[fF,g0,g2,g21,g22,g23,cK,a1,e2,e3,hl,f1,f2,ne_eq,not_true_eq_false,decide_false,kC,VX,Nat.reduceEqDiff,Nat.reduceAdd,Nat.reduceLeDiff,Nat.reduceLT,Nat.reduceSub]
     exact f3
    |
     false =>
     rw[Ip] at e3
     obtain⟨q,hq⟩:∃q,w[i]? = some q:=⟨_,List.getElem?_eq_getElem (by omega)⟩
     have hqd:w.getD i 0=q:=by rw[List.getD_eq_getElem?_getD,hq];rfl
     have a2:=fun H=>aI (f:=bF) (t := .op) (H:=H) (size:=3) (k := .i64) hq rfl
     have e4:=fO q
     by_cases hz:kB q=0
     ·have NR:q=0:=AI.1 hz
      have gG:iP c.length i r=some w:=by unfold iP;rw[E0];exact if_pos ⟨by omega,Ip,by rw[hqd,NR]⟩
      rw[gG] at vC
      have eL:∀K,jY false [.slice none 0 0] 1 [(0,aQ bF w)] K=some (.tree [aQ bF w] (.cl 1),K):=fun K=>gJ rfl rfl rfl
      have eS:∀K,dF 1 (.tree [aQ bF w] (.cl 1)) K=some [aQ bF w]:=fun K=>dV rfl rfl
      have eP:=Gt (f:=aQ bF) (lo:=n) (bytes:=24) (x:=w) AW Kz.symm (by omega) (by decide) (by decide) (by omega)
      have agI:=aZ (x := .row (i+1) ((m++[w]).map (aQ bF)) 1 true) (b':=n+1) (by omega) WM
      have s3:cN true 3 (.ptr (n+2) 0 0 0) (H.set (n+1) (.row (i+1) ((m++[w]).map (aQ bF)) 1 true))=some (bF (cU (m.map cU))):=by
       rw[bR,agI]
       exact dL _
      have avS:=aaF (g:=i) (g2:=i+1) (es:=(m++[w]).map (aQ bF)) (e:=1) (w:=true) AW (by omega)
      have k1:Bh (H.set (n+1) (.row (i+1) ((m++[w]).map (aQ bF)) 1 true)) (.ref (n+1) i 0 i i) (.ptr (n+2) 0 0 0)=true:=by
       simp only[Bh,Ck,avS,agI]
       simp
      simp only[fF,g0,g2,g4,g5,g21,g22,g23,cK,a1,a2,e2,e3,e4,hl,hz,eL,eS,eP,s3,k1,dL,wK,GM,List.all_cons,List.all_nil,Bool.and_true,ne_eq,not_true_eq_false,decide_false,kC,VX,Nat.reduceEqDiff,Nat.reduceAdd,Nat.reduceLeDiff,Nat.reduceLT,Nat.reduceSub]
      have Xr:w.length≤12:=by omega
      refine nJ rfl (Fq (v:=aQ bF w) w (B:=665) (Rd.tree Em) (Nat.le_refl _) hb (Nat.le_trans (FU Xr) (by decide)) (by decide) (Nat.le_trans Xr (by decide))) fun x L hx => ?_
      subst hx
      have hsb:=Nat.le_trans (nL hb (Nat.le_refl _)) (FU Xr)
      have O0:∀y∈m.map cU,bQ y≤7993:=fun y hy=>by
       obtain⟨z,hz,rfl⟩:=List.mem_map.1 hy
       have hz':=YA z hz
       exact Nat.le_trans (nL (B:=665) (fun q hq=>(hz'.2 q hq).2) (Nat.le_refl _)) (FU (by rw[hz'.1];exact c12))
      have YE:=nL O0 (n:=12) (by rw[List.length_map,Kz];exact Nat.le_trans hi c12)
      have e5:=yD (cU (m.map cU)) (cU w) (Nat.le_trans YE (by decide)) (Nat.le_trans hsb (by decide))
      have Kl:cU (m.map cU)+cU w=cU ((m++[w]).map cU):=by
       unfold cU
       rw[List.map_append,List.foldl_append]
       rfl
      rw[Kl] at e5
      have s4:=bX (lo:=n) (v:=bF (cU ((m++[w]).map cU))) (j:=0) (bK (L:=L) agI) (by exact Nat.zero_lt_one) (by omega) rfl rfl
      rw[List.set_cons_zero] at s4
      simp only[g5,e5,s4,wi,g23,kC,VX,Nat.reduceEqDiff,Nat.reduceAdd,Nat.reduceLeDiff,Nat.reduceLT,Nat.reduceSub]
      exact⟨i+1,by omega,by omega,⟨m++[w],vC,aZ (by omega) (bK (aZ (by omega) vO)),aZ (by omega) (bK (bJ AW)),bJ (bK agI)⟩,by (repeat' apply And.intro)<;>first | rfl | trivial | assumption⟩
     ·obtain⟨f1,f2,f3⟩:=tJ (n:=n) (bE:=iX c) vO (Nat.le_refl _) (bad (by unfold iP;rw[E0];exact if_neg (fun h=>hz (AI.2 (by rw[←hqd];exact h.2.2)))))
      simp only[fF,g0,g2,g21,g22,g23,cK,a1,a2,e2,e3,e4,hl,hz,f1,f2,dL,ne_eq,not_true_eq_false,not_false_eq_true,decide_false,decide_true,kC,VX,Nat.reduceEqDiff,Nat.reduceAdd,Nat.reduceLeDiff,Nat.reduceLT,Nat.reduceSub]
      exact f3
   ·obtain⟨f1,f2,f3⟩:=tJ (n:=n) (bE:=iX c) vO (Nat.le_refl _) (bad (by unfold iP;rw[E0];exact if_neg (fun h=>hl (by omega))))
    simp only[fF,g0,g2,g21,g22,g23,cK,a1,e2,hl,f1,f2,ne_eq,not_false_eq_true,decide_true,kC,VX,Nat.reduceEqDiff,Nat.reduceAdd,Nat.reduceLeDiff,Nat.reduceLT,Nat.reduceSub]
    exact f3
 ·have lS:i=c.length:=by omega
  subst lS
  rw[hm] at wU
  have s3:cN true 3 (.ptr (n+2) 0 0 0) H=some (bF (cU (m.map cU))):=by
   rw[bR,WM]
   exact dL _
  have e4:=fO (cU (m.map cU))
  obtain⟨_,_,C3,_⟩:=F1 (m:=m) (fun r hr=>Jc fun q hq=>((YA r hr).2 q hq).1) c.length
  rw[List.take_of_length_le (by rw[List.length_map,Kz];exact Nat.le_refl _)] at C3
  have Jz:iE m c.length=cH m:=by rw[cH,Kz]
  rw[Jz] at C3
  by_cases hz:kB (cU (m.map cU))=0
  ·have h0:=C3.1 (AI.1 hz)
   obtain⟨f1,f2,f3⟩:=tJ (n:=n) (bE:=iX c) vO (Nat.le_refl _) (by rw[wU];exact if_pos h0)
   simp only[fF,g2,g5,g22,g23,cK,s3,e4,hz,f1,f2,kC,VX,Nat.reduceEqDiff,Nat.reduceAdd,Nat.reduceLeDiff,Nat.reduceLT,Nat.reduceSub]
   exact f3
  ·have h0:cH m≠0:=fun h=>hz (AI.2 (C3.2 h))
   have wU:iX c=uH (mF m):=by rw[wU];exact if_neg h0
   rw[wU]
   simp only[fF,g2,g4,g5,g22,g23,cK,s3,e4,hz,kC,VX,Nat.reduceEqDiff,Nat.reduceAdd,Nat.reduceLeDiff,Nat.reduceLT,Nat.reduceSub]
   refine nJ rfl (QK (H:=H) (v := .ref (n+1) c.length 0 c.length c.length) m (n:=c.length) (B:=665) (RdT.row AW Kz.symm Em) (by omega) Kz (by omega) (by omega) (fun r hr=>⟨(YA r hr).1,fun q hq=>((YA r hr).2 q hq).2⟩) h0) fun x L hx => ?_
   obtain⟨b,g,cc,rs,rfl,k1,hM,OS⟩:=hx
   obtain⟨el,eb⟩:=Ij Kz (B:=665) (fun r hr=>⟨(YA r hr).1,fun q hq=>((YA r hr).2 q hq).2⟩) (by omega) (by omega)
   have AX:rs.length=(mF m).length:=by rw[←OS,List.length_map]
   have Un:=hM.fz (d:=5) (c:=cc) (by omega) iZ
   rw[OS,AX] at Un
   simp only[g2,kC,VX,Nat.reduceEqDiff,Nat.reduceAdd,Nat.reduceLeDiff,Nat.reduceLT,Nat.reduceSub]
   refine VG (HP (mF m) (by omega) (fun r hr=>⟨by have:=(eb r hr).1;omega,fun q hq=>by have:=(eb r hr).2 q hq;omega⟩)) rfl (X8 Un) (bK vO) (Nat.le_refl _) fun v H2 H3 t1 t2 t3 => ?_
   simp only[g2,t1,t2,kC,VX,Nat.reduceEqDiff,Nat.reduceAdd,Nat.reduceLeDiff,Nat.reduceLT,Nat.reduceSub]
   exact t3
end Go.PM
namespace Go.PM
open Go.Lib
set_option maxHeartbeats 4000000 in
theorem Ia (c:List (List ByteArray)) (hn:c.length≤1000000000) (hs:∀r∈c,r.length≤1000000000∧∀s∈r,s.size≤1000000000):FC 16 [Hq c] (Xg (CG ((iX c).getD [])) (iX c).isSome):=by
 refine FC.Mu ⟨true,false⟩ HL (Nat.le_of_ble_eq_true rfl) fun n => ?_
 by_cases h1:(c.length:Int)<1
 ·obtain⟨f1,f2,f3⟩:=tJ (n:=n) (bE:=iX c) (xW (n:=n) (K:=[])) (Nat.le_refl _) (by unfold iX;exact if_neg (by omega))
  simp only[tQ,pW,h1,f1,f2,DV,List.length_replicate,kC,VX,Nat.reduceEqDiff,Nat.reduceAdd,Nat.reduceLeDiff,Nat.reduceLT,Nat.reduceSub]
  exact f3
 by_cases h12:12<(c.length:Int)
 ·obtain⟨f1,f2,f3⟩:=tJ (n:=n) (bE:=iX c) (xW (n:=n) (K:=[])) (Nat.le_refl _) (by unfold iX;exact if_neg (by omega))
  simp only[tQ,pW,h1,h12,f1,f2,DV,List.length_replicate,kC,VX,Nat.reduceEqDiff,Nat.reduceAdd,Nat.reduceLeDiff,Nat.reduceLT,Nat.reduceSub]
  exact f3
 have wU:iX c=match nM c c.length with
  | some m=>if cH m=0 then none else uH (mF m)
  | none=>none:=by unfold iX;exact if_pos ⟨by omega,by omega⟩
 have c12:c.length≤12:=by omega
 have e0:∀K,jY false [.slice none 0 0] 0 [] K=some (.ref K.length 0 0 0 0,K++[.row 0 [] 1 true]):=fun K=>iA rfl
 simp only[tQ,pW,h1,h12,e0,DV,List.length_replicate,List.length_cons,List.length_nil,List.append_assoc,List.cons_append,List.nil_append,kC,VX,Nat.reduceEqDiff,Nat.reduceAdd,Nat.reduceLeDiff,Nat.reduceLT,Nat.reduceSub]
 refine aP (fun(i:Nat) ρ H=>i≤c.length∧(∃m,nM c i=some m∧aH H n 0=some ([.tree [] .nil],1,true)∧aH H (n+1) i=some (m.map (aQ bM),1,true)∧ρ 6=VB (m.any fun r => !decide (cU r=0)))∧ρ 0=Hq c∧ρ 2 = .ptr n 0 0 0∧ρ 4=VI c.length∧ρ 5 = .ref (n+1) i 0 i i∧ρ 7=VI i) (fun i=>c.length-i) 0
  ⟨Nat.zero_le _,⟨[],rfl,xW,by rw[xK,jB,aU];rfl,rfl⟩,by (repeat' apply And.intro)<;>first | rfl | trivial | assumption⟩ ?_
 rintro i ρ H ⟨hi,⟨m,hm,vO,AW,g6⟩,g0,g2,g4,g5,g7⟩
 have BP:=eW AW
 obtain⟨Kz,YA⟩:=vN hm
 by_cases cK:(i:Int)<(c.length:Int)
 ·obtain⟨r,hr⟩:∃r,c[i]? = some r:=⟨_,List.getElem?_eq_getElem (by omega)⟩
  have CE:=hs r (List.mem_of_getElem? hr)
  have YF:c.getD i []=r:=by rw[List.getD_eq_getElem?_getD,hr];rfl
  have a1:=fun H=>aI (f:=fM) (t := .op) (H:=H) (size:=1) (k := .i64) hr rfl
  have wi:IntKind.i64.wrap ((i:Int)+1)=((i+1:Nat):Int):=wrapN (i+1) (by omega) (by omega)
  have e2:=Mv r CE.1 CE.2
  have vC:nM c (i+1)=match iP c.length i r with | some q=>some (m++[q]) | none=>none:=by
   rw[nM,hm,YF]
   cases iP c.length i r<;>rfl
  have bad:iP c.length i r=none→iX c=none:=fun h=>by
   rw[h] at vC
   rw[wU,G4 vC c.length (by omega)]
  cases E0:EN r with
  |
   none =>
   rw[E0,TE] at e2
   obtain⟨f1,f2,f3⟩:=tJ (n:=n) (bE:=iX c) vO (Nat.le_refl _) (bad (by unfold iP;rw[E0]))
   simp only[dW,g0,g2,g4,g7,cK,a1,e2,f1,f2,kC,VX,Nat.reduceEqDiff,Nat.reduceAdd,Nat.reduceLeDiff,Nat.reduceLT,Nat.reduceSub]
   exact f3
  |
   some w =>
   rw[E0,TT] at e2
   obtain⟨hb,hlw,_⟩:=FX E0
   by_cases hl:(w.length:Int)=(c.length:Int)
   ·have e3:=F8 w (by omega)
    cases Ip:w.any (fun q=>decide (q<0)) with
    |
     true =>
     rw[Ip] at e3
     obtain⟨f1,f2,f3⟩:=tJ (n:=n) (bE:=iX c) vO (Nat.le_refl _) (bad (by unfold iP;rw[E0];exact if_neg (fun h=>by rw[Ip] at h;cases h.2.1)))
     simp only[dW,g0,g2,g4,g7,cK,a1,e2,e3,hl,f1,f2,Bool.not_true,ne_eq,not_true_eq_false,decide_false,kC,VX,Nat.reduceEqDiff,Nat.reduceAdd,Nat.reduceLeDiff,Nat.reduceLT,Nat.reduceSub]
     exact f3
    |
     false =>
     rw[Ip] at e3
     obtain⟨q,hq⟩:∃q,w[i]? = some q:=⟨_,List.getElem?_eq_getElem (by omega)⟩
     have hqd:w.getD i 0=q:=by rw[List.getD_eq_getElem?_getD,hq];rfl
     have a2:=fun H=>aI (f:=bM) (t := .op) (H:=H) (size:=3) (k := .i64) hq rfl
     have e4:=DJ q
     by_cases hz:q=0
     ·rw[decide_eq_true hz] at e4
      have gG:iP c.length i r=some w:=by unfold iP;rw[E0];exact if_pos ⟨by omega,Ip,by rw[hqd,hz]⟩
      rw[gG] at vC
      have eL:∀K,jY false [.slice none 0 0] 1 [(0,aQ bM w)] K=some (.tree [aQ bM w] (.cl 1),K):=fun K=>gJ rfl rfl rfl
      have eS:∀K,dF 1 (.tree [aQ bM w] (.cl 1)) K=some [aQ bM w]:=fun K=>dV rfl rfl
      have Jz:(((m++[w]).any fun r => !decide (cU r=0)))=((m.any fun r => !decide (cU r=0)) || !decide (cU w=0)):=by
       rw[List.any_append]
       simp
      cases hs6:m.any fun r => !decide (cU r=0) with
      |
       true =>
       rw[hs6] at g6 Jz
       have eP:=Gt (f:=aQ bM) (lo:=n) (bytes:=24) (x:=w) AW Kz.symm (by omega) (by decide) (by decide) (by omega)
       simp only[dW,g0,g2,g4,g5,g6,g7,cK,a1,a2,e2,e3,e4,hl,eL,eS,eP,wi,gD,Bool.not_false,ne_eq,not_true_eq_false,decide_false,kC,VX,Nat.reduceEqDiff,Nat.reduceAdd,Nat.reduceLeDiff,Nat.reduceLT,Nat.reduceSub]
       exact⟨i+1,by omega,by omega,⟨m++[w],vC,aZ (by omega) vO,bJ AW,by rw[Jz];rfl⟩,by (repeat' apply And.intro)<;>first | rfl | trivial | assumption⟩
      |
       false =>
       rw[hs6] at g6 Jz
       simp only[dW,g0,g2,g4,g5,g6,g7,cK,a1,a2,e2,e3,e4,hl,gD,Bool.not_false,ne_eq,not_true_eq_false,decide_false,kC,VX,Nat.reduceEqDiff,Nat.reduceAdd,Nat.reduceLeDiff,Nat.reduceLT,Nat.reduceSub]
       have Xr:w.length≤12:=by omega
       refine nJ rfl (wO (v:=aQ bM w) w (B:=665) (Rd.tree Ee) (by omega) hb (Nat.le_trans (FU Xr) (by decide)) (by decide) (Nat.le_trans Xr (by decide))) fun x L hx => ?_
       subst hx
       have e5:=DJ (cU w)
       have eP:=Gt (f:=aQ bM) (lo:=n) (bytes:=24) (x:=w) (bK (L:=L) AW) Kz.symm (by omega) (by decide) (by decide) (by omega)
       have aoP:=bK (L:=L) vO
       have Nn:=bK (L:=L) AW
       generalize H++L=H2 at *
       by_cases QJ:cU w=0
       ·rw[decide_eq_true QJ] at e5 Jz
        simp only[g0,g2,g4,g5,g6,g7,e5,eL,eS,eP,wi,kC,VX,Nat.reduceEqDiff,Nat.reduceAdd,Nat.reduceLeDiff,Nat.reduceLT,Nat.reduceSub]
        exact⟨i+1,by omega,by omega,⟨m++[w],vC,aZ (by omega) aoP,bJ Nn,by rw[Jz];rfl⟩,by (repeat' apply And.intro)<;>first | rfl | trivial | assumption⟩
       ·rw[decide_eq_false QJ] at e5 Jz
        simp only[g0,g2,g4,g5,g6,g7,e5,eL,eS,eP,wi,kC,VX,Nat.reduceEqDiff,Nat.reduceAdd,Nat.reduceLeDiff,Nat.reduceLT,Nat.reduceSub]
        exact⟨i+1,by omega,by omega,⟨m++[w],vC,aZ (by omega) aoP,bJ Nn,by rw[Jz];rfl⟩,by (repeat' apply And.intro)<;>first | rfl | trivial | assumption⟩
     ·rw[decide_eq_false hz] at e4
      obtain⟨f1,f2,f3⟩:=tJ (n:=n) (bE:=iX c) vO (Nat.le_refl _) (bad (by unfold iP;rw[E0];exact if_neg (fun h=>hz (by rw[←hqd];exact h.2.2))))
      simp only[dW,g0,g2,g4,g7,cK,a1,a2,e2,e3,e4,hl,f1,f2,gD,Bool.not_false,ne_eq,not_true_eq_false,decide_false,kC,VX,Nat.reduceEqDiff,Nat.reduceAdd,Nat.reduceLeDiff,Nat.reduceLT,Nat.reduceSub]
      exact f3
   ·obtain⟨f1,f2,f3⟩:=tJ (n:=n) (bE:=iX c) vO (Nat.le_refl _) (bad (by unfold iP;rw[E0];exact if_neg (fun h=>hl (by omega))))
    simp only[dW,g0,g2,g4,g7,cK,a1,e2,hl,f1,f2,ne_eq,not_false_eq_true,decide_true,kC,VX,Nat.reduceEqDiff,Nat.reduceAdd,Nat.reduceLeDiff,Nat.reduceLT,Nat.reduceSub]
    exact f3
 ·have lS:i=c.length:=by omega
  subst lS
  rw[hm] at wU
  obtain⟨_,_,_,C3⟩:=F1 (m:=m) (fun r hr=>Jc fun q hq=>((YA r hr).2 q hq).1) c.length
  rw[List.take_of_length_le (by rw[Kz];exact Nat.le_refl _)] at C3
  have Jz:iE m c.length=cH m:=by rw[cH,Kz]
  rw[Jz] at C3
  rw[C3] at g6
  by_cases h0:cH m=0
  ·rw[decide_eq_true h0] at g6
   obtain⟨f1,f2,f3⟩:=tJ (n:=n) (bE:=iX c) vO (Nat.le_refl _) (by rw[wU];exact if_pos h0)
   simp only[dW,g2,g4,g6,g7,cK,f1,f2,Bool.not_true,Bool.not_false,kC,VX,Nat.reduceEqDiff,Nat.reduceAdd,Nat.reduceLeDiff,Nat.reduceLT,Nat.reduceSub]
   exact f3
  ·rw[decide_eq_false h0] at g6
   have wU:iX c=uH (mF m):=by rw[wU];exact if_neg h0
   rw[wU]
   simp only[dW,g2,g4,g5,g6,g7,cK,Bool.not_true,Bool.not_false,kC,VX,Nat.reduceEqDiff,Nat.reduceAdd,Nat.reduceLeDiff,Nat.reduceLT,Nat.reduceSub]
   refine nJ rfl (Lj (H:=H) (v := .ref (n+1) c.length 0 c.length c.length) m (n:=c.length) (B:=665) (RdT.row AW Kz.symm Ee) (by omega) Kz (by omega) (by omega) (fun r hr=>⟨(YA r hr).1,fun q hq=>((YA r hr).2 q hq).2⟩) h0) fun x L hx => ?_
   obtain⟨b,g,cc,rs,rfl,k1,hM,OS⟩:=hx
   obtain⟨el,eb⟩:=Ij Kz (B:=665) (fun r hr=>⟨(YA r hr).1,fun q hq=>((YA r hr).2 q hq).2⟩) (by omega) (by omega)
   have AX:rs.length=(mF m).length:=by rw[←OS,List.length_map]
   have Un:=hM.fz (d:=5) (c:=cc) (by omega) zX
   rw[OS,AX] at Un
   simp only[g2,kC,VX,Nat.reduceEqDiff,Nat.reduceAdd,Nat.reduceLeDiff,Nat.reduceLT,Nat.reduceSub]
   refine VG (Ka (mF m) (by omega) (fun r hr=>⟨by have:=(eb r hr).1;omega,fun q hq=>by have:=(eb r hr).2 q hq;omega⟩)) rfl (X8 Un) (bK vO) (Nat.le_refl _) fun v H2 H3 t1 t2 t3 => ?_
   simp only[g2,t1,t2,kC,VX,Nat.reduceEqDiff,Nat.reduceAdd,Nat.reduceLeDiff,Nat.reduceLT,Nat.reduceSub]
   exact t3
end Go.PM
namespace Go.PM
def mO:aD:=(LS [LO 2 (.mv LF)] (LS [LO 3 (.mv (LI 1000000))] (LS [LM 14 0,LM 15 3,LO 16 (.call 15 [(LT 14),(LT 15)]),LM 3 16] (.seq (LS [LM 17 3,LO 18 (.bin .lss (LT 17) (LI 0))] (.cond (LT 18) (LS [LO 2 (.mv LG)] .ret) .skip)) (LS [LM 20 0,LO 21 (.call 17 [(LT 20),LF]),LO 22 (.call 16 [(LT 21)]),LM 19 22,LO 23 (LX 19 0),LO 24 (LX 19 1),LO 4 (.new [(.slice none 0 0)]),LN (.store 1 (LT 4) (LT 23)),LM 5 24] (LS [LM 25 0,LO 26 (.call 17 [(LT 25),LF]),LM 6 26] (LS [LM 28 6,LO 29 (.call 18 [(LT 28)]),LM 27 29,LO 30 (LX 27 0),LO 31 (LX 27 1),LO 7 (.new [(.slice none 0 0)]),LN (.store 1 (LT 7) (LT 30)),LM 8 31] (.seq (LS [LO 32 (.load true 1 (LT 7)),LO 33 (.load true 1 (LT 4)),LO 34 (.call 19 [(LT 32),(LT 33)]),LO 35 (.un .not (LT 34)),LM 36 35,LZ 36 37 (.mv (LT 8)),LZ 36 38 (.mv (LT 5)),LZ 36 39 (.eqb true (LT 37) (LT 38)),LO 40 (.pick (LT 36) LG (LT 39))] (.cond (LT 40) (LS [LO 2 (.mv LF)] .ret) .skip)) (.seq (LS [LM 41 6,LM 42 0,LO 43 (.call 17 [(LT 42),LF]),LO 44 (.call 20 [(LT 41),(LT 43)]),LO 45 (.un .not (LT 44))] (.cond (LT 45) (LS [LO 2 (.mv LF)] .ret) .skip)) (LS [LO 9 (.mv (LI 101))] (LS [LM 46 6,LM 47 9,LO 48 (.call 21 [(LT 46),(LT 47)]),LM 9 48] (.seq (LS [LM 49 9,LO 50 (.bin .lss (LT 49) (LI 0)),LM 51 50,LZ 51 52 (.load true 1 (LT 7)),LZ 51 53 (.load true 1 (LT 4)),LZ 51 54 (.call 19 [(LT 52),(LT 53)]),LZ 51 55 (.un .not (LT 54)),LO 56 (.pick (LT 51) LG (LT 55)),LM 57 56,LZ 57 58 (.mv (LT 8)),LZ 57 59 (.mv (LT 5)),LZ 57 60 (.eqb true (LT 58) (LT 59)),LO 61 (.pick (LT 57) LG (LT 60))] (.cond (LT 61) (LS [LO 2 (.mv LF)] .ret) .skip)) (LS [LO 10 (.mv (LI 101))] (LS [LO 62 (.load true 1 (LT 7)),LM 63 10,LO 64 (.call 22 [(LT 62),(LT 63)]),LM 10 64] (LS [LO 11 (.mv (LI 101))] (LS [LO 65 (.load true 1 (LT 7)),LM 66 11,LO 67 (.call 23 [(LT 65),(LT 66)]),LM 11 67] (.seq (LS [LM 68 11,LO 69 (.bin .lss (LT 68) (LI 0))] (.cond (LT 69) (LS [LO 2 (.mv LF)] .ret) .skip)) (.seq (LS [LM 70 11,LM 71 10,LO 72 (.bin .neq (LT 70) (LT 71))] (.cond (LT 72) (LS [LO 2 (.mv LF)] .ret) .skip)) (LS [LM 74 0,LO 75 (.call 17 [(LT 74),LG]),LO 76 (.call 18 [(LT 75)]),LM 73 76,LO 77 (LX 73 0),LO 78 (LX 73 1),LO 12 (.new [(.slice none 0 0)]),LN (.store 1 (LT 12) (LT 77)),LM 13 78] (.seq (LS [LO 79 (.load true 1 (LT 12)),LO 80 (.load true 1 (LT 4)),LO 81 (.call 19 [(LT 79),(LT 80)]),LO 82 (.un .not (LT 81)),LM 83 82,LZ 83 84 (.mv (LT 13)),LZ 83 85 (.mv (LT 5)),LZ 83 86 (.eqb true (LT 84) (LT 85)),LO 87 (.pick (LT 83) LG (LT 86))] (.cond (LT 87) (LS [LO 2 (.mv LF)] .ret) .skip)) (LS [LO 11 (.mv (LI 101))] (LS [LO 88 (.load true 1 (LT 7)),LM 89 11,LO 90 (.call 23 [(LT 88),(LT 89)]),LM 11 90] (.seq (LS [LM 91 11,LO 92 (.bin .lss (LT 91) (LI 0))] (.cond (LT 92) (LS [LO 2 (.mv LF)] .ret) .skip)) (.seq (LS [LM 93 11,LM 94 10,LO 95 (.bin .neq (LT 93) (LT 94))] (.cond (LT 95) (LS [LO 2 (.mv LF)] .ret) .skip)) (LS [LO 2 (.mv LG)] .ret)))))))))))))))))))))))))
def oI:aT:=⟨96,[(.tmp 2)],mO⟩
theorem By:gO 3=some oI:=by kernel_rfl
end Go.PM
namespace Go.PM
structure VY (s:Kr):Prop where
 b:s.b.length≤100
 g:s.g.length≤100
 r:∀x∈s.g,x.length≤100
 e:s.e.length≤100
theorem Ca {β:Type}:∀ {xs:List (List β)} {n:Nat},(∀x∈xs,x.length≤n)→cM xs≤xs.length*n
 | [],n,_=>by simp[cM]
 |
  x::xs,n,h=>by
  have h1:=h x List.mem_cons_self
  have h2:=Ca (xs:=xs) (n:=n) fun y hy=>h y (List.mem_cons_of_mem _ hy)
  have e:cM (x::xs)=x.length+cM xs:=by simp[cM]
  rw[e,List.length_cons,Nat.add_mul,Nat.one_mul]
  omega
theorem VY.n {s:Kr} (h:VY s):svN s≤10200:=by
 have h1:=Ca h.r
 have h2:s.g.length*100≤100*100:=Nat.mul_le_mul_right _ h.g
 have h3:=h.b
 have h4:=h.e
 unfold svN
 omega
def Ag3 (v:VV):Prop:=∃a b c,v = .agg [a,b,c]∧cC a=true∧cC b=true∧cC c=true
theorem Vv.ag3 {s:Kr} {lo hi:Nat} {H:aA} {v:VV} (h:Vv s lo hi H v):Ag3 v:=by
 obtain⟨a,b,c,h1,h2,h3,h4,_⟩:=h.own (n:=0) (Nat.zero_le _)
 exact⟨a,b,c,h1,h2,h3,h4⟩
theorem SvS.ag3 {s:Kr} {lo hi:Nat} {H:aA} {v:VV} (h:SvS s lo hi H v):Ag3 v:=by
 obtain⟨⟨a,b,c,h1,h2,h3,h4,_⟩,_⟩:=h
 exact⟨a,b,c,h1,h2,h3,h4⟩
theorem Uc {m:List (List Rat)} {y:List (List ByteArray)} {B:Nat} (h:uH m=some y) (hB:∀r∈m,r.length≤B):y.length=m.length∧∀x∈y,x.length≤B :=
 ⟨qZ h,fun x hx=>by
  have key:∀ {m:List (List Rat)} {y:List (List ByteArray)},m.mapM Cw=some y→(∀r∈m,r.length≤B)→∀x∈y,x.length≤B:=by
   intro m
   induction m with
   | nil=>intro y h _ x hx;cases h;cases hx
   |
    cons r m ih =>
    intro y h hB x hx
    obtain⟨z,zs,h1,h2,rfl⟩:=mE h
    rcases List.mem_cons.1 hx with rfl | hx
    ·rw[Ye h1];exact hB r List.mem_cons_self
    ·exact ih h2 (fun r hr=>hB r (List.mem_cons_of_mem _ hr)) x hx
  exact key h hB x hx⟩
end Go.PM
namespace Go.PM
open Go.Lib
theorem YB.wide {α:Type} {f:α→VV} {e:Nat} {o:Option (List α)}:∀ {lo hi lJ qW:Nat} {H:aA} {v:VV},YB f e o lo hi H v→lJ≤lo→hi≤qW→YB f e o lJ qW H v:=by
 intro lo hi lJ qW H v h hl hh
 cases o with
 | none=>exact h
 |
  some ys =>
  obtain⟨b,g,c,h1,h2,h3⟩:=h
  exact⟨b,g,c,by omega,by omega,h3⟩
end Go.PM
namespace Go.PM
theorem pI.shift {H L:aA} {bare:Bool} {xs:List (List ByteArray)} (h:pI (List.replicate H.length .dead++L) bare xs H.length):pI (H++L) bare xs H.length:=h.cL fun b' g x hb hx=>Od hb hx
theorem acX {lo:Nat} {xs:List (List ByteArray)} {H:aA} {K:VV→aA→Prop} (hn:xs.length≤1000000000∧∀x∈xs,x.length≤1000000000)
  (hk:∀H',H <+: H'→pI H' false xs H.length→K (.ref H.length 0 0 xs.length (xs.length+room xs.length)) H'):cZ 17 [fI xs,.sc (.bool false)] lo H K:=by
 refine(Aj xs false hn.1 hn.2).call rfl (mapM_pure (n:=7) (by simp only[aM,lR,Bool.true_and];rfl)) ?_
 rintro r L (⟨h,_⟩ | ⟨rfl,h⟩)
 ·cases h
 ·exact hk _ (List.prefix_append _ _) h.shift
theorem Zr {lo:Nat} {bare:Bool} {xs:List (List ByteArray)} {H:aA} {K:VV→aA→Prop} (hn:xs.length≤1000000000∧∀x∈xs,x.length≤1000000000)
  (hk:∀r H',H <+: H'→(∀H2,H' <+: H2→PM.fz depth H2 r=some (fI xs))→K r H'):cZ 17 [fI xs,.sc (.bool bare)] lo H K:=by
 refine(Aj xs bare hn.1 hn.2).call rfl (mapM_pure (n:=7) (by simp only[aM,lR,Bool.true_and];rfl)) ?_
 rintro r L (⟨rfl,rfl,rfl,rfl⟩ | ⟨rfl,h⟩)
 ·exact hk _ _ (List.prefix_append _ _) fun H2 _=>HD
 ·exact hk _ _ (List.prefix_append _ _) fun H2 h2=>((h.shift).pre h2).fz (d:=5)
theorem ZR {lo b:Nat} {xs:List (List ByteArray)} {Hc H:aA} {k:Int} {K:VV→aA→Prop} (hS:pI Hc false xs b) (hkp:dO b Hc.length Hc H) (fG:lo≤b) (hk:0≤k∧k≤10000000) (hn:xs.length≤10000000) (ht:cM xs≤10000000)
  (hK:∀H',H'.length=H.length→(∀b' g x,b'<b∨Hc.length≤b'→aH H b' g=some x→aH H' b' g=some x)→K (VI (k+cM xs)) H') :
  cZ 21 [.ref b 0 0 xs.length (xs.length+room xs.length),VI k] lo H K:=by
 refine gC rfl (kS.walk ⟨true,false⟩ qS (Nat.le_of_ble_eq_true rfl) ?_)
 obtain⟨cells,yA,h1,h2,h3,h4,h5⟩:=hS
 have hbc:=eW h1
 simp only[pA,lX,kC,VX,Nat.reduceEqDiff,Nat.reduceAdd,Nat.reduceLeDiff,Nat.reduceLT,Nat.reduceSub]
 refine aP (fun(i:Nat) ρ H1=>i≤xs.length∧H1.length=H.length∧aH H1 b 0=some (cells++yA,1,true)∧(∀(j:Nat) x,xs[j]? = some x→∃(b' c:Nat) (ys:List ByteArray),b<b'∧b'<Hc.length∧cells[j]? = some (.ref b' 0 0 x.length c)∧x.length≤ys.length∧aH H1 b' 0=some (ys.map sV,1,true))∧(∀b' g x,b'<b∨Hc.length≤b'→aH H b' g=some x→aH H1 b' g=some x)∧ρ 0 = .ref b 0 0 xs.length (xs.length+room xs.length)∧ρ 1=VI (k+cM (xs.take i))∧ρ 5=VI i) (fun i=>xs.length-i) 0
  ⟨Nat.zero_le _,rfl,hkp _ _ _ (Nat.le_refl _) hbc h1,fun j x hx => ?_,fun _ _ _ _ h=>h,rfl,(by rw[List.take_zero];show VI k=VI (k+((0:Nat):Int));simp),rfl⟩ ?_
 ·obtain⟨c,Yw,Yi⟩:=h4 j x hx
  rcases Yi with⟨h,_⟩ | ⟨b',k1,rfl,k2⟩
  ·cases h
  ·have:=eW k2
   exact⟨b',_,jT jG x,k1,this,Yw,by rw[Jo];omega,hkp _ _ _ (by omega) this k2⟩
 rintro i ρ H1 ⟨hi,hl,hb,Oi,hold,g0,g1,g5⟩
 have el:=dP (o:=0) (n:=xs.length) (c:=xs.length+room xs.length) hb
 by_cases cK:(i:Int)<(xs.length:Int)
 ·obtain⟨x,hx⟩:∃x,xs[i]? = some x:=⟨_,List.getElem?_eq_getElem (by omega)⟩
  obtain⟨b',c,ys,k1,k2,k3,k4,k5⟩:=Oi i x hx
  have l1:=D0 hx
  have l2:=HI (xs:=xs) (i+1)
  have a1:=aS (o:=0) (n:=xs.length) (c:=xs.length+room xs.length) (i:=i) (k := .i64) hb (by omega)
  rw[Nat.zero_add] at a1
  have a2:cN false 1 (.ptr b 0 i 0) H1=some (.ref b' 0 0 x.length c):=by
   rw[bR,hb]
   simp only[]
   rw[List.getElem?_append_left (List.getElem?_eq_some_iff.1 k3).1,k3]
   rfl
  have wi:IntKind.i64.wrap ((i:Int)+1)=((i+1:Nat):Int):=wrapN (i+1) (by omega) (by omega)
  simp only[gA,g0,g1,g5,cK,el,a1,a2,kC,VX,Nat.reduceEqDiff,Nat.reduceAdd,Nat.reduceLeDiff,Nat.reduceLT,Nat.reduceSub]
  refine gC rfl ((zJ (n:=x.length) (c:=c) ys _ k5 k4 (by omega) (by omega) (by omega)).mono ?_)
  rintro v H2 ⟨rfl,rfl⟩
  simp only[g5,wi,kC,VX,Nat.reduceEqDiff,Nat.reduceAdd,Nat.reduceLeDiff,Nat.reduceLT,Nat.reduceSub]
  refine⟨i+1,by omega,by omega,by simpa using hl,aZ (by omega) hb,fun j y hy => ?_,fun b2 g2 z hz h=>aZ (by omega) (hold b2 g2 z hz h),g0,?_,rfl⟩
  ·obtain⟨b2,c2,ys2,j1,j2,j3,j4,j5⟩:=Oi j y hy
   by_cases Ju:b2=b'
   ·subst Ju
    rw[k5] at j5
    refine⟨b2,c2,lC (k+cM (xs.take i)) x.length++ys.drop x.length,j1,j2,j3,?_,bJ k5⟩
    have hyy:ys2.map sV=ys.map sV:=by
     have:=Option.some.inj j5
     exact(Prod.mk.inj this).1.symm
    have hle:ys2.length=ys.length:=by have:=congrArg List.length hyy;simpa using this
    rw[List.length_append,uP,List.length_drop]
    omega
   ·exact⟨b2,c2,ys2,j1,j2,j3,j4,aZ (fun h=>Ju h.symm) j5⟩
  ·rw[l1,Int.natCast_add,←Int.add_assoc]
 ·have lS:i=xs.length:=by omega
  subst lS
  simp only[gA,g0,g1,g5,cK,el,kC,VX,Nat.reduceEqDiff,Nat.reduceAdd,Nat.reduceLeDiff,Nat.reduceLT,Nat.reduceSub]
  rw[List.take_of_length_le (Nat.le_refl _)]
  exact hK H1 hl hold
structure Ej (s:List (List ByteArray)):Prop where
 g:s.length≤100
 r:∀x∈s,x.length≤100
theorem Ej.n {s:List (List ByteArray)} (h:Ej s):cM s≤10000:=by
 have h1:=Ca h.r
 have h2:s.length*100≤100*100:=Nat.mul_le_mul_right _ h.g
 omega
theorem aaO {lo:Nat} {s:List (List ByteArray)} {H:aA} {v w:VV} {K:VV→aA→Prop} (hs:Ej s) (hv:PM.fz depth H v=some (chV s)) (hw:PM.fz depth H w=some (chV s)):cZ 19 [v,w] lo H K=K (VB true) H:=by
 have h:=MP s s (by have:=hs.g;omega) (fun x hx=>by have:=hs.r x hx;omega)
 rw[decide_eq_true rfl] at h
 exact TC.flat h rfl (Ic (Bx _) (Bx _)) (fz2 hv hw) rfl _ _
theorem U1 {lo:Nat} {s:List (List ByteArray)} {H:aA} {v:VV} {K:VV→aA→Prop} (hs:Ej s) (hv:PM.fz depth H v=some (chV (rR 101 s))):cZ 23 [v,VI 101] lo H K=K (VI (101+cM s)) H:=by
 have h:=IJ 101 s (by omega) (by have:=hs.g;omega) (by have:=hs.n;omega)
 exact TC.flat h rfl (Ic (Bx _) rfl) (fz2 hv (aK rfl)) rfl _ _
def Ag1 (v:VV):Prop:=∃a,v = .agg [a]∧cC a=true
theorem CG.ag3 {s:List (List ByteArray)} {lo hi:Nat} {H:aA} {v:VV} (h:CG s lo hi H v):Ag1 v:=by
 obtain⟨c,h1,h2,_,_⟩:=h.own (n:=0) (Nat.zero_le _)
 exact⟨c,h1,h2⟩
theorem Ut {lo:Nat} {H:aA} {v:VV} (h:Ag1 v) (fG:lo≤H.length):cD lo 1 (.ptr H.length 0 0 0) v (H++[.row 0 [.tree [] .nil] 1 true])=some (H++[.row 0 [v] 1 true]):=by
 obtain⟨a,rfl,h1⟩:=h
 rw[bX (e:=1) (g:=0) (j:=0) iD (by exact Nat.zero_lt_one) fG rfl (by simp[aB,h1]),GN]
 rfl
theorem JD {b:Nat} {H:aA} {v:VV} (h:Ag1 v) (hr:aH H b 0=some ([v],1,true)):cN true 1 (.ptr b 0 0 0) H=some v:=by
 obtain⟨a,rfl,_⟩:=h
 rw[bR,hr]
 rfl
theorem Sj (c:List (List ByteArray)):Ej ((iX c).getD []):=by
 have h0:Ej []:=⟨by decide,fun x hx=>by cases hx⟩
 unfold iX
 split
 ·rename_i hl
  split
  ·rename_i m hm
   split
   ·exact h0
   ·cases ht:uH (mF m) with
    | none=>exact h0
    |
     some y =>
     obtain⟨k1,k2⟩:=vN hm
     obtain⟨e1,e2⟩:=Ij (n:=c.length) (B:=665) k1 (fun r hr=>⟨(k2 r hr).1,fun q hq=>((k2 r hr).2 q hq).2⟩) (by omega) (by omega)
     obtain⟨j1,j2⟩:=Uc (B:=100) ht fun r hr=>by have:=(e2 r hr).1;omega
     exact⟨by rw[Option.getD_some,j1,e1];omega,j2⟩
  ·exact h0
 ·exact h0
end Go.PM
namespace Go.PM
theorem V5:∀(xs:List (List ByteArray)) (l:Int),0≤l→EG xs l<0→EG xs l = -1
 | [],l,h0,h=>by unfold EG at h;omega
 |
  x::xs,l,h0,h=>by
  unfold EG at h ⊢
  split
  ·rfl
  ·rename_i hc
   rw[if_neg hc] at h
   exact V5 xs _ (by omega) h
theorem afL {xs:List (List ByteArray)} {l:Int} (h:Hy xs l<0) (hl:0≤l):Hy xs l = -1:=by
 unfold Hy at h ⊢
 split
 ·rfl
 ·rename_i hc
  rw[if_neg hc] at h
  exact V5 xs _ (by omega) h
theorem Rp:∀(xs:List (List ByteArray)) (l:Int),0≤EG xs l→EG xs l+(cM xs:Int)≤l
 | [],l,h=>by simp[EG,cM]
 |
  x::xs,l,h=>by
  unfold EG at h ⊢
  split at h
  ·omega
  ·rename_i hc
   rw[if_neg hc]
   have h1:=Rp xs _ h
   have h2:Yk x l+(x.length:Int)≤l:=by
    unfold Yk at hc ⊢
    split at hc
    ·omega
    ·rename_i hd
     rw[if_neg hd]
     have:=(TI x (l-x.length) (by omega)).1
     omega
   have h3:cM (x::xs)=x.length+cM xs:=by simp[cM]
   omega
theorem aaI {xs:List (List ByteArray)} {l:Int} (h:0≤Hy xs l):Hy xs l+(cM xs:Int)≤l:=by
 unfold Hy at h ⊢
 split at h
 ·omega
 ·rename_i hc
  rw[if_neg hc]
  have:=Rp xs _ h
  omega
set_option maxHeartbeats 4000000 in
theorem Bb (s0:List (List ByteArray)) (XD:afY s0):TC 3 [fI s0] (.sc (.bool true)):=by
 refine TC.walk ⟨true,false⟩ By rfl (Nat.le_of_ble_eq_true rfl) (Z5 (lR _)) rfl ?_
 have ZP:=Gm s0 (1000000) XD (by omega)
 by_cases aqX:Hy s0 (1000000)<0
 ·rw[afL aqX (by omega)] at ZP
  simp only[oI,mO,ZP,Int.reduceNeg,Int.reduceLT,kC,VX,Nat.reduceEqDiff,Nat.reduceAdd,Nat.reduceLeDiff,Nat.reduceLT,Nat.reduceSub]
  exact aK rfl
 have aCX:=aaI (xs:=s0) (l:=1000000) (by omega)
 obtain⟨aCd,Ys,XW⟩:=aeY (xs:=s0) (l:=1000000) (by omega)
 have hbr:∀x∈s0,x.length≤400000000:=fun x hx=>by have:=(XW x hx).1;omega
 have Ny:s0.length≤1000000000∧∀x∈s0,x.length≤1000000000:=⟨by omega,fun x hx=>by have:=(XW x hx).1;omega⟩
 have C2:∀r∈s0,r.length≤1000000000∧∀s∈r,s.size≤1000000000:=fun x hx=>⟨by have:=(XW x hx).1;omega,fun y hy=>by have:=(XW x hx).2 y hy;omega⟩
 have cs:=Ia s0 Ny.1 C2
 have ci:=IX s0 Ny.1 C2
 have O0:=Sj s0
 have hsn:=O0.n
 generalize wU:(iX s0).getD []=val at *
 generalize (iX s0).isSome=ok at *
 simp only[oI,mO,ZP,aqX,kC,VX,Nat.reduceEqDiff,Nat.reduceAdd,Nat.reduceLeDiff,Nat.reduceLT,Nat.reduceSub]
 refine Zr Ny fun r1 H1 p1 s1' => ?_
 simp only[kC,VX,Nat.reduceEqDiff,Nat.reduceAdd,Nat.reduceLeDiff,Nat.reduceLT,Nat.reduceSub]
 refine MK cs rfl (X8 (s1' _ (List.prefix_refl _))) CG.cL fun v2 H2 p2 v2' => ?_
 simp only[kC,VX,Nat.reduceEqDiff,Nat.reduceAdd,Nat.reduceLeDiff,Nat.reduceLT,Nat.reduceSub]
 have w2:=Ut (lo:=0) (H:=H2) v2'.ag3 (Nat.zero_le _)
 simp only[w2,kC,VX,Nat.reduceEqDiff,Nat.reduceAdd,Nat.reduceLeDiff,Nat.reduceLT,Nat.reduceSub]
 have p3:=List.prefix_append H2 [.row 0 [v2] 1 true]
 have q2:aH (H2++[.row 0 [v2] 1 true]) H2.length 0=some ([v2],1,true):=iD
 generalize eh3:H2++[.row 0 [v2] 1 true]=H3 at *
 refine acX Ny fun H4 p4 r4 => ?_
 simp only[kC,VX,Nat.reduceEqDiff,Nat.reduceAdd,Nat.reduceLeDiff,Nat.reduceLT,Nat.reduceSub]
 refine MK ci rfl (X8 (r4.fz (d:=5))) CG.cL fun v5 H5 p5 v5' => ?_
 simp only[kC,VX,Nat.reduceEqDiff,Nat.reduceAdd,Nat.reduceLeDiff,Nat.reduceLT,Nat.reduceSub]
 have w5:=Ut (lo:=0) (H:=H5) v5'.ag3 (Nat.zero_le _)
 simp only[w5,kC,VX,Nat.reduceEqDiff,Nat.reduceAdd,Nat.reduceLeDiff,Nat.reduceLT,Nat.reduceSub]
 have p6:=List.prefix_append H5 [.row 0 [v5] 1 true]
 have q5:aH (H5++[.row 0 [v5] 1 true]) H5.length 0=some ([v5],1,true):=iD
 generalize eh6:H5++[.row 0 [v5] 1 true]=H6 at *
 have W6:=v2'.cL (dO.pre (((p3.trans p4).trans p5).trans p6))
 have G6:=v5'.cL (dO.pre p6)
 have cW6:=cP ((p4.trans p5).trans p6) q2
 have cG6:=q5
 have aW:=v2'.ag3
 have aG:=v5'.ag3
 have le2:=p2.length_le
 have le3:=p3.length_le
 have le4:=p4.length_le
 have le5:=p5.length_le
 have le6:=p6.length_le
 have bW:=eW q2
 have bG:=eW q5
 have kb:Nh true (Value.bool ok) (Value.bool ok)=some (.bool false):=adD ok
 simp only[JD aG cG6,JD aW cW6,aaO O0 G6.fz W6.fz,kb,kC,VX,Nat.reduceEqDiff,Nat.reduceAdd,Nat.reduceLeDiff,Nat.reduceLT,Nat.reduceSub]
 refine acX Ny fun H7 p7 r7 => ?_
 simp only[kC,VX,Nat.reduceEqDiff,Nat.reduceAdd,Nat.reduceLeDiff,Nat.reduceLT,Nat.reduceSub]
 refine CX s0 (by omega) hbr (r4.pre ((p5.trans p6).trans p7)) r7 ?_
 simp only[kC,VX,Nat.reduceEqDiff,Nat.reduceAdd,Nat.reduceLeDiff,Nat.reduceLT,Nat.reduceSub]
 have W7:=W6.cL (dO.pre p7)
 have G7:=G6.cL (dO.pre p7)
 have cW7:=cP p7 cW6
 have cG7:=cP p7 cG6
 refine ZR r4 (dO.pre ((p5.trans p6).trans p7)) (Nat.zero_le _) (by omega) (by omega) (by omega) fun H8 l8 k8' => ?_
 have W8:=W7.cL (H':=H8) fun b g x h1 h2 h3=>k8' b g x (by omega) h3
 have G8:=G7.cL (H':=H8) fun b g x h1 h2 h3=>k8' b g x (by omega) h3
 have cW8:=k8' _ _ _ (by omega) cW7
 have cG8:=k8' _ _ _ (by omega) cG7
 have k8:¬(101+(cM s0:Int))<0:=by omega
 simp only[k8,JD aG cG8,JD aW cW8,aaO O0 G8.fz W8.fz,kb,kC,VX,Nat.reduceEqDiff,Nat.reduceAdd,Nat.reduceLeDiff,Nat.reduceLT,Nat.reduceSub]
 refine agM G8 (Nat.zero_le _) (by omega) (by have:=O0.g;omega) (by omega) fun M1 ml mG mk => ?_
 have k0:¬(101+(cM val:Int))<0:=by omega
 have mW:=W8.cL (H':=M1) fun b g x h1 h2 h3=>mk b g x (by omega) h3
 have mcW:=mk _ _ _ (by omega) cW8
 have mcG:=mk _ _ _ (by omega) cG8
 simp only[JD aG mcG,U1 O0 mG.fz,k0,ne_eq,not_true_eq_false,decide_false,kC,VX,Nat.reduceEqDiff,Nat.reduceAdd,Nat.reduceLeDiff,Nat.reduceLT,Nat.reduceSub]
 generalize M1=H9 at *
 refine Zr Ny fun r10 H10 p10 auT => ?_
 simp only[kC,VX,Nat.reduceEqDiff,Nat.reduceAdd,Nat.reduceLeDiff,Nat.reduceLT,Nat.reduceSub]
 refine MK ci rfl (X8 (auT _ (List.prefix_refl _))) CG.cL fun v11 H11 p11 alI => ?_
 simp only[kC,VX,Nat.reduceEqDiff,Nat.reduceAdd,Nat.reduceLeDiff,Nat.reduceLT,Nat.reduceSub]
 have w11:=Ut (lo:=0) (H:=H11) alI.ag3 (Nat.zero_le _)
 simp only[w11,kC,VX,Nat.reduceEqDiff,Nat.reduceAdd,Nat.reduceLeDiff,Nat.reduceLT,Nat.reduceSub]
 have p12:=List.prefix_append H11 [.row 0 [v11] 1 true]
 have q11:aH (H11++[.row 0 [v11] 1 true]) H11.length 0=some ([v11],1,true):=iD
 generalize aBN:H11++[.row 0 [v11] 1 true]=H12 at *
 have aX:=alI.ag3
 have X1:=alI.cL (dO.pre p12)
 have cX:=q11
 have nW:=mW.cL (dO.pre ((p10.trans p11).trans p12))
 have nG:=mG.cL (dO.pre ((p10.trans p11).trans p12))
 have ncW:=cP ((p10.trans p11).trans p12) mcW
 have ncG:=cP ((p10.trans p11).trans p12) mcG
 simp only[JD aX cX,JD aW ncW,JD aG ncG,aaO O0 X1.fz nW.fz,kb,U1 O0 nG.fz,k0,ne_eq,not_true_eq_false,decide_false,kC,VX,Nat.reduceEqDiff,Nat.reduceAdd,Nat.reduceLeDiff,Nat.reduceLT,Nat.reduceSub]
 exact aK rfl
end Go.PM
namespace Go.PM
open Go.Proofs
theorem ES {P:Program} {w:World} {name:String} {d:DataW Unit}:∀ {l:List (String×DataW Unit)} {ps:List MemPlace},DataW.LaidVars P w l ps→(name,d)∈l →
  ∃g t cs fuel p,P.globalNamed name=some g∧(P.globals[g]?).map (·.type)=some t∧w.var? P name=some cs∧DataW.trod (fun _=>()) P w 0 (fun _=>true) false fuel t cs.toList=some (d,p)
 | [],_,_,hm=>by cases hm
 |
  (n,e)::r,ps,h,hm=>by
  obtain⟨g,t,cs,fuel,p,q,h1,h2,h3,h4,h5,_⟩:=h
  rcases List.mem_cons.1 hm with he | hm
  ·cases he
   exact⟨g,t,cs,fuel,p,h1,h2,h3,h4⟩
  ·exact ES h5 hm
theorem LH {W:World} {l:List (String×DataW Unit)} (hl:laidMetH Tryz.prog l W) (hp:(l.all fun x=>x.2.handleName?.isNone)=true) (hm:("internal/strconv.uint64pow10",Lib.tabData .u64 Lib.pow10Tab)∈l)
  {t e:TypeId} {n:Nat} (hty:(Tryz.prog.globals[3]?).map (·.type)=some t) (ht:Tryz.prog.underlying t=some (.array n e)) (he:Tryz.prog.underlying e=some (.int .u64)) (hce:Tryz.prog.cellsOf e=1) (hct:Tryz.prog.cellsOf t=n):Qc W:=by
 rw[MakeChecks.laidMetH_plain _ _ _ hp] at hl
 obtain⟨ps,h1,_⟩:=hl
 obtain⟨g',t',cs,fuel,p,hg',ht',abX,hd⟩:=ES h1 hm
 have hg:Tryz.prog.globalNamed "internal/strconv.uint64pow10"=some 3:=by kernel_rfl
 obtain rfl:=Option.some.inj (hg.symm.trans hg')
 obtain rfl:=Option.some.inj (hty.symm.trans ht')
 have OJ:=Lib.cells_of_tab ht he hce hct hd
 intro x hx
 have Gg:x=(3,(Lib.pow10Tab.map fun z=>Value.int .u64 z).toArray):=by simpa[afK] using hx
 subst Gg
 unfold World.var? at abX
 rw[hg,Option.bind_some] at abX
 split at abX
 ·rename_i AZ e' fz' hh
  cases abX
  refine⟨e',fz',?_⟩
  rw[←OJ]
  simpa using hh
 ·cases abX
end Go.PM