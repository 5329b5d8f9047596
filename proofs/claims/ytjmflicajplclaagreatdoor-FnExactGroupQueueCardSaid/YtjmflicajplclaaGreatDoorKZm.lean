/- Texts of a claim, in one: part 13. -/
import Derived.KernelRfl
import Derived.Lib.LaidTab
import Derived.LaidLaws
import Derived.LaidMore
import Derived.MakeChecks
import Derived.Handed
import Derived.Test.YtjmflicajplclaaGreatDoorKZl
set_option linter.unusedSimpArgs false
set_option linter.unusedVariables false
namespace Go.PM
def vG:aD:=(LS [LO 15 (.bin .lss (LT 14) (LT 13))] (.seq (.cond (LT 15) .skip (.exit 0)) (.seq (.block 1 (LS [LM 16 14,LM 5 16] (LS [LM 18 0,LO 19 (.chk (LT 18)),LO 20 (LA 0 19),LO 21 (LL 20),LM 22 5,LO 23 (.iaddr 1 (LT 21) (LT 22)),LO 24 (LL 23),LO 25 (.call 181 [(LT 24)]),LM 17 25,LO 26 (LX 17 0),LO 27 (LX 17 1),LM 6 26,LM 7 27] (.seq (LS [LM 28 7,LO 29 (.un .not (LT 28))] (.cond (LT 29) (LS [LO 30 (.build [(.slice none 0 0)] [(0,1)] []),LN (.store 1 (LT 2) (LT 30)),LO 3 (.mv LF)] .ret) .skip)) (.dG [LO 31 (LA 0 4),LO 32 (LL 31),LM 33 6,LO 34 (.lit [(.slice none 0 0)] 1 [(0,(LT 33))]),LO 35 (.app 1 24 (LT 32) (LT 34)),LO 36 (LA 0 4),LN (.store 1 (LT 36) (LT 35))]))))) (.dG [LO 37 (.bin .add (LT 14) (LI 1)),LM 14 37]))))
def Di:aD:=(LS [LO 2 (.new [(.slice none 0 0)]),LO 3 (.mv LF)] (LS [LO 8 (.build [(.slice none 0 0)] [(0,1)] []),LO 4 (.new [(.slice none 0 0)]),LN (.store 1 (LT 4) (LT 8))] (.seq (LS [LM 9 0,LO 10 (.chk (LT 9)),LO 11 (LA 0 10),LO 12 (LL 11),LO 13 (.len (LT 12)),LO 14 (.mv (LI 0))] (.block 0 (.loop vG))) (LS [LO 38 (.load true 1 (LT 4)),LN (.store 1 (LT 2) (LT 38)),LO 3 (.mv LG)] .ret))))
def Gr:aR:=⟨39,[(.cell 2 true 1),(.tmp 3)],Di⟩
theorem Ld:fV 138=some Gr:=by kernel_rfl
end Go.PM
namespace Go.PM
open Go.Lib
theorem TA (x:List Rat):(aB (bI bA x)).length=1:=rfl
theorem XN (m:List (List Rat)):aP (bI (bI bA) m)=true:=nH TA Me
end Go.PM
namespace Go.PM
def tO:aD:=(.seq (LS [LM 14 6,LM 15 0,LO 16 (.bin .lss (LT 14) (LT 15))] (.cond (LT 16) .skip (.exit 2))) (.seq (.block 3 (.dG [LM 19 5,LO 20 (.call 77 []),LO 21 (.lit [(.bool false),(.slice none 0 0),(.slice none 0 0)] 1 [(0,(LT 20))]),LO 22 (.app 3 56 (LT 19) (LT 21)),LM 5 22])) (.dG [LM 17 6,LO 18 (.bin .add (LT 17) (LI 1)),LM 6 18])))
def tH:aD:=(.seq (LS [LM 8 4,LM 9 0,LO 10 (.bin .lss (LT 8) (LT 9))] (.cond (LT 10) .skip (.exit 0))) (.seq (.block 1 (LS [LO 13 (.lit [(.bool false),(.slice none 0 0),(.slice none 0 0)] 0 []),LM 5 13] (.seq (LS [LO 6 (.mv (LI 0))] (.block 2 (.loop tO))) (.dG [LM 23 3,LM 24 5,LO 25 (.lit [(.slice none 0 0)] 1 [(0,(LT 24))]),LO 26 (.app 1 24 (LT 23) (LT 25)),LM 3 26])))) (.dG [LM 11 4,LO 12 (.bin .add (LT 11) (LI 1)),LM 4 12])))
def Cd:aD:=(LS [LO 2 (.mv (.const (.slice none 0 0)))] (LS [LO 7 (.lit [(.slice none 0 0)] 0 []),LM 3 7] (.seq (LS [LO 4 (.mv (LI 0))] (.block 0 (.loop tH))) (LS [LM 27 3,LM 2 27] .ret))))
def Ez:aR:=⟨28,[(.tmp 2)],Cd⟩
theorem JI:fV 76=some Ez:=by kernel_rfl
def B3:aD:=(LS [LO 2 (.new [(.slice none 0 0)]),LO 3 (.mv LF)] (LS [LM 7 0,LO 8 (.build [(.slice none 0 0)] [(0,1)] [(0,(LT 7))]),LO 4 (.new [(.slice none 0 0)]),LN (.store 1 (LT 4) (LT 8))] (LS [LO 10 (.call 138 [(LT 4)]),LM 9 10,LO 11 (LX 9 0),LO 12 (LX 9 1),LO 5 (.new [(.slice none 0 0)]),LN (.store 1 (LT 5) (LT 11)),LM 6 12] (.seq (LS [LM 13 6,LO 14 (.un .not (LT 13))] (.cond (LT 14) (LS [LO 15 (.build [(.slice none 0 0)] [(0,1)] []),LN (.store 1 (LT 2) (LT 15)),LO 3 (.mv LF)] .ret) .skip)) (LS [LO 16 (.load true 1 (LT 5)),LN (.store 1 (LT 2) (LT 16)),LO 3 (.mv LG)] .ret)))))
def Et:aR:=⟨17,[(.cell 2 true 1),(.tmp 3)],B3⟩
theorem JF:fV 61=some Et:=by kernel_rfl
def oC:aD:=(LS [LO 2 (.new [(.bool false),(.slice none 0 0),(.slice none 0 0)]),LO 3 (.mv LF)] (LS [LM 7 0,LO 8 (.call 110 [(LT 7)]),LM 6 8,LO 9 (LX 6 0),LO 10 (LX 6 1),LO 4 (.new [(.bool false),(.slice none 0 0),(.slice none 0 0)]),LN (.store 3 (LT 4) (LT 9)),LM 5 10] (LS [LO 11 (LK 4),LM 12 5,LM 13 12,LY 13 14 (LK 4),⟨(some 15),(.call 59 [(LT 14)]),(some (13,true)),true,[]⟩,LY 13 16 (.un .not (LT 15)),LO 17 (.pick (LT 13) (LT 16) LF),LM 18 17,LY 18 19 (LK 4),⟨(some 20),(.call 111 [(LT 19)]),(some (18,true)),true,[]⟩,LY 18 21 (.un .not (LT 20)),LO 22 (.pick (LT 18) (LT 21) LF),LN (.store 3 (LT 2) (LT 11)),LM 3 22] .ret)))
def rV:aR:=⟨23,[(.cell 2 true 3),(.tmp 3)],oC⟩
theorem Mo:fV 87=some rV:=by kernel_rfl
end Go.PM
namespace Go.PM
def vI:aD:=(.seq (LS [LM 11 4,LM 12 0,LO 13 (.len (LT 12)),LO 14 (.bin .lss (LT 11) (LT 13))] (.cond (LT 14) .skip (.exit 0))) (.seq (.block 1 (LS [LM 17 0,LM 18 4,LO 19 (.iaddr 1 (LT 17) (LT 18)),LO 20 (LL 19),LO 21 (.call 60 [(LT 20)]),LO 5 (.new [(.bool false),(.slice none 0 0),(.slice none 0 0)]),LN (.store 3 (LT 5) (LT 21))] (LS [LO 22 (LK 3),LO 23 (LK 5),LO 24 (.call 80 [(LT 22),(LT 23)])] (.cond (LT 24) (.dG [LO 25 (LK 5),LN (.store 3 (LT 3) (LT 25))]) .skip)))) (.dG [LM 15 4,LO 16 (.bin .add (LT 15) (LI 1)),LM 4 16])))
def vH:aD:=(.seq (LS [LM 34 9,LM 35 0,LO 36 (.len (LT 35)),LO 37 (.bin .lss (LT 34) (LT 36))] (.cond (LT 37) .skip (.exit 4))) (.seq (.block 5 (.dG [LM 40 8,LM 41 0,LM 42 7,LO 43 (.iaddr 1 (LT 41) (LT 42)),LO 44 (LL 43),LM 45 9,LO 46 (.iaddr 3 (LT 44) (LT 45)),LO 47 (LK 46),LO 48 (LK 3),LQ 49 (.call 81 [(LT 47),(LT 48)]),LQ 50 (.lit [(.bool false),(.slice none 0 0),(.slice none 0 0)] 1 [(0,(LT 49))]),LO 51 (.app 3 56 (LT 40) (LT 50)),LM 8 51])) (.dG [LM 38 9,LO 39 (.bin .add (LT 38) (LI 1)),LM 9 39])))
def vK:aD:=(.seq (LS [LM 27 7,LM 28 0,LO 29 (.len (LT 28)),LO 30 (.bin .lss (LT 27) (LT 29))] (.cond (LT 30) .skip (.exit 2))) (.seq (.block 3 (LS [LO 33 (.lit [(.bool false),(.slice none 0 0),(.slice none 0 0)] 0 []),LM 8 33] (.seq (LS [LO 9 (.mv (LI 0))] (.block 4 (.loop vH))) (LS [LM 52 8,LM 53 7,LO 54 (.call 83 []),LM 55 8,LO 56 (.call 60 [(LT 55)]),LO 57 (.call 82 [(LT 54),(LT 56)]),LO 58 (.iaddr 3 (LT 52) (LT 53)),LN (.store 3 (LT 58) (LT 57))] (.dG [LM 59 6,LM 60 8,LO 61 (.lit [(.slice none 0 0)] 1 [(0,(LT 60))]),LO 62 (.app 1 24 (LT 59) (LT 61)),LM 6 62]))))) (.dG [LM 31 7,LO 32 (.bin .add (LT 31) (LI 1)),LM 7 32])))
def Db:aD:=(LS [LO 2 (.mv (.const (.slice none 0 0)))] (LS [LO 10 (.call 77 []),LO 3 (.new [(.bool false),(.slice none 0 0),(.slice none 0 0)]),LN (.store 3 (LT 3) (LT 10))] (.seq (LS [LO 4 (.mv (LI 0))] (.block 0 (.loop vI))) (LS [LO 26 (.lit [(.slice none 0 0)] 0 []),LM 6 26] (.seq (LS [LO 7 (.mv (LI 0))] (.block 2 (.loop vK))) (LS [LM 63 6,LM 2 63] .ret))))))
def GG:aR:=⟨64,[(.tmp 2)],Db⟩
theorem La:fV 62=some GG:=by kernel_rfl
def mX:aD:=(.seq (LS [LM 46 15,LM 47 3,LO 48 (.bin .leq (LT 46) (LT 47))] (.cond (LT 48) .skip (.exit 0))) (.seq (.block 1 (.seq (LS [LM 51 15,LM 52 3,LO 53 (.bin .lss (LT 51) (LT 52))] (.cond (LT 53) (.dG [LM 54 14,LM 55 15,LM 56 15,LO 57 (.bin .add (LT 56) (LI 1)),LO 58 (LK 10),LO 59 (.call 90 [(LT 54),(LT 55),(LT 57),(LT 58)])]) .skip)) (.dG [LM 60 14,LM 61 15,LM 62 15,LM 63 15,LM 64 2,LQ 65 (.call 91 [(LT 63),(LT 64)]),LO 66 (.bin .sub (LT 62) (LT 65)),LO 67 (LK 12),LO 68 (.call 90 [(LT 60),(LT 61),(LT 66),(LT 67)])]))) (.dG [LM 49 15,LO 50 (.bin .add (LT 49) (LI 1)),LM 15 50])))
def iQ:aD:=(LS [LO 8 (.new [(.slice none 0 0)]),LO 9 (.mv LF)] (LS [LM 17 0,LO 18 (.call 87 [(LT 17)]),LM 16 18,LO 19 (LX 16 0),LO 20 (LX 16 1),LO 10 (.new [(.bool false),(.slice none 0 0),(.slice none 0 0)]),LN (.store 3 (LT 10) (LT 19)),LM 11 20] (LS [LM 22 1,LO 23 (.call 87 [(LT 22)]),LM 21 23,LO 24 (LX 21 0),LO 25 (LX 21 1),LO 12 (.new [(.bool false),(.slice none 0 0),(.slice none 0 0)]),LN (.store 3 (LT 12) (LT 24)),LM 13 25] (.seq (LS [LM 26 11,LO 27 (.un .not (LT 26)),LM 28 27,LZ 28 29 (.mv (LT 13)),LZ 28 30 (.un .not (LT 29)),LO 31 (.pick (LT 28) LG (LT 30)),LM 32 31,LZ 32 33 (.mv (LT 2)),LZ 32 34 (.call 88 [(LT 33),(LI 1),(LI 12)]),LZ 32 35 (.un .not (LT 34)),LO 36 (.pick (LT 32) LG (LT 35)),LM 37 36,LZ 37 38 (.mv (LT 3)),LZ 37 39 (.call 89 [(LT 38)]),LZ 37 40 (.un .not (LT 39)),LO 41 (.pick (LT 37) LG (LT 40))] (.cond (LT 41) (LS [LO 42 (.build [(.slice none 0 0)] [(0,1)] []),LN (.store 1 (LT 8) (LT 42)),LO 9 (.mv LF)] .ret) .skip)) (LS [LM 43 3,LO 44 (.bin .add (LT 43) (LI 1)),LO 45 (.call 76 [(LT 44)]),LM 14 45] (.seq (LS [LO 15 (.mv (LI 0))] (.block 0 (.loop mX))) (LS [LM 69 14,LO 70 (.call 62 [(LT 69)]),LO 71 (.call 61 [(LT 70)]),LO 72 (LX 71 0),LO 73 (LX 71 1),LN (.store 1 (LT 8) (LT 72)),LM 9 73] .ret)))))))
def kJ:aR:=⟨74,[(.cell 8 true 1),(.tmp 9)],iQ⟩
theorem GC:fV 30=some kJ:=by kernel_rfl
def B6:aD:=(LS [LO 2 (.mv LF)] (LS [LM 3 0,LO 4 (.call 88 [(LT 3),(LI 1),(LI 11)]),LM 2 4] .ret))
def Ev:aR:=⟨5,[(.tmp 2)],B6⟩
theorem Jm:fV 89=some Ev:=by kernel_rfl
def Ac:aD:=(LS [LO 7 (.box (LT 3))] (LS [LM 8 1,LM 9 2,LO 10 (.bin .neq (LT 8) (LT 9))] (.cond (LT 10) (.dG [LM 11 0,LM 12 1,LO 13 (.iaddr 1 (LT 11) (LT 12)),LO 14 (LL 13),LM 15 2,LM 16 0,LM 17 1,LO 18 (.iaddr 1 (LT 16) (LT 17)),LO 19 (LL 18),LM 20 2,LO 21 (.iaddr 3 (LT 19) (LT 20)),LO 22 (LK 21),LO 23 (LK 7),LQ 24 (.call 79 [(LT 22),(LT 23)]),LO 25 (.iaddr 3 (LT 14) (LT 15)),LN (.store 3 (LT 25) (LT 24))]) .skip)))
def CF:aR:=⟨26,[],Ac⟩
theorem ME:fV 90=some CF:=by kernel_rfl
end Go.PM
namespace Go.PM
open Go.Lib
theorem ajY {b g j o e:Nat} {H:aA} {es:List VV} {w:Bool} {x x':VV} (h:aH H b g=some (es,e,w)) (hx:es[j]? = some x) (hf:PM.fz 7 H x=some x'):PM.fz depth H (.ptr b g j o)=some (x'.cU o):=by
 show PM.fz (7+1) H _=_
 unfold PM.fz
 have:aP (.ptr b g j o)=false:=rfl
 simp[this,h,hx,hf]
end Go.PM
namespace Go.PM
open Go.Lib
set_option maxHeartbeats 1000000 in
theorem G2 (qs:List Rat) (hn:qs.length≤1000000) (hb:∀q∈qs,aZ q≤1099511627776):FC 181 [bI bA qs] (W0 (Yv sV 1 (BR qs)) (BR qs).isSome):=by
 refine FC.L9 ⟨true,false⟩ GN (Nat.le_of_ble_eq_true rfl) fun n => ?_
 have e0:∀K,jQ false [.string ⟨#[]⟩] 0 [] K=some (.ref K.length 0 0 0 0,K++[.row 0 [] 1 true]):=fun K=>iC rfl
 simp only[BP,yR,e0,List.length_replicate,fW,VX,Nat.reduceEqDiff,Nat.reduceAdd,Nat.reduceLeDiff,Nat.reduceLT,Nat.reduceSub]
 refine aT (fun(i:Nat) ρ H=>i≤qs.length∧(∀q∈qs.take i,vP q=true)∧H=List.replicate n cG.dead++[cG.row i (((qs.take i).map Jz).map sV) 1 true]∧ρ 4 = .ref n i 0 i i∧ρ 0=bI bA qs∧ρ 10=VI qs.length∧ρ 11=VI i) (fun i=>qs.length-i) 0 ⟨Nat.zero_le _,by simp,rfl,rfl,rfl,rfl,rfl⟩ ?_
 rintro i ρ H ⟨hi,sZ,rfl,g4,g0,g10,g11⟩
 have kD:aH (List.replicate n cG.dead++[cG.row i (((qs.take i).map Jz).map sV) 1 true]) n i=some (((qs.take i).map Jz).map sV,1,true):=by rw[zI,aS]
 by_cases dA:(i:Int)<(qs.length:Int)
 ·obtain⟨q,hq⟩:∃q,qs[i]? = some q:=⟨_,List.getElem?_eq_getElem (by omega)⟩
  have hqm:=List.mem_of_getElem? hq
  have a1:=fun H=>aL (f:=bA) (t := .op) (H:=H) (size:=3) (k := .i64) hq rfl
  have wi:IntKind.i64.wrap ((i:Int)+1)=((i+1:Nat):Int):=wrapN (i+1) (by omega) (by omega)
  have e2:=Lv q (hb q hqm)
  unfold Rn at e2
  cases hf:vP q with
  |
   false =>
   rw[if_neg (by simp[hf])] at e2
   rw[Q4 hqm hf]
   simp only[mU,g4,g0,g10,g11,dA,a1,e2,fF,fW,VX,Nat.reduceEqDiff,Nat.reduceAdd,Nat.reduceLeDiff,Nat.reduceLT,Nat.reduceSub]
   exact⟨_,AJ (by simp),rfl,AZ,.tree [] .nil,rfl,rfl⟩
  |
   true =>
   rw[if_pos hf] at e2
   have eL:∀H,jQ false [.string ⟨#[]⟩] 1 [(0,bB (Eg q))] H=some (.tree [sV (Jz q)] (.cl 1),H):=fun H=>gD rfl rfl rfl
   have eS:∀H,cT 1 (.tree [sV (Jz q)] (.cl 1)) H=some [sV (Jz q)]:=fun H=>dQ rfl rfl
   have eP:eJ n 1 16 (.ref n i 0 i i) [sV (Jz q)] (List.replicate n cG.dead++[cG.row i (((qs.take i).map Jz).map sV) 1 true])=some (.ref n (i+1) 0 (i+1) (i+1),List.replicate n cG.dead++[cG.row (i+1) (((qs.take (i+1)).map Jz).map sV) 1 true]):=by
    rw[iG (f:=sV) (xs:=(qs.take i).map Jz) kD (by simp;omega) (Nat.le_refl _) (by decide) (by decide) (by omega),gV hq]
    simp only[List.map_append,Bl]
    rfl
   simp only[mU,g4,g0,g10,g11,dA,a1,e2,eL,eS,eP,wi,fF,fW,VX,Nat.reduceEqDiff,Nat.reduceAdd,Nat.reduceLeDiff,Nat.reduceLT,Nat.reduceSub]
   refine⟨i+1,by omega,by omega,fun p hp => ?_,by (repeat' apply And.intro)<;>first | rfl | trivial | assumption⟩
   rw[gV hq] at hp
   rcases List.mem_append.1 hp with h | h
   ·exact sZ p h
   ·rw[List.mem_singleton] at h;subst h;exact hf
 ·have oB:i=qs.length:=by omega
  subst oB
  rw[List.take_length] at sZ kD
  rw[Om sZ]
  simp only[mU,g4,g10,g11,dA,List.take_length,fW,VX,Nat.reduceEqDiff,Nat.reduceAdd,Nat.reduceLeDiff,Nat.reduceLT,Nat.reduceSub]
  refine⟨_,⟨rfl,fun _ _ _ _ _ h=>h⟩,by simp[fB,oA,kC],by simp only[eK,List.all_cons,List.all_nil,Bool.and_true];exact Ra (fun _=>rfl) _,.ref n qs.length 0 qs.length qs.length,rfl,⟨n,qs.length,qs.length,Nat.le_refl _,by simp,by simp,by simp,kD⟩⟩
set_option maxHeartbeats 2000000 in
theorem Mw (m:List (List Rat)) (hn:m.length≤1000000) (hb:∀r∈m,r.length≤1000000∧∀q∈r,aZ q≤1099511627776):FC 138 [(M9 (bI (bI bA) m)).cU 0] (W0 (CG ((uU m).getD [])) (uU m).isSome):=by
 refine FC.L9 ⟨true,false⟩ Ld (Nat.le_of_ble_eq_true rfl) fun n => ?_
 have s0:bQ n 1 (.ptr (n+1) 0 0 0) (.agg [.tree [] .nil]) (List.replicate n cG.dead++[cG.row 0 [.tree [] .nil] 1 true,.row 0 [.tree [] .nil] 1 true])=some (List.replicate n cG.dead++[cG.row 0 [.tree [] .nil] 1 true,.row 0 [.agg [.tree [] .nil]] 1 true]):=by
  rw[bU (e:=1) (g:=0) (j:=0) (by rw[wF,iM,aS]) (by exact Nat.zero_lt_one) (by omega) rfl rfl,P5]
  rfl
 simp only[Gr,Di,s0,Wt,xF,List.length_replicate,List.length_cons,List.length_nil,List.append_assoc,List.cons_append,List.nil_append,dJ,fW,VX,Nat.reduceEqDiff,Nat.reduceAdd,Nat.reduceLeDiff,Nat.reduceLT,Nat.reduceSub]
 refine aT (fun(i:Nat) ρ H=>i≤m.length∧BG n H∧(∃x v bE,aH H n 0=some ([.tree [] .nil],1,true)∧aH H (n+1) 0=some ([x],1,true)∧aB x=[v]∧uU (m.take i)=some bE∧OB sV 1 bE (n+2) H.length H v)∧ρ 2 = .ptr n 0 0 0∧ρ 4 = .ptr (n+1) 0 0 0∧ρ 0=(M9 (bI (bI bA) m)).cU 0∧ρ 13=VI m.length∧ρ 14=VI i) (fun i=>m.length-i) 0
  ⟨Nat.zero_le _,⟨[.row 0 [.tree [] .nil] 1 true,.row 0 [.agg [.tree [] .nil]] 1 true],rfl,rfl⟩,⟨.agg [.tree [] .nil],.tree [] .nil,[],by rw[zI,aS],by rw[wF,iM,aS],rfl,rfl,.inl ⟨rfl,rfl⟩⟩,rfl,rfl,rfl,rfl,rfl⟩ ?_
 rintro i ρ H ⟨hi,hO,⟨x,v,bE,uK,FB,hx,Gh,hv⟩,g2,g4,g0,g13,g14⟩
 have Bk:=fR FB
 by_cases dA:(i:Int)<(m.length:Int)
 ·obtain⟨r,hr⟩:∃r,m[i]? = some r:=⟨_,List.getElem?_eq_getElem (by omega)⟩
  have Ct:=hb r (List.mem_of_getElem? hr)
  have a1:=fun H=>aL (f:=bI bA) (t := .op) (H:=H) (size:=1) (k := .i64) hr rfl
  have wi:IntKind.i64.wrap ((i:Int)+1)=((i+1:Nat):Int):=wrapN (i+1) (by omega) (by omega)
  simp only[vG,g2,g4,g0,g13,g14,dA,a1,Wt,fW,VX,Nat.reduceEqDiff,Nat.reduceAdd,Nat.reduceLeDiff,Nat.reduceLT,Nat.reduceSub]
  refine Od (n:=n) (G2 r Ct.1 Ct.2) rfl (Zn (aI (Me _))) hO Yv.cK fun u H2 p2 hO2 _ hu => ?_
  cases ht:BR r with
  |
   none =>
   rw[ht] at hu
   have hu:u = .tree [] .nil:=hu
   subst hu
   have ajK:uU m=none:=mapM_none ht (List.mem_of_getElem? hr)
   rw[ajK]
   have s1:bQ n 1 (.ptr n 0 0 0) (.agg [.tree [] .nil]) H2=some (H2.set n (.row 0 [.agg [.tree [] .nil]] 1 true)):=by
    rw[bU (cS p2 uK) (by exact Nat.zero_lt_one) (Nat.le_refl _) rfl rfl]
    rfl
   have s2:cE true 1 (.ptr n 0 0 0) (H2.set n (.row 0 [.agg [.tree [] .nil]] 1 true))=some (.agg [.tree [] .nil]):=by
    rw[bO,cA (cS p2 uK)]
    rfl
   simp only[g2,g4,s1,s2,Option.isSome_none,fW,VX,Nat.reduceEqDiff,Nat.reduceAdd,Nat.reduceLeDiff,Nat.reduceLT,Nat.reduceSub]
   exact⟨_,AJ (by rw[List.length_set];have:=p2.length_le;omega),rfl,AZ,.agg [.tree [] .nil],rfl,_,rfl,.inl ⟨rfl,rfl⟩⟩
  |
   some ys =>
   rw[ht] at hu
   obtain⟨b,g,c,k1,k2,rfl,k3,k4⟩:=hu
   have eL:∀K,jQ false [.slice none 0 0] 1 [(0,.ref b g 0 ys.length c)] K=some (.tree [.ref b g 0 ys.length c] (.cl 1),K):=fun K=>gD rfl rfl rfl
   have eS:∀K,cT 1 (.tree [.ref b g 0 ys.length c] (.cl 1)) K=some [.ref b g 0 ys.length c]:=fun K=>dQ rfl rfl
   obtain⟨v',H3,ap,Yz,cK,hlen,M5,yM,_⟩:=(hv.cK (dI.pre p2)).snoc (gP:=n) (by omega) (by rw[sT Gh,List.length_take];omega) ⟨b,g,c,ys⟩ k1 (by simp only;omega) k3 k4
   have T7:=cK _ _ _ (by omega) (cS p2 FB)
   have l1:cE false 1 (.ptr (n+1) 0 0 0) H2=some v:=by
    rw[bO,cS p2 FB]
    simp[dC,hx]
   have l2:aH H2 (n+1) 0=some ([x],1,true):=cS p2 FB
   have uX:=Yz.fT
   have s1:bQ n 1 (.ptr (n+1) 0 0 0) v' H3=some (H3.set (n+1) (.row 0 [v'] 1 true)):=by
    rw[bU T7 (by exact Nat.zero_lt_one) (by omega) (by rw[uX.2.1];rfl) (by rw[uX.2.1];simp[uX.1])]
    rfl
   have hO3:=(M5 n (by omega) hO2).set (b:=n+1) (g:=0) (e:=1) (es:=[v']) (w:=true) (by omega) (by
    rcases Yz with⟨rfl,_⟩ | ⟨b',g',Wj,q1,q2,rfl,_⟩
    ·rfl
    ·simp[oA,fB];omega)
   simp only[g4,g14,wi,eL,eS,l1,ap,s1,T7,l2,zO,Nat.add_zero,Option.isSome_some,fW,VX,Nat.reduceEqDiff,Nat.reduceAdd,Nat.reduceLeDiff,Nat.reduceLT,Nat.reduceSub]
   refine⟨i+1,by omega,by omega,hO3,⟨v',v',bE++[ys],cF (by omega) (cK _ _ _ (by omega) (cS p2 uK)),cA T7,uX.2.1,?_,?_⟩,by (repeat' apply And.intro)<;>first | rfl | trivial | assumption⟩
   ·rw[gV hr]
    exact HI Gh ht
   ·rw[List.length_set]
    exact Yz.cK (dI.set (by omega))
 ·have oB:i=m.length:=by omega
  subst oB
  rw[List.take_length] at Gh
  rw[Gh]
  have uX:=hv.fT
  have l1:cE true 1 (.ptr (n+1) 0 0 0) H=some (.agg [v]):=by
   rw[bO,FB]
   simp[dC,hx]
  have s1:bQ n 1 (.ptr n 0 0 0) (.agg [v]) H=some (H.set n (.row 0 [.agg [v]] 1 true)):=by
   rw[bU uK (by exact Nat.zero_lt_one) (Nat.le_refl _) rfl (by simp[aB,uX.1])]
   rfl
  have s2:cE true 1 (.ptr n 0 0 0) (H.set n (.row 0 [.agg [v]] 1 true))=some (.agg [v]):=by
   rw[bO,cA uK]
   rfl
  simp only[vG,g2,g4,g13,g14,dA,l1,s1,s2,Option.isSome_some,fW,VX,Nat.reduceEqDiff,Nat.reduceAdd,Nat.reduceLeDiff,Nat.reduceLT,Nat.reduceSub]
  have M5:fB n v=true:=by
   rcases hv with⟨rfl,_⟩ | ⟨b',g',Wj,q1,q2,rfl,_⟩
   ·rfl
   ·simp[fB];omega
  obtain⟨L,rfl,hL⟩:=hO
  refine⟨L.set 0 (.row 0 [.agg [v]] 1 true),⟨by simp,fun _ _ _ _ _ h=>by rw[Bl];exact h⟩,by simp[fB,oA,M5,kC],?_,.agg [v],rfl,v,rfl,?_⟩
  ·have:=(BG.set (n:=n) (b:=n) (g:=0) (e:=1) (es:=[.agg [v]]) (w:=true) ⟨L,rfl,hL⟩ (Nat.le_refl _) (by simp[oA,fB,M5]))
   rw[Bl] at this
   obtain⟨L',h1,h2⟩:=this
   rw[List.append_cancel_left h1]
   exact h2
  ·rw[←Bl,List.length_set]
   have:=hv.rg.cK (H':=(List.replicate n cG.dead++L).set n (.row 0 [.agg [v]] 1 true)) (dI.set (by omega))
   rw[xF] at this
   exact this.wide (by omega) (Nat.le_refl _)
set_option maxHeartbeats 1000000 in
theorem JK (m:List (List Rat)) (hn:m.length≤1000000) (hb:∀r∈m,r.length≤1000000∧∀q∈r,aZ q≤1099511627776):FC 61 [bI (bI bA) m] (W0 (CG ((uU m).getD [])) (uU m).isSome):=by
 refine FC.L9 ⟨true,false⟩ JF (Nat.le_of_ble_eq_true rfl) fun n => ?_
 have s0:bQ n 1 (.ptr (n+1) 0 0 0) (.agg [bI (bI bA) m]) (List.replicate n cG.dead++[cG.row 0 [.tree [] .nil] 1 true,.row 0 [.tree [] .nil] 1 true])=some (List.replicate n cG.dead++[cG.row 0 [.tree [] .nil] 1 true,.row 0 [M9 (bI (bI bA) m)] 1 true]):=by
  rw[bU (e:=1) (g:=0) (j:=0) (by rw[wF,iM,aS]) (by exact Nat.zero_lt_one) (by omega) rfl rfl,P5]
  rfl
 have hf:PM.fz depth (List.replicate n cG.dead++[cG.row 0 [.tree [] .nil] 1 true,.row 0 [M9 (bI (bI bA) m)] 1 true]) (.ptr (n+1) 0 0 0)=some ((M9 (bI (bI bA) m)).cU 0):=ajY (es:=[M9 (bI (bI bA) m)]) (e:=1) (w:=true) (by rw[wF,iM,aS]) rfl (aJ (ZJ (XN _)))
 simp only[Et,B3,s0,xF,List.length_replicate,List.length_cons,List.length_nil,List.append_assoc,List.cons_append,List.nil_append,dJ,fW,VX,Nat.reduceEqDiff,Nat.reduceAdd,Nat.reduceLeDiff,Nat.reduceLT,Nat.reduceSub]
 refine(Mw m hn hb).aaO rfl (Zn hf) ?_
 rintro r L ⟨v,rfl,hv⟩ hr hL
 have hv:=hv.cK dI.move
 have hlen:(List.replicate n cG.dead++[cG.row 0 [.tree [] .nil] 1 true,.row 0 [M9 (bI (bI bA) m)] 1 true]).length=n+2:=by simp
 rw[hlen] at hv
 obtain⟨c,rfl,hc1,hc2,hc3⟩:=hv.own (n:=n) (by omega)
 have hT:BB n (n+2) (List.replicate n cG.dead++[cG.row 0 [.tree [] .nil] 1 true,.row 0 [M9 (bI (bI bA) m)] 1 true]++L):=by
  refine BB.app (fun b g es e w hb hr => ?_) (by simp) hL
  rw[List.getElem?_eq_none (by rw[hlen];exact hb)] at hr
  cases hr
 generalize hH:List.replicate n cG.dead++[cG.row 0 [.tree [] .nil] 1 true,.row 0 [M9 (bI (bI bA) m)] 1 true]++L=H2 at *
 have uK:aH H2 n 0=some ([.tree [] .nil],1,true):=by rw[←hH,List.append_assoc,zI,List.cons_append,aS]
 have CJ:n+2≤H2.length:=by rw[←hH];simp
 have hll:n+2+L.length=H2.length:=by rw[←hH];simp;omega
 rw[hll] at hv
 have s1:bQ n 1 (.ptr H2.length 0 0 0) (.agg [c]) (H2++[cG.row 0 [.tree [] .nil] 1 true])=some (H2++[cG.row 0 [.agg [c]] 1 true]):=by
  rw[bU (e:=1) (g:=0) (j:=0) fN (by exact Nat.zero_lt_one) (by omega) rfl (by simp[aB,hc1]),FT]
  rfl
 cases ht:uU m with
 |
  none =>
  have s2:bQ n 1 (.ptr n 0 0 0) (.agg [.tree [] .nil]) (H2++[cG.row 0 [.agg [c]] 1 true])=some ((H2++[cG.row 0 [.agg [c]] 1 true]).set n (.row 0 [.agg [.tree [] .nil]] 1 true)):=by
   rw[bU (bS uK) (by exact Nat.zero_lt_one) (Nat.le_refl _) rfl rfl]
   rfl
  have s3:cE true 1 (.ptr n 0 0 0) ((H2++[cG.row 0 [.agg [c]] 1 true]).set n (.row 0 [.agg [.tree [] .nil]] 1 true))=some (.agg [.tree [] .nil]):=by
   rw[bO,cA (bS uK)]
   rfl
  simp only[s1,s2,s3,Option.isSome_none,dJ,fW,VX,Nat.reduceEqDiff,Nat.reduceAdd,Nat.reduceLeDiff,Nat.reduceLT,Nat.reduceSub]
  exact⟨_,AJ (by rw[List.length_set,List.length_append];omega),rfl,AZ,.agg [.tree [] .nil],rfl,_,rfl,.inl ⟨rfl,rfl⟩⟩
 |
  some bE =>
  rw[ht] at hv
  have l1:cE true 1 (.ptr H2.length 0 0 0) (H2++[cG.row 0 [.agg [c]] 1 true])=some (.agg [c]):=by
   rw[bO,fN]
   rfl
  have s2:bQ n 1 (.ptr n 0 0 0) (.agg [c]) (H2++[cG.row 0 [.agg [c]] 1 true])=some ((H2++[cG.row 0 [.agg [c]] 1 true]).set n (.row 0 [.agg [c]] 1 true)):=by
   rw[bU (bS uK) (by exact Nat.zero_lt_one) (Nat.le_refl _) rfl (by simp[aB,hc1])]
   rfl
  have s3:cE true 1 (.ptr n 0 0 0) ((H2++[cG.row 0 [.agg [c]] 1 true]).set n (.row 0 [.agg [c]] 1 true))=some (.agg [c]):=by
   rw[bO,cA (bS uK)]
   rfl
  simp only[s1,s2,s3,l1,Option.isSome_some,dJ,fW,VX,Nat.reduceEqDiff,Nat.reduceAdd,Nat.reduceLeDiff,Nat.reduceLT,Nat.reduceSub]
  have O8:BB n (n+2) ((H2++[cG.row 0 [.agg [c]] 1 true]).set n (.row 0 [.agg [c]] 1 true)):=BB.set (BB.aqK hT (by simp[eK,oA,fB,hc3])) (by omega)
  obtain⟨L2,k1,k2,k3⟩:=QQ (n:=n) (k:=n+2) (by omega) (by rw[List.length_set,List.length_append];omega) O8
  refine⟨L2,k1,by simp[fB,oA,hc3,kC],k2,.agg [c],rfl,?_⟩
  obtain⟨c',UM,hv⟩:=hv
  cases UM
  have hl3:=k1.1
  rw[List.length_set,List.length_append,List.length_append,List.length_replicate] at hl3
  simp only[Option.getD_some] at hv
  exact⟨c,rfl,(hv.cK (H':=List.replicate n cG.dead++L2) fun b g x h1 h2 h3=>k3 b g x (by omega) (cF (by omega) (bS h3))).wide (by omega) (by simp only[List.length_cons,List.length_nil] at hl3;omega)⟩
end Go.PM
namespace Go.PM
end Go.PM
namespace Go.PM
open Go.Lib
set_option maxHeartbeats 1000000 in
theorem JL {lo:Nat} {H:aA} (N:Nat) (hN:N≤1000) (dL:lo≤H.length):gQ 76 [VI N] lo H (GZ (TabIs bA 3 (List.replicate N (List.replicate N (0:Rat)))) H):=by
 refine gQ.walk ⟨true,false⟩ JI (Nat.le_of_ble_eq_true rfl) ?_
 have e0:∀K,jQ false [.slice none 0 0] 0 [] K=some (.ref K.length 0 0 0 0,K++[.row 0 [] 1 true]):=fun K=>iC rfl
 have e0':∀K,jQ false [.bool false,.slice none 0 0,.slice none 0 0] 0 [] K=some (.ref K.length 0 0 0 0,K++[.row 0 [] 3 true]):=fun K=>iC rfl
 have e1:=wX
 have eL:∀H,jQ false [.bool false,.slice none 0 0,.slice none 0 0] 1 [(0,bA 0)] H=some (.tree [bA 0] (.cl 3),H):=fun H=>gD rfl rfl rfl
 have eS:∀H,cT 3 (.tree [bA 0] (.cl 3)) H=some [bA 0]:=fun H=>dQ rfl rfl
 simp only[Ez,Cd,e0,fW,VX,Nat.reduceEqDiff,Nat.reduceAdd,Nat.reduceLeDiff,Nat.reduceLT,Nat.reduceSub]
 refine aT (fun(i:Nat) ρ H1=>i≤N∧H <+: H1∧(∃rs,rs.length=i∧rs.map (·.xs)=List.replicate i (List.replicate N (0:Rat))∧MG bA 3 H.length H1.length H.length i H1 rs)∧ρ 0=VI N∧ρ 3 = .ref H.length i 0 i i∧ρ 4=VI i) (fun i=>N-i) 0
  ⟨Nat.zero_le _,List.prefix_append _ _,⟨[],rfl,rfl,fN,Nat.le_refl _,by simp,by simp,by simp⟩,rfl,rfl,rfl⟩ ?_
 rintro i ρ H1 ⟨hi,hp,⟨rs,Ae,Nk,hM⟩,g0,g3,g4⟩
 by_cases dA:(i:Int)<(N:Int)
 ·have wi:IntKind.i64.wrap ((i:Int)+1)=((i+1:Nat):Int):=wrapN (i+1) (by omega) (by omega)
  simp only[tH,g0,g3,g4,dA,e0',fW,VX,Nat.reduceEqDiff,Nat.reduceAdd,Nat.reduceLeDiff,Nat.reduceLT,Nat.reduceSub]
  have Bk:=hp.length_le
  refine aT (fun(k:Nat) ρ H2=>k≤N∧H1 <+: H2∧aH H2 H1.length k=some ((List.replicate k (0:Rat)).map bA,3,true)∧ρ 0=VI N∧ρ 3 = .ref H.length i 0 i i∧ρ 4=VI i∧ρ 5 = .ref H1.length k 0 k k∧ρ 6=VI k) (fun k=>N-k) 0 ⟨Nat.zero_le _,List.prefix_append _ _,fN,g0,g3,g4,rfl,rfl⟩ ?_
  clear g0 g3 g4
  rintro k ρ H2 ⟨hk,J5,kD,g0,g3,g4,g5,g6⟩
  by_cases Xy:(k:Int)<(N:Int)
  ·have wk:IntKind.i64.wrap ((k:Int)+1)=((k+1:Nat):Int):=wrapN (k+1) (by omega) (by omega)
   have eP:=Ko (lo:=lo) (bytes:=56) (x:=(0:Rat)) kD (by simp) (by omega) (by decide) (by decide) (by omega)
   simp only[tO,g0,g5,g6,Xy,e1,eL,eS,eP,wk,fW,VX,Nat.reduceEqDiff,Nat.reduceAdd,Nat.reduceLeDiff,Nat.reduceLT,Nat.reduceSub]
   exact⟨k+1,by omega,by omega,kQ J5 (Nat.le_refl _),by rw[List.replicate_succ'];exact cA kD,by (repeat' apply And.intro)<;>first | rfl | trivial | assumption⟩
  ·have hke:k=N:=by omega
   subst hke
   have hA:OB bA 3 (List.replicate i (List.replicate k (0:Rat))) H.length H1.length H2 (.ref H.length i 0 i i) := .inr ⟨H.length,i,rs,Nat.le_refl _,hM.bhi,by simp,cS J5 hM.out,Nk,(hM.pre J5).rows⟩
   have CJ:=fR kD
   obtain⟨v',H3,ap,Yz,cK,hlen,M5,yM,_⟩:=hA.snoc (gP:=lo) dL (by simp;omega) ⟨H1.length,k,k,List.replicate k 0⟩ (Nat.le_refl _) Bk (by simp) kD
   rw[List.length_replicate] at ap
   have eL2:∀K,jQ false [.slice none 0 0] 1 [(0,.ref H1.length k 0 k k)] K=some (.tree [.ref H1.length k 0 k k] (.cl 1),K):=fun K=>gD rfl rfl rfl
   have eS2:∀K,cT 1 (.tree [.ref H1.length k 0 k k] (.cl 1)) K=some [.ref H1.length k 0 k k]:=fun K=>dQ rfl rfl
   simp only[tO,g0,g3,g4,g5,g6,Xy,eL2,eS2,ap,wi,fW,VX,Nat.reduceEqDiff,Nat.reduceAdd,Nat.reduceLeDiff,Nat.reduceLT,Nat.reduceSub]
   rw[←List.replicate_succ'] at Yz
   rcases Yz with⟨_,h⟩ | ⟨b,g,Wj,k1,k2,rfl,k3,k4,k5⟩
   ·simp at h
   ·have sW:=Ko (f:=nC) (lo:=lo) (bytes:=24) (x:=⟨H1.length,k,k,List.replicate k (0:Rat)⟩) (cS J5 hM.out) Ae.symm dL (by decide) (by decide) (by omega)
    simp only[nC,List.length_replicate] at sW
    rw[sW] at ap
    injection ap with ap
    injection ap with ap1 ap2
    injection ap1 with q1 q2 q3 q4 q5
    subst q1 q2
    refine⟨i+1,by omega,by omega,yM H (Nat.le_refl _) (hp.trans J5),⟨Wj,by have:=congrArg List.length k4;simpa using this,k4,k3,Nat.le_refl _,k2,k5.nd,k5.row⟩,by (repeat' apply And.intro)<;>first | rfl | trivial | assumption | rw[List.length_replicate]⟩
 ·have oB:i=N:=by omega
  subst oB
  simp only[tH,g0,g3,g4,dA,fW,VX,Nat.reduceEqDiff,Nat.reduceAdd,Nat.reduceLeDiff,Nat.reduceLT,Nat.reduceSub]
  exact⟨hp,H.length,i,i,rs,by rw[List.length_replicate],by simp,hM,Nk⟩
def SvS (s:J6) (lo hi:Nat) (H:aA) (v:VV):Prop:=(∃a b c,v = .agg [a,b,c]∧bP a=true∧bP b=true∧bP c=true∧∀n,n≤lo→fB n a=true∧fB n b=true∧fB n c=true)∧FV (svV s) lo hi H v
theorem SvS.cK {s:J6}:∀ {lo hi H H' v},SvS s lo hi H v→dI lo hi H H'→SvS s lo hi H' v:=fun h hk=>⟨h.1,h.2.cK hk⟩
theorem SvS.wide {s:J6}:∀ {lo hi gP mC:Nat} {H:aA} {v:VV},SvS s lo hi H v→gP≤lo→hi≤mC→SvS s gP mC H v:=fun h hl hh=>by
 obtain⟨⟨a,b,c,h1,h2,h3,h4,h5⟩,h6⟩:=h
 exact⟨⟨a,b,c,h1,h2,h3,h4,fun n hn=>h5 n (by omega)⟩,fun H' hk=>h6 H' (hk.sub hl hh)⟩
theorem SvS.ag {s:J6} {lo hi:Nat} {H:aA} {v:VV} (h:SvS s lo hi H v) (n:Nat) (hn:n≤lo):∃a b c,v = .agg [a,b,c]∧bP a=true∧bP b=true∧bP c=true∧fB n a=true∧fB n b=true∧fB n c=true:=by
 obtain⟨⟨a,b,c,h1,h2,h3,h4,h5⟩,_⟩:=h
 exact⟨a,b,c,h1,h2,h3,h4,h5 n hn⟩
end Go.PM
namespace Go.PM
open Go.Lib
theorem Xg {qs:List Rat} {x:List ByteArray} (h:BR qs=some x):x.length=qs.length:=by
 unfold BR at h
 split at h
 ·cases h
  rw[List.length_map]
 ·cases h
theorem Yv.own {α:Type} {f:α→VV} {e lo hi n:Nat} {H:aA} {v:VV} {o:Option (List α)} (h:Yv f e o lo hi H v) (hn:n≤lo):fB n v=true:=by
 cases o with
 |
  none =>
  have h:v = .tree [] .nil:=h
  subst h
  rfl
 |
  some ys =>
  obtain⟨b,g,c,h1,h2,rfl,h3⟩:=h
  simp[fB];omega
theorem OB.own {α:Type} {f:α→VV} {e lo hi n:Nat} {H:aA} {v:VV} {bE:List (List α)} (h:OB f e bE lo hi H v) (hn:n≤lo):fB n v=true:=by
 rcases h with⟨rfl,_⟩ | ⟨b,g,rs,q1,q2,rfl,_⟩
 ·rfl
 ·simp[fB];omega
end Go.PM
namespace Go.PM
open Go.Lib
end Go.PM
namespace Go.PM
open Go.Lib
set_option maxHeartbeats 4000000 in
theorem K1 {lo:Nat} {H:aA} {v:VV} (m:List (List Rat)) {n B:Nat} (hv:YW bA 3 m H v) (dL:lo≤H.length) (hm:m.length=n) (hn:n≤100) (hB:B≤1000000) (hb:∀r∈m,r.length=n∧∀q∈r,aZ q≤B) (hd:cM m≠0) :
  gQ 62 [v] lo H (GZ (TabIs bA 3 (lZ m)) H):=by
 have hmul:n*(B+1)≤100*(B+1):=Nat.mul_le_mul_right _ hn
 have uD:∀r∈m,r.length≤n∧∀q∈r,aZ q≤B:=fun r hr=>⟨Nat.le_of_eq (hb r hr).1,(hb r hr).2⟩
 refine gQ.walk ⟨true,false⟩ La (Nat.le_of_ble_eq_true rfl) ?_
 have e1:=wX
 have s0:=HY (lo:=lo) (H:=H) (q:=0) dL
 simp only[GG,Db,e1,s0,fW,VX,Nat.reduceEqDiff,Nat.reduceAdd,Nat.reduceLeDiff,Nat.reduceLT,Nat.reduceSub]
 refine aT (fun(i:Nat) ρ H1=>i≤m.length∧H <+: H1∧aH H1 H.length 0=some ([bA (iV m i)],3,true)∧ρ 0=v∧ρ 3 = .ptr H.length 0 0 0∧ρ 4=VI i) (fun i=>m.length-i) 0 ⟨Nat.zero_le _,List.prefix_append _ _,fN,rfl,rfl,rfl⟩ ?_
 rintro i ρ H1 ⟨hi,hp,Vj,g0,g3,g4⟩
 have Bk:=fR Vj
 have el:=hv.len H1 hp
 by_cases dA:(i:Int)<(m.length:Int)
 ·obtain⟨r,hr⟩:∃r,m[i]? = some r:=⟨_,List.getElem?_eq_getElem (by omega)⟩
  have Ct:=hb r (List.mem_of_getElem? hr)
  obtain⟨p,w,a1,a2,hw⟩:=hv.get H1 hp i r hr
  have wi:IntKind.i64.wrap ((i:Int)+1)=((i+1:Nat):Int):=wrapN (i+1) (by omega) (by omega)
  have Ae:r.length*(B+1)≤100*(B+1):=Nat.mul_le_mul_right _ (by omega)
  simp only[vI,g0,g3,g4,dA,el,a1,a2,fW,VX,Nat.reduceEqDiff,Nat.reduceAdd,Nat.reduceLeDiff,Nat.reduceLT,Nat.reduceSub]
  refine lB rfl (Cf (H:=H1) r hw (by omega) Ct.2 (by omega) (by omega) (by omega)) fun x L hx => ?_
  subst hx
  have ES:=bS (L:=L) Vj
  have J5:=jN (L:=L) hp
  have CJ:H1.length≤(H1++L).length:=by rw[List.length_append];omega
  generalize H1++L=H2 at *
  have s1:=HY (lo:=lo) (H:=H2) (q:=dY r) (by omega)
  have s2:=ZN (H:=H2) (K:=[]) (q:=dY r)
  have s3:cE true 3 (.ptr H.length 0 0 0) (H2++[cG.row 0 [bA (dY r)] 3 true])=some (bA (iV m i)):=by
   rw[bO,bS ES]
   exact fF _
  have b1:=tS Ct.2 (Nat.le_of_eq Ct.1)
  have b2:=tG uD i
  have e3:=KL (iV m i) (dY r) (by omega) (by omega)
  have E3:=zG hr
  by_cases hc:iV m i<dY r
  ·rw[decide_eq_true hc] at e3
   rw[if_pos hc] at E3
   have s4:=bU (lo:=lo) (v:=bA (dY r)) (j:=0) (bS (L:=[.row 0 [bA (dY r)] 3 true]) ES) (by exact Nat.zero_lt_one) dL rfl rfl
   rw[List.set_cons_zero] at s4
   simp only[g0,g3,g4,s1,s2,s3,s4,e3,wi,fW,VX,Nat.reduceEqDiff,Nat.reduceAdd,Nat.reduceLeDiff,Nat.reduceLT,Nat.reduceSub]
   exact⟨i+1,by omega,by omega,kQ (jN J5) (Nat.le_refl _),by rw[E3];exact cA (bS ES),by (repeat' apply And.intro)<;>first | rfl | trivial | assumption⟩
  ·rw[decide_eq_false hc] at e3
   rw[if_neg hc] at E3
   simp only[g0,g3,g4,s1,s2,s3,e3,wi,fW,VX,Nat.reduceEqDiff,Nat.reduceAdd,Nat.reduceLeDiff,Nat.reduceLT,Nat.reduceSub]
   exact⟨i+1,by omega,by omega,jN J5,by rw[E3];exact bS ES,by (repeat' apply And.intro)<;>first | rfl | trivial | assumption⟩
 ·have oB:i=m.length:=by omega
  subst oB
  have e0:∀K,jQ false [.slice none 0 0] 0 [] K=some (.ref K.length 0 0 0 0,K++[.row 0 [] 1 true]):=fun K=>iC rfl
  simp only[vI,g0,g3,g4,dA,el,e0,fW,VX,Nat.reduceEqDiff,Nat.reduceAdd,Nat.reduceLeDiff,Nat.reduceLT,Nat.reduceSub]
  have Vj:aH H1 H.length 0=some ([bA (cM m)],3,true):=Vj
  have bm:=tG uD m.length
  rw[←cM] at bm
  refine aT (fun(i:Nat) ρ H2=>i≤m.length∧H <+: H2∧aH H2 H.length 0=some ([bA (cM m)],3,true)∧(∃rs,rs.length=i∧rs.map (·.xs)=(lZ m).take i∧MG bA 3 H1.length H2.length H1.length i H2 rs)∧ρ 0=v∧ρ 3 = .ptr H.length 0 0 0∧ρ 6 = .ref H1.length i 0 i i∧ρ 7=VI i) (fun i=>m.length-i) 0
   ⟨Nat.zero_le _,jN hp,bS Vj,⟨[],rfl,rfl,fN,Nat.le_refl _,by simp,by simp,by simp⟩,by (repeat' apply And.intro)<;>first | rfl | trivial | assumption⟩ ?_
  clear g0 g3 g4 dA el
  rintro i ρ H2 ⟨hi,J5,ES,⟨rs,Ae,Nk,hM⟩,g0,g3,g6,g7⟩
  have el:=hv.len H2 J5
  by_cases dA:(i:Int)<(m.length:Int)
  ·obtain⟨r,hr⟩:∃r,m[i]? = some r:=⟨_,List.getElem?_eq_getElem (by omega)⟩
   have Ct:=hb r (List.mem_of_getElem? hr)
   have wi:IntKind.i64.wrap ((i:Int)+1)=((i+1:Nat):Int):=wrapN (i+1) (by omega) (by omega)
   have hbh:=hM.bhi
   have e0':∀K,jQ false [.bool false,.slice none 0 0,.slice none 0 0] 0 [] K=some (.ref K.length 0 0 0 0,K++[.row 0 [] 3 true]):=fun K=>iC rfl
   simp only[vK,g0,g3,g6,g7,dA,el,e0',fW,VX,Nat.reduceEqDiff,Nat.reduceAdd,Nat.reduceLeDiff,Nat.reduceLT,Nat.reduceSub]
   have CJ:=J5.length_le
   refine aT (fun(k:Nat) ρ H3=>k≤n∧H2 <+: H3∧aH H3 H2.length k=some (((r.take k).map (· / cM m)).map bA,3,true)∧ρ 0=v∧ρ 3 = .ptr H.length 0 0 0∧ρ 6 = .ref H1.length i 0 i i∧ρ 7=VI i∧ρ 8 = .ref H2.length k 0 k k∧ρ 9=VI k) (fun k=>n-k) 0 ⟨Nat.zero_le _,List.prefix_append _ _,fN,by (repeat' apply And.intro)<;>first | rfl | trivial | assumption⟩ ?_
   clear g0 g3 g6 g7
   rintro k ρ H3 ⟨hk,hp3,kD,g0,g3,g6,g7,g8,g9⟩
   have ajP:=J5.trans hp3
   have el3:=hv.len H3 ajP
   have hl3:=fR kD
   by_cases Xy:(k:Int)<(m.length:Int)
   ·obtain⟨q,hq⟩:∃q,r[k]? = some q:=⟨_,List.getElem?_eq_getElem (by omega)⟩
    obtain⟨p,w,a1,a2,hw⟩:=hv.get H3 ajP i r hr
    obtain⟨p2,a3,a4⟩:=hw.get H3 (List.prefix_refl _) k q hq
    have a4':=(a4 true).trans (fF _)
    have wk:IntKind.i64.wrap ((k:Int)+1)=((k+1:Nat):Int):=wrapN (k+1) (by omega) (by omega)
    have s3:cE true 3 (.ptr H.length 0 0 0) H3=some (bA (cM m)):=by
     rw[bO,cS hp3 ES]
     exact fF _
    have e4:=L5 q (cM m) hd (by have:=Ct.2 q (List.mem_of_getElem? hq);omega) (by omega)
    have eL:∀H,jQ false [.bool false,.slice none 0 0,.slice none 0 0] 1 [(0,bA (q / cM m))] H=some (.tree [bA (q / cM m)] (.cl 3),H):=fun H=>gD rfl rfl rfl
    have eS:∀H,cT 3 (.tree [bA (q / cM m)] (.cl 3)) H=some [bA (q / cM m)]:=fun H=>dQ rfl rfl
    have eP:=Ko (lo:=lo) (bytes:=56) (x:=q / cM m) kD (by simp;omega) (by omega) (by decide) (by decide) (by omega)
    simp only[vH,g0,g3,g7,g8,g9,Xy,el3,a1,a2,a3,a4',s3,e4,eL,eS,eP,wk,fW,VX,Nat.reduceEqDiff,Nat.reduceAdd,Nat.reduceLeDiff,Nat.reduceLT,Nat.reduceSub]
    exact⟨k+1,by omega,by omega,kQ hp3 (Nat.le_refl _),by rw[gV hq,List.map_append (l₁:=r.take k)];exact cA kD,by (repeat' apply And.intro)<;>first | rfl | trivial | assumption⟩
   ·have hke:k=n:=by omega
    subst hke
    rw[List.take_of_length_le (by omega)] at kD
    have e4:=MO
    simp only[vH,g0,g3,g6,g7,g8,g9,Xy,el3,e4,fW,VX,Nat.reduceEqDiff,Nat.reduceAdd,Nat.reduceLeDiff,Nat.reduceLT,Nat.reduceSub]
    have qb:=Hi Ct.2 bm
    have aaW:(r.map (· / cM m)).length*(B+(k*(B+1)+1)+1+1)≤100*(B+(k*(B+1)+1)+1+1):=Nat.mul_le_mul_right _ (by rw[List.length_map];omega)
    have Gu:(r.map (· / cM m)).length=k:=by rw[List.length_map];omega
    refine lB rfl (Cf (H:=H3) (v := .ref H2.length k 0 k k) (r.map (· / cM m)) (Rd.row kD Gu.symm) (by omega) qb (by omega) (by omega) (by omega)) fun x L4 hx => ?_
    subst hx
    have hM4:=hM.pre (hp3.trans (List.prefix_append H3 L4))
    have alB:=cS (hp3.trans (List.prefix_append H3 L4)) ES
    have hp4:=jN (L:=L4) ajP
    have hl4:H3.length≤(H3++L4).length:=by rw[List.length_append];omega
    have k5:=bS (L:=L4) kD
    generalize H3++L4=H4 at *
    have b3:=tS (n:=k) qb (Nat.le_of_eq Gu)
    have arD:k*(B+(k*(B+1)+1)+1+1)≤100*(B+(k*(B+1)+1)+1+1):=Nat.mul_le_mul_right _ hn
    have e5:=JO 1 (dY (r.map (· / cM m))) (by rw[HB];omega) (by omega)
    have a3:=bD (o:=0) (n:=k) (c:=k) (i:=i) (k := .i64) k5 (by omega)
    rw[Nat.zero_add] at a3
    have s5:bQ lo 3 (.ptr H2.length k i 0) (bA (1-dY (r.map (· / cM m)))) H4=some (H4.set H2.length (.row k ((kA (cM m) i r).map bA) 3 true)):=fJ (lo:=lo) (f:=bA) (x:=1-dY (r.map (· / cM m))) (j:=i) k5 (by omega) (by omega) rfl rfl
    have hM5:=hM4.cK (H':=H4.set H2.length (.row k ((kA (cM m) i r).map bA) 3 true)) (dI.set (by omega))
    have k6:=cA (g:=k) (e:=3) (w:=true) (es:=(kA (cM m) i r).map bA) k5
    have U8:(kA (cM m) i r).length=k:=by rw[kA,List.length_set];exact Gu
    obtain⟨ap,hM6⟩:=hM5.snoc (gP:=lo) Ae.symm (by omega) (by omega) ⟨H2.length,k,k,kA (cM m) i r⟩ (Nat.le_refl _) (by simp only[U8];exact Nat.le_refl _) k6
    simp only[U8] at ap
    have eL:∀K,jQ false [.slice none 0 0] 1 [(0,.ref H2.length k 0 k k)] K=some (.tree [.ref H2.length k 0 k k] (.cl 1),K):=fun K=>gD rfl rfl rfl
    have eS:∀K,cT 1 (.tree [.ref H2.length k 0 k k] (.cl 1)) K=some [.ref H2.length k 0 k k]:=fun K=>dQ rfl rfl
    simp only[g6,g7,g8,e5,a3,s5,eL,eS,ap,wi,fW,VX,Nat.reduceEqDiff,Nat.reduceAdd,Nat.reduceLeDiff,Nat.reduceLT,Nat.reduceSub]
    refine⟨i+1,by omega,by omega,kQ (kQ hp4 (by omega)) (by omega),cF (by omega) (cF (by omega) alB),⟨rs++[⟨H2.length,k,k,kA (cM m) i r⟩],by rw[List.length_append,Ae];rfl,?_,?_⟩,by (repeat' apply And.intro)<;>first | rfl | trivial | assumption⟩
    ·have rK:(lZ m)[i]? = some (kA (cM m) i r):=by
      rw[lZ,BA (by omega),List.getD_eq_getElem?_getD,hr]
      rfl
     rw[gV rK,List.map_append,Nk]
     rfl
    ·exact hM6.wide (Nat.le_refl _) (by simp)
  ·have oB:i=m.length:=by omega
   subst oB
   rw[List.take_of_length_le (by rw[lZ,uG];exact Nat.le_refl _)] at Nk
   simp only[vK,g0,g3,g6,g7,dA,el,fW,VX,Nat.reduceEqDiff,Nat.reduceAdd,Nat.reduceLeDiff,Nat.reduceLT,Nat.reduceSub]
   have U8:(lZ m).length=m.length:=by rw[lZ,uG]
   exact⟨J5,H1.length,m.length,m.length,rs,by rw[U8],by rw[U8];exact Nat.le_refl _,hM.wide hp.length_le (Nat.le_refl _),Nk⟩
end Go.PM
namespace Go.PM
open Go.Lib
end Go.PM
namespace Go.PM
open Go.Lib
section
variable {b:List Rat} {g:List (List Rat)} {e row:List Rat} {n i:Nat} {st:List Bool}
end
end Go.PM
namespace Go.PM
open Go.Lib
end Go.PM
namespace Go.PM
end Go.PM
namespace Go.PM
theorem qD (q:Rat):(aB (bA q)).all bP=true:=rfl
theorem Zp {lo k:Nat} {H K:aA} {x:VV} {q:Rat} (h:lo≤H.length) (hK:K[k]? = some (.row 0 [x] 3 true)):bQ lo 3 (.ptr (H.length+k) 0 0 0) (bA q) (H++K)=some (H++K.set k (.row 0 [bA q] 3 true)):=by
 have hr:aH (H++K) (H.length+k) 0=some ([x],3,true):=by
  rw[cH,List.getElem?_append_right (by omega),Nat.add_sub_cancel_left]
  exact hK
 rw[bU (e:=3) hr (by exact Nat.zero_lt_one) (by omega) (pG q) (qD q),List.set_append_right _ _ (by omega),Nat.add_sub_cancel_left]
 rfl
theorem afF {k:Nat} {H K:aA} {q:Rat} (hK:K[k]? = some (.row 0 [bA q] 3 true)):cE true 3 (.ptr (H.length+k) 0 0 0) (H++K)=some (bA q):=by
 have hr:aH (H++K) (H.length+k) 0=some ([bA q],3,true):=by
  rw[cH,List.getElem?_append_right (by omega),Nat.add_sub_cancel_left]
  exact hK
 rw[bO,hr]
 exact fF q
theorem aaS {H:aA} {b:Nat} {q:Rat} (h:aH H b 0=some ([bA q],3,true)):cE true 3 (.ptr b 0 0 0) H=some (bA q):=by
 rw[bO,h]
 exact fF q
end Go.PM
namespace Go.PM
open Go.Lib
section
variable {lo gP hi N b g c:Nat} {H:aA} {L:List E9}
theorem QZ (hT:Tb aQ gP hi N N b g (fH L) H) (i j:Nat) (q:Rat) (mC:i<N) (hj:j<N) (dL:lo≤gP) (hF:aZ (fH L i j)≤1000000) (hq:aZ q≤1000000) :
  gQ 95 [.ref b g 0 N c,VI i,VI j,aQ q] lo H fun _ H'=>JG gP hi H H'∧Tb aQ gP hi N N b g (fH (L++[(i,j,q)])) H':=by
 refine gQ.walk ⟨true,false⟩ CL (Nat.le_of_ble_eq_true rfl) ?_
 have lq:∀K,cE true 3 (.cU (aQ q) 0) K=some (aQ q):=fun K=>dK q
 by_cases h:i=j
 ·subst h
  simp only[rD,oQ,Ma,ne_eq,not_true_eq_false,decide_false,if_true,fW,VX,Nat.reduceEqDiff,Nat.reduceAdd,Nat.reduceLeDiff,Nat.reduceLT,Nat.reduceSub]
  exact⟨JG.refl,by rw[Fp];exact hT⟩
 ·have fC:¬(i:Int)=(j:Int):=by omega
  obtain⟨rb,rg,rc,c1,c2,c3,c4⟩:=hT.spot mC hj Ig Ma
  obtain⟨H2,c5,c6,O8,_⟩:=c4 lo (fH L i j+q) dL
  have a1:=hT.addr (c:=c) mC
  have a2:=(c3 true).trans (dK _)
  have e1:=xK (fH L i j) q (by omega) (by omega)
  simp only[rD,oQ,Ma,fC,a1,a2,c1,c2,c5,e1,lq,ne_eq,not_false_eq_true,decide_true,if_true,fW,VX,Nat.reduceEqDiff,Nat.reduceAdd,Nat.reduceLeDiff,Nat.reduceLT,Nat.reduceSub]
  exact⟨c6,by rw[Fa,Rp h];exact O8⟩
theorem Na (hT:Tb bA gP hi N N b g (fH L) H) (i j:Nat) (q:Rat) (mC:i<N) (hj:j<N) (dL:lo≤gP) (hF:aZ (fH L i j)≤1000000) (hq:aZ q≤1000000) :
  gQ 90 [.ref b g 0 N c,VI i,VI j,bA q] lo H fun _ H'=>JG gP hi H H'∧Tb bA gP hi N N b g (fH (L++[(i,j,q)])) H':=by
 refine gQ.walk ⟨true,false⟩ ME (Nat.le_of_ble_eq_true rfl) ?_
 have lq:∀K,cE true 3 (.cU (bA q) 0) K=some (bA q):=fun K=>fF q
 by_cases h:i=j
 ·subst h
  simp only[CF,Ac,qD,ne_eq,not_true_eq_false,decide_false,if_true,fW,VX,Nat.reduceEqDiff,Nat.reduceAdd,Nat.reduceLeDiff,Nat.reduceLT,Nat.reduceSub]
  exact⟨JG.refl,by rw[Fp];exact hT⟩
 ·have fC:¬(i:Int)=(j:Int):=by omega
  obtain⟨rb,rg,rc,c1,c2,c3,c4⟩:=hT.spot mC hj pG qD
  obtain⟨H2,c5,c6,O8,_⟩:=c4 lo (fH L i j+q) dL
  have a1:=hT.addr (c:=c) mC
  have a2:=(c3 true).trans (fF _)
  have e1:=zU (fH L i j) q (by omega) (by omega)
  simp only[CF,Ac,qD,fC,a1,a2,c1,c2,c5,e1,lq,ne_eq,not_false_eq_true,decide_true,if_true,fW,VX,Nat.reduceEqDiff,Nat.reduceAdd,Nat.reduceLeDiff,Nat.reduceLT,Nat.reduceSub]
  exact⟨c6,by rw[Fa,Rp h];exact O8⟩
structure Tq (f:Rat→VV) (lo hi N b g:Nat) (L:List E9) (H:aA):Prop where
 t:Tb f lo hi N N b g (fH L) H
 b:∀t∈L,aZ t.2.2≤1331
 l:L.length≤400
theorem Tq.bits {f:Rat→VV} (h:Tq f lo hi N b g L H) (i j:Nat):aZ (fH L i j)≤1000000:=by
 have h1:=Ka h.b i j
 have h2:L.length*(1331+1)≤400*(1331+1):=Nat.mul_le_mul_right _ h.l
 omega
theorem Tq.cK {f:Rat→VV} {H':aA} (h:Tq f lo hi N b g L H) (hk:dI lo hi H H'):Tq f lo hi N b g L H':=⟨h.t.cK hk,h.b,h.l⟩
theorem Tq.pre {f:Rat→VV} {H':aA} (h:Tq f lo hi N b g L H) (hh:H <+: H'):Tq f lo hi N b g L H':=h.cK (dI.pre hh)
theorem Tq.snoc {f:Rat→VV} {H':aA} {i j:Nat} {q:Rat} (h:Tq f lo hi N b g L H) (hT:Tb f lo hi N N b g (fH (L++[(i,j,q)])) H') (hq:aZ q≤1331) (hl:L.length<400):Tq f lo hi N b g (L++[(i,j,q)]) H' :=
 ⟨hT,fun t ht=>by
  rcases List.mem_append.1 ht with ht | ht
  ·exact h.b t ht
  ·rw[List.mem_singleton] at ht
   subst ht
   exact hq,by rw[List.length_append];exact hl⟩
theorem Tq.same {f:Rat→VV} {i:Nat} {q:Rat} (h:Tq f lo hi N b g L H) (hq:aZ q≤1331) (hl:L.length<400):Tq f lo hi N b g (L++[(i,i,q)]) H:=h.snoc (by rw[Fp];exact h.t) hq hl
theorem Ok {K:VV→aA→Prop} (hT:Tq aQ gP hi N b g L H) (i j:Nat) (q:Rat) (mC:i<N) (hj:j<N) (dL:lo≤gP) (hq:aZ q≤1331) (hl:L.length<400)
  (hk:∀r H',JG gP hi H H'→Tq aQ gP hi N b g (L++[(i,j,q)]) H'→K r H'):cQ 95 [.ref b g 0 N c,VI i,VI j,aQ q] lo H K :=
 gJ rfl ((QZ hT.t i j q mC hj dL (hT.bits i j) (by omega)).mono fun r H' h=>hk r H' h.1 (hT.snoc h.2 hq hl))
theorem K4 {K:VV→aA→Prop} (hT:Tq bA gP hi N b g L H) (i j:Nat) (q:Rat) (mC:i<N) (hj:j<N) (dL:lo≤gP) (hq:aZ q≤1331) (hl:L.length<400)
  (hk:∀r H',JG gP hi H H'→Tq bA gP hi N b g (L++[(i,j,q)]) H'→K r H'):cQ 90 [.ref b g 0 N c,VI i,VI j,bA q] lo H K :=
 gJ rfl ((Na hT.t i j q mC hj dL (hT.bits i j) (by omega)).mono fun r H' h=>hk r H' h.1 (hT.snoc h.2 hq hl))
end
theorem RB {lo N:Nat} {H:aA} {K:VV→aA→Prop} (hN:N≤1000) (dL:lo≤H.length) (hk:∀b g c L,N≤c→Tq aQ H.length (H++L).length N b g [] (H++L)→K (.ref b g 0 N c) (H++L)):cQ 94 [VI N] lo H K:=by
 refine lB rfl (gQ.walk ⟨true,false⟩ HS (Nat.le_of_ble_eq_true rfl) (K:=GZ (TabIs aQ 3 (MU N N fun _ _=>0)) H) ?_) fun r L hr => ?_
 ·simp only[Dm,AV,fW,VX,Nat.reduceEqDiff,Nat.reduceAdd,Nat.reduceLeDiff,Nat.reduceLT,Nat.reduceSub]
  refine lB rfl (Qb N hN dL) fun r L hr => ?_
  rw[SQ] at hr
  simp only[fW,VX,Nat.reduceEqDiff,Nat.reduceAdd,Nat.reduceLeDiff,Nat.reduceLT,Nat.reduceSub]
  exact⟨List.prefix_append _ _,hr⟩
 ·obtain⟨b,g,c,rfl,h1,h2⟩:=hr.tb
  exact hk b g c L h1 ⟨h2,(fun t ht=>by cases ht),by decide⟩
theorem Rk {lo N:Nat} {H:aA} {K:VV→aA→Prop} (hN:N≤1000) (dL:lo≤H.length) (hk:∀b g c L,N≤c→Tq bA H.length (H++L).length N b g [] (H++L)→K (.ref b g 0 N c) (H++L)):cQ 76 [VI N] lo H K:=by
 refine lB rfl (JL N hN dL) fun r L hr => ?_
 rw[SQ] at hr
 obtain⟨b,g,c,rfl,h1,h2⟩:=hr.tb
 exact hk b g c L h1 ⟨h2,(fun t ht=>by cases ht),by decide⟩
theorem akT {H:aA} {es:List VV} {k:Nat} (hp:aM es=true):PM.fz depth H (.tree es (.cl k))=some (.tree es .op):=by
 have h0:aP (.tree es (.cl k))=false:=by simp[aP]
 show PM.fz (7+1) H _=_
 unfold PM.fz
 simp only[h0,Bool.false_eq_true,if_false]
 rw[mapM_pure (n:=6) hp]
 rfl
theorem Xt {H:aA} {es:List VV} {k:Nat} (hp:aM es=true):gZ depth H (.tree es (.cl k))=[]:=by
 have h0:aP (.tree es (.cl k))=false:=by simp[aP]
 show gZ (7+1) H _=_
 unfold gZ
 simp only[h0,Bool.false_eq_true,if_false]
 exact wA hp
theorem TC.cl {f lo k:Nat} {H:aA} {es:List VV} {r:VV} {K:VV→aA→Prop} (h:TC f [.tree es .op] r) (hr:Ci.contains f=false) (hp:aM es=true) (Cs:aP (.tree es .op)=true):cQ f [.tree es (.cl k)] lo H K=K r H:=by
 have h0:aP (.tree es (.cl k))=false:=by simp[aP]
 rw[h.De (H:=H) (lo:=lo) (k:=K) hr (ajQ Cs) (Zn (akT hp)) (by simp[aM,h0]),List.flatMap_cons,Xt hp]
 split<;>rfl
def BX (o:Option Rat):VV:=match o with
 | some q => .eX [bA q,VB (decide (0<q))]
 | none => .eX [ET,VB false]
set_option maxHeartbeats 1000000 in
theorem C9 (x:ByteArray) (hx:x.size≤1000000000):TC 87 [sV x] (BX (pQ x)):=by
 refine TC.walk ⟨true,false⟩ Mo rfl (Nat.le_of_ble_eq_true rfl) rfl (by unfold BX;split<;>simp[iD,pY,rX,F1,kC]) ?_
 have e1:=Jr x.data.toList (by rw[Array.length_toList];show x.size≤_;omega)
 rw[←aaJ] at e1
 have s2:∀q,bQ 0 3 (.ptr 1 0 0 0) (bA q) [cell0,cell0]=some [cell0,.row 0 [bA q] 3 true]:=fun q=>Zp (lo:=0) (H:=[]) (k:=1) (Nat.zero_le _) rfl
 have l2:∀q,cE true 3 (.ptr 1 0 0 0) [cell0,.row 0 [bA q] 3 true]=some (bA q):=fun q=>afF (H:=[]) (k:=1) rfl
 cases hp:pQ x with
 |
  none =>
  rw[Q1 hp] at e1
  simp only[rV,oC,e1,BX,Cy,E6,Kq,aU,aV,aO,iR,Nat.reduceLeDiff,Nat.reduceLT,Nat.reduceSub,Eo,lE,nI,tX,AQ,AM,bne_iff_ne,ne_eq,not_false_eq_true,not_true_eq_false,fW,VX,Nat.reduceEqDiff,Nat.reduceAdd,Nat.reduceLeDiff,Nat.reduceLT,Nat.reduceSub]
  exact aI (tL Oh rfl)
 |
  some q =>
  rw[QW hp] at e1
  have e2:=LP q
  have e3:=MM q
  by_cases hz:q=0
  ·rw[decide_eq_true hz] at e2
   have h0:¬0<q:=by rw[hz];exact Rat.lt_irrefl
   simp only[rV,oC,e1,e2,e3,s2,l2,BX,h0,decide_false,Bool.not_true,pG,qD,fF,iR,Nat.reduceLeDiff,Nat.reduceLT,Nat.reduceSub,Eo,lE,nI,tX,AQ,AM,bne_iff_ne,ne_eq,not_false_eq_true,not_true_eq_false,fW,VX,Nat.reduceEqDiff,Nat.reduceAdd,Nat.reduceLeDiff,Nat.reduceLT,Nat.reduceSub]
   exact aI (tL (jL _) rfl)
  ·rw[decide_eq_false hz] at e2
   by_cases oV:q.num<0
   ·rw[decide_eq_true oV] at e3
    have h0:¬0<q:=fun h=>by have:=Vy.1 oV;grind
    simp only[rV,oC,e1,e2,e3,s2,l2,BX,h0,decide_false,Bool.not_true,Bool.not_false,pG,qD,fF,iR,Nat.reduceLeDiff,Nat.reduceLT,Nat.reduceSub,Eo,lE,nI,tX,AQ,AM,bne_iff_ne,ne_eq,not_false_eq_true,not_true_eq_false,fW,VX,Nat.reduceEqDiff,Nat.reduceAdd,Nat.reduceLeDiff,Nat.reduceLT,Nat.reduceSub]
    exact aI (tL (jL _) rfl)
   ·rw[decide_eq_false oV] at e3
    have h0:0<q:=by have:=mt Vy.2 oV;grind
    simp only[rV,oC,e1,e2,e3,s2,l2,BX,h0,decide_true,Bool.not_false,pG,qD,fF,iR,Nat.reduceLeDiff,Nat.reduceLT,Nat.reduceSub,Eo,lE,nI,tX,AQ,AM,bne_iff_ne,ne_eq,not_false_eq_true,not_true_eq_false,fW,VX,Nat.reduceEqDiff,Nat.reduceAdd,Nat.reduceLeDiff,Nat.reduceLT,Nat.reduceSub]
    exact aI (tL (jL _) rfl)
theorem Jp (k:Int):TC 89 [VI k] (VB (decide (1≤k∧k≤11))):=by
 refine TC.walk ⟨true,false⟩ Jm rfl (Nat.le_of_ble_eq_true rfl) rfl rfl ?_
 have e:=Gc k 1 11
 simp only[Ev,B6,e,fW,VX,Nat.reduceEqDiff,Nat.reduceAdd,Nat.reduceLeDiff,Nat.reduceLT,Nat.reduceSub]
 exact aI rfl
theorem adC {n lo hi b g c:Nat} {p:Nat×List E9} {H:aA} {K:VV→aA→Prop} (hp:QOk p) (hT:Tq aQ lo hi p.1 b g p.2 H) (hn:n≤H.length)
  (hk:∀x L,TabIs aQ 3 (lZ (tM p)) H.length (H++L).length (H++L) x→K x (H++L)):cQ 72 [.ref b g 0 p.1 c] n H K :=
 lB rfl (Rr (H:=H) (v := .ref b g 0 p.1 c) (tM p) (n:=p.1) (B:=600000) hT.t.rdT hn BM (by have:=hp.n;omega) (by decide) hp.rows hp.aoX) hk
theorem TabIs.fz {f:Rat→VV} {m:List (List Rat)} {lo hi:Nat} {H:aA} {v:VV} (h:TabIs f 3 m lo hi H v) (hpu:∀x,aP (f x)=true):PM.fz depth H v=some (bI (bI f) m):=by
 obtain⟨b,g,c,rs,rfl,k1,hM,Nk⟩:=h
 have Ae:rs.length=m.length:=by rw[←Nk,List.length_map]
 have Yt:=hM.fz (d:=5) (c:=c) (by omega) hpu
 rw[Nk,Ae] at Yt
 exact Yt
theorem QOk.told {p:Nat×List E9} (hp:QOk p):(lZ (tM p)).length≤1000000∧∀r∈lZ (tM p),r.length≤1000000∧∀q∈r,aZ q≤1099511627776:=by
 have hn:=hp.n
 obtain⟨el,eb⟩:=NZ BM (B:=600000) hp.rows (by omega) (by omega)
 exact⟨by omega,fun r hr=>⟨by have:=(eb r hr).1;omega,fun q hq=>by have:=(eb r hr).2 q hq;omega⟩⟩
end Go.PM
namespace Go.PM
structure Vd (s:J6):Prop where
 b:s.b.length≤100
 g:s.g.length≤100
 r:∀x∈s.g,x.length≤100
 e:s.e.length≤100
theorem BD {β:Type}:∀ {xs:List (List β)} {n:Nat},(∀x∈xs,x.length≤n)→cW xs≤xs.length*n
 | [],n,_=>by simp[cW]
 |
  x::xs,n,h=>by
  have h1:=h x List.mem_cons_self
  have h2:=BD (xs:=xs) (n:=n) fun y hy=>h y (List.mem_cons_of_mem _ hy)
  have e:cW (x::xs)=x.length+cW xs:=by simp[cW]
  rw[e,List.length_cons,Nat.add_mul,Nat.one_mul]
  omega
theorem Vd.n {s:J6} (h:Vd s):svN s≤10200:=by
 have h1:=BD h.r
 have h2:s.g.length*100≤100*100:=Nat.mul_le_mul_right _ h.g
 have h3:=h.b
 have h4:=h.e
 unfold svN
 omega
def Ag3 (v:VV):Prop:=∃a b c,v = .agg [a,b,c]∧bP a=true∧bP b=true∧bP c=true
theorem Ws.ag3 {s:J6} {lo hi:Nat} {H:aA} {v:VV} (h:Ws s lo hi H v):Ag3 v:=by
 obtain⟨a,b,c,h1,h2,h3,h4,_⟩:=h.own (n:=0) (Nat.zero_le _)
 exact⟨a,b,c,h1,h2,h3,h4⟩
theorem SvS.ag3 {s:J6} {lo hi:Nat} {H:aA} {v:VV} (h:SvS s lo hi H v):Ag3 v:=by
 obtain⟨⟨a,b,c,h1,h2,h3,h4,_⟩,_⟩:=h
 exact⟨a,b,c,h1,h2,h3,h4⟩
theorem Uq {m:List (List Rat)} {y:List (List ByteArray)} {B:Nat} (h:uU m=some y) (hB:∀r∈m,r.length≤B):y.length=m.length∧∀x∈y,x.length≤B :=
 ⟨sT h,fun x hx=>by
  have key:∀ {m:List (List Rat)} {y:List (List ByteArray)},m.mapM BR=some y→(∀r∈m,r.length≤B)→∀x∈y,x.length≤B:=by
   intro m
   induction m with
   | nil=>intro y h _ x hx;cases h;cases hx
   |
    cons r m ih =>
    intro y h hB x hx
    obtain⟨z,zs,h1,h2,rfl⟩:=lW h
    rcases List.mem_cons.1 hx with rfl | hx
    ·rw[Xg h1];exact hB r List.mem_cons_self
    ·exact ih h2 (fun r hr=>hB r (List.mem_cons_of_mem _ hr)) x hx
  exact key h hB x hx⟩
end Go.PM
namespace Go.PM
open Go.Lib
theorem Yv.wide {α:Type} {f:α→VV} {e:Nat} {o:Option (List α)}:∀ {lo hi gP mC:Nat} {H:aA} {v:VV},Yv f e o lo hi H v→gP≤lo→hi≤mC→Yv f e o gP mC H v:=by
 intro lo hi gP mC H v h hl hh
 cases o with
 | none=>exact h
 |
  some ys =>
  obtain⟨b,g,c,h1,h2,h3⟩:=h
  exact⟨b,g,c,by omega,by omega,h3⟩
end Go.PM
namespace Go.PM
structure yU (s:List (List ByteArray)):Prop where
 g:s.length≤100
 r:∀x∈s,x.length≤100
theorem yU.n {s:List (List ByteArray)} (h:yU s):cW s≤10000:=by
 have h1:=BD h.r
 have h2:s.length*100≤100*100:=Nat.mul_le_mul_right _ h.g
 omega
theorem ahN {lo:Nat} {s:List (List ByteArray)} {H:aA} {v w:VV} {K:VV→aA→Prop} (hs:yU s) (hv:PM.fz depth H v=some (ZT s)) (hw:PM.fz depth H w=some (ZT s)):cQ 19 [v,w] lo H K=K (VB true) H:=by
 have h:=K7 s s (by have:=hs.g;omega) (fun x hx=>by have:=hs.r x hx;omega)
 rw[decide_eq_true rfl] at h
 exact TC.flat h rfl (HX (Aq _) (Aq _)) (fz2 hv hw) rfl _ _
theorem U9 {lo:Nat} {s:List (List ByteArray)} {H:aA} {v:VV} {K:VV→aA→Prop} (hs:yU s) (hv:PM.fz depth H v=some (ZT (qS 101 s))):cQ 23 [v,VI 101] lo H K=K (VI (101+cW s)) H:=by
 have h:=G9 101 s (by omega) (by have:=hs.g;omega) (by have:=hs.n;omega)
 exact TC.flat h rfl (HX (Aq _) rfl) (fz2 hv (aI rfl)) rfl _ _
def Ag1 (v:VV):Prop:=∃a,v = .agg [a]∧bP a=true
theorem CG.ag3 {s:List (List ByteArray)} {lo hi:Nat} {H:aA} {v:VV} (h:CG s lo hi H v):Ag1 v:=by
 obtain⟨c,h1,h2,_,_⟩:=h.own (n:=0) (Nat.zero_le _)
 exact⟨c,h1,h2⟩
theorem UC {lo:Nat} {H:aA} {v:VV} (h:Ag1 v) (dL:lo≤H.length):bQ lo 1 (.ptr H.length 0 0 0) v (H++[.row 0 [.tree [] .nil] 1 true])=some (H++[.row 0 [v] 1 true]):=by
 obtain⟨a,rfl,h1⟩:=h
 rw[bU (e:=1) (g:=0) (j:=0) fN (by exact Nat.zero_lt_one) dL rfl (by simp[aB,h1]),FT]
 rfl
theorem NS {b:Nat} {H:aA} {v:VV} (h:Ag1 v) (hr:aH H b 0=some ([v],1,true)):cE true 1 (.ptr b 0 0 0) H=some v:=by
 obtain⟨a,rfl,_⟩:=h
 rw[bO,hr]
 rfl
end Go.PM
namespace Go.PM
theorem ZI {a b c d:VV} (ha:aP a=true) (hb:aP b=true) (hc:aP c=true) (hd:aP d=true):aM [a,b,c,d]=true:=by simp[aM,ha,hb,hc,hd]
theorem fz4 {d:Nat} {H:aA} {a b c e a' b' c' e':VV} (ha:fz d H a=some a') (hb:fz d H b=some b') (hc:fz d H c=some c') (he:fz d H e=some e'):[a,b,c,e].mapM (fz d H)=some [a',b',c',e']:=by
 rw[List.mapM_cons,ha,List.mapM_cons,hb,List.mapM_cons,hc,List.mapM_cons,he]
 rfl
theorem Pa {o:Option (Nat×List E9)} (h:∀p,o=some p→QOk p):yU ((HZ o).getD []):=by
 have h0:yU []:=⟨by decide,fun x hx=>by cases hx⟩
 cases o with
 | none=>exact h0
 |
  some p =>
  have hp:=h p rfl
  show yU ((uU (lZ (tM p))).getD [])
  cases ht:uU (lZ (tM p)) with
  | none=>exact h0
  |
   some y =>
   have hn:=hp.n
   obtain⟨e1,e2⟩:=NZ BM hp.rows (by omega) (by omega)
   obtain⟨j1,j2⟩:=Uq (B:=100) ht fun r hr=>by have:=(e2 r hr).1;omega
   exact⟨by rw[Option.getD_some,j1,e1];omega,j2⟩
def lP (a s:ByteArray) (gr nA:Int):=HZ (lT a s gr nA)
theorem Pp (a s:ByteArray) (gr nA:Int):yU ((lP a s gr nA).getD []):=Pa fun _=>HV
end Go.PM
namespace Go.PM
open Go.Lib
theorem QR:QN none = .eX [.tree [] .op,VB false]:=rfl
set_option maxHeartbeats 4000000 in
theorem FW (a s:ByteArray) (gr nA:Int) (ha:a.size≤1000000000) (hs:s.size≤1000000000):FC 31 [sV a,sV s,VI gr,VI nA] (W0 (CG ((lP a s gr nA).getD [])) (lP a s gr nA).isSome):=by
 refine FC.L9 ⟨true,false⟩ Gg (Nat.le_of_ble_eq_true rfl) fun n => ?_
 have eL:∀K,jQ false [.string ⟨#[]⟩] 2 [(0,sV a),(1,sV s)] K=some (.tree [sV a,sV s] (.cl 1),K):=fun K=>Qk rfl rfl rfl rfl rfl
 have e1:∀lo H K,cQ 92 [.tree [sV a,sV s] (.cl 1)] lo H K=K (QN (abQ [a,s])) H:=fun lo H K=>TC.cl (Ih [a,s] (by simp) (by simp[ha,hs])) rfl rfl (qY [a,s])
 have e2:=Ob gr 1 12
 have e3:=Ob nA 1 11
 have bad:lT a s gr nA=none→lP a s gr nA=none:=fun h=>by unfold lP HZ;rw[h];rfl
 cases hx:qT a with
 |
  none =>
  simp only[LR,hx] at e1
  obtain⟨f1,f2,f3⟩:=Li (n:=n) (bE:=lP a s gr nA) (A3 (n:=n) (K:=[])) (Nat.le_refl _) (bad (by unfold lT;rw[hx]))
  simp only[kI,iP,eL,e1,QR,f1,f2,dJ,xF,List.length_replicate,fW,VX,Nat.reduceEqDiff,Nat.reduceAdd,Nat.reduceLeDiff,Nat.reduceLT,Nat.reduceSub]
  exact f3
 | some x =>
 cases hy:qT s with
 |
  none =>
  simp only[LR,hx,hy] at e1
  obtain⟨f1,f2,f3⟩:=Li (n:=n) (bE:=lP a s gr nA) (A3 (n:=n) (K:=[])) (Nat.le_refl _) (bad (by unfold lT;rw[hx,hy]))
  simp only[kI,iP,eL,e1,QR,f1,f2,dJ,xF,List.length_replicate,fW,VX,Nat.reduceEqDiff,Nat.reduceAdd,Nat.reduceLeDiff,Nat.reduceLT,Nat.reduceSub]
  exact f3
 | some y =>
 have e1:∀lo H K,cQ 92 [.tree [sV a,sV s] (.cl 1)] lo H K=K (.eX [bI aQ [x,y],VB true]) H:=fun lo H K=>by rw[e1,LR,hx,hy];rfl
 by_cases hg:1≤gr∧gr≤12
 case neg =>
  rw[decide_eq_false hg] at e2
  obtain⟨f1,f2,f3⟩:=Li (n:=n) (bE:=lP a s gr nA) (A3 (n:=n) (K:=[])) (Nat.le_refl _) (bad (by unfold lT;rw[hx,hy];exact if_neg fun h=>hg h.1))
  simp only[kI,iP,eL,e1,e2,f1,f2,dJ,xF,List.length_replicate,fW,VX,Nat.reduceEqDiff,Nat.reduceAdd,Nat.reduceLeDiff,Nat.reduceLT,Nat.reduceSub]
  exact f3
 rw[decide_eq_true hg] at e2
 by_cases hl:1≤nA∧nA≤11
 case neg =>
  rw[decide_eq_false hl] at e3
  obtain⟨f1,f2,f3⟩:=Li (n:=n) (bE:=lP a s gr nA) (A3 (n:=n) (K:=[])) (Nat.le_refl _) (bad (by unfold lT;rw[hx,hy];exact if_neg fun h=>hl h.2))
  simp only[kI,iP,eL,e1,e2,e3,f1,f2,dJ,xF,List.length_replicate,fW,VX,Nat.reduceEqDiff,Nat.reduceAdd,Nat.reduceLeDiff,Nat.reduceLT,Nat.reduceSub]
  exact f3
 rw[decide_eq_true hl] at e3
 have hO:lT a s gr nA=some (nA.toNat+1,kZ x y gr.toNat nA.toNat (nA.toNat+1)):=by unfold lT;rw[hx,hy];exact if_pos ⟨hg,hl⟩
 have hQ:=HV hO
 have Cq:lP a s gr nA=uU (lZ (tM (nA.toNat+1,kZ x y gr.toNat nA.toNat (nA.toNat+1)))):=by unfold lP HZ;rw[hO];rfl
 rw[Cq]
 obtain⟨G,rfl⟩:∃G:Nat,gr=G:=⟨gr.toNat,by omega⟩
 obtain⟨M,rfl⟩:∃M:Nat,nA=M:=⟨nA.toNat,by omega⟩
 simp only[Int.toNat_natCast] at hQ ⊢
 have bx:=DM hx
 have bby:=DM hy
 have w1:IntKind.i64.wrap ((M:Int)+1)=((M+1:Nat):Int):=wrapN (M+1) (by omega) (by omega)
 have a0:∀H,bK 3 (bI aQ [x,y]) (VI 0) H=some ((aQ x).cU 0):=fun H=>aL (f:=aQ) (xs:=[x,y]) (i:=0) rfl rfl
 have a1:∀H,bK 3 (bI aQ [x,y]) (VI 1) H=some ((aQ y).cU 0):=fun H=>aL (f:=aQ) (xs:=[x,y]) (i:=1) rfl rfl
 simp only[kI,iP,eL,e1,e2,e3,w1,dJ,xF,List.length_replicate,fW,VX,Nat.reduceEqDiff,Nat.reduceAdd,Nat.reduceLeDiff,Nat.reduceLT,Nat.reduceSub]
 refine RB (by omega) (by simp) fun b g c L hc hT => ?_
 have uK:=bS (L:=L) (A3 (n:=n) (K:=[]))
 have hlen:(List.replicate n cG.dead++[Ca]).length=n+1:=by simp
 rw[hlen] at hT
 generalize List.replicate n cG.dead++[Ca]++L=H at *
 simp only[w1,fW,VX,Nat.reduceEqDiff,Nat.reduceAdd,Nat.reduceLeDiff,Nat.reduceLT,Nat.reduceSub]
 refine aT (fun(i:Nat) ρ H1=>i≤M+1∧aH H1 n 0=some ([.tree [] .nil],1,true)∧Tq aQ (n+1) H.length (M+1) b g (kZ x y G M i) H1∧ρ 2=VI G∧ρ 3=VI M∧ρ 8 = .ptr n 0 0 0∧ρ 10=bI aQ [x,y]∧ρ 12 = .ref b g 0 (M+1) c∧ρ 38=VI (M+1:Nat)∧ρ 39=VI i) (fun i=>M+1-i) 0
  ⟨Nat.zero_le _,uK,hT,by (repeat' apply And.intro)<;>first | rfl | trivial | assumption⟩ ?_
 clear uK hT
 rintro i ρ H1 ⟨hi,uK,hT,g2,g3,g8,g10,g12,g38,g39⟩
 have hgl:=Bz (x:=x) (y:=y) (gr:=G) (nA:=M) i
 by_cases dA:(i:Int)<((M+1:Nat):Int)
 ·have wi:IntKind.i64.wrap ((i:Int)+1)=((i+1:Nat):Int):=wrapN (i+1) (by omega) (by omega)
  have wm:min ((i+1:Nat):Int) (M:Int)=((min (i+1) M:Nat):Int):=by omega
  have ws:IntKind.i64.wrap ((i:Int)-(G:Int))=(i:Int)-(G:Int):=wrap64 (by omega) (by omega)
  have wx:max ((i:Int)-(G:Int)) 0=((i-G:Nat):Int):=by omega
  simp only[rC,g2,g3,g8,g10,g12,g38,g39,dA,wi,wm,a0,dK,fW,VX,Nat.reduceEqDiff,Nat.reduceAdd,Nat.reduceLeDiff,Nat.reduceLT,Nat.reduceSub]
  have hM1:min (i+1) M<M+1:=by omega
  refine Ok hT i (min (i+1) M) x (by omega) (by omega) (by omega) bx.1 (by omega) fun _ H2 o2 O8 => ?_
  simp only[g2,g3,g8,g10,g12,g38,g39,wi,wm,ws,wx,a1,dK,fW,VX,Nat.reduceEqDiff,Nat.reduceAdd,Nat.reduceLeDiff,Nat.reduceLT,Nat.reduceSub]
  refine Ok O8 i (i-G) y (by omega) (by omega) (by omega) bby.1 (by rw[List.length_append];simp only[List.length_cons,List.length_nil];omega) fun _ H3 o3 hT3 => ?_
  simp only[g39,wi,fW,VX,Nat.reduceEqDiff,Nat.reduceAdd,Nat.reduceLeDiff,Nat.reduceLT,Nat.reduceSub]
  exact⟨i+1,by omega,by omega,o3.2 _ _ _ (by omega) (o2.2 _ _ _ (by omega) uK),by rw[kZ];rw[List.append_assoc] at hT3;exact hT3,by (repeat' apply And.intro)<;>first | rfl | trivial | assumption⟩
 ·have oB:i=M+1:=by omega
  subst oB
  have Bk:=fR uK
  simp only[rC,g8,g12,g38,g39,dA,fW,VX,Nat.reduceEqDiff,Nat.reduceAdd,Nat.reduceLeDiff,Nat.reduceLT,Nat.reduceSub]
  have CJ:n≤H1.length:=by omega
  refine adC (H:=H1) (p:=(M+1,kZ x y G M (M+1))) hQ hT CJ fun r L2 hr => ?_
  simp only[g8,fW,VX,Nat.reduceEqDiff,Nat.reduceAdd,Nat.reduceLeDiff,Nat.reduceLT,Nat.reduceSub]
  refine Vx (Hp _ hQ.told.1 hQ.told.2) rfl (Zn (hr.fz gR)) (bS uK) (Nat.le_refl _) fun v H2 H3 t1 t2 t3 => ?_
  simp only[g8,t1,t2,fW,VX,Nat.reduceEqDiff,Nat.reduceAdd,Nat.reduceLeDiff,Nat.reduceLT,Nat.reduceSub]
  exact t3
end Go.PM
namespace Go.PM
open Go.Lib
theorem W3 {n lo hi b g c:Nat} {p:Nat×List E9} {H:aA} {K:VV→aA→Prop} (hp:QOk p) (hT:Tq bA lo hi p.1 b g p.2 H) (hn:n≤H.length)
  (hk:∀x L,TabIs bA 3 (lZ (tM p)) H.length (H++L).length (H++L) x→K x (H++L)):cQ 62 [.ref b g 0 p.1 c] n H K :=
 lB rfl (K1 (H:=H) (v := .ref b g 0 p.1 c) (tM p) (n:=p.1) (B:=600000) hT.t.rdT hn BM (by have:=hp.n;omega) (by decide) hp.rows hp.aoX) hk
theorem Nh (x y:Int):TC 91 [VI x,VI y] (VI (min x y)):=by
 refine TC.walk ⟨true,false⟩ MX rfl (Nat.le_of_ble_eq_true rfl) rfl rfl ?_
 by_cases h:x<y
 ·rw[show min x y=x by omega]
  simp only[C0,zQ,h,fW,VX,Nat.reduceEqDiff,Nat.reduceAdd,Nat.reduceLeDiff,Nat.reduceLT,Nat.reduceSub]
  exact aI rfl
 ·rw[show min x y=y by omega]
  simp only[C0,zQ,h,fW,VX,Nat.reduceEqDiff,Nat.reduceAdd,Nat.reduceLeDiff,Nat.reduceLT,Nat.reduceSub]
  exact aI rfl
theorem Nu {x:ByteArray} {q:Rat} (h:qT x=some q):BX (pQ x) = .eX [bA q,VB true]:=by
 obtain⟨h1,h2⟩:=Hx h
 rw[h1]
 unfold BX
 simp only[h2,decide_true]
theorem QF {x:ByteArray} (h:qT x=none):∃z,BX (pQ x) = .eX [z,VB false]∧(aB z).length=3∧(aB z).all bP=true:=by
 unfold qT at h
 cases hp:pQ x with
 | none=>exact⟨_,rfl,rfl,rfl⟩
 |
  some q =>
  rw[hp] at h
  by_cases h0:0<q
  ·simp only[h0,if_true] at h
   cases h
  ·exact⟨bA q,by unfold BX;simp only[h0,decide_false],pG q,qD q⟩
theorem SS {n k:Nat} {K:aA} {x y:VV} (hK:K[k]? = some (.row 0 [x] 3 true)) (hy:(aB y).length=3) (hs:(aB y).all bP=true):bQ n 3 (.ptr (n+k) 0 0 0) y (List.replicate n cG.dead++K)=some (List.replicate n cG.dead++K.set k (.row 0 [y] 3 true)):=by
 have hr:aH (List.replicate n cG.dead++K) (n+k) 0=some ([x],3,true):=by
  rw[wF,cH]
  exact hK
 rw[bU (e:=3) hr (by exact Nat.zero_lt_one) (by omega) hy hs,P5]
 rfl
set_option maxHeartbeats 4000000 in
theorem F3 (a s:ByteArray) (gr nA:Int) (ha:a.size≤1000000000) (hs:s.size≤1000000000):FC 30 [sV a,sV s,VI gr,VI nA] (W0 (CG ((lP a s gr nA).getD [])) (lP a s gr nA).isSome):=by
 refine FC.L9 ⟨true,false⟩ GC (Nat.le_of_ble_eq_true rfl) fun n => ?_
 have e1:=C9 a ha
 have e2:=C9 s hs
 have e3:=Gc gr 1 12
 have e4:=Jp nA
 have bad:lT a s gr nA=none→lP a s gr nA=none:=fun h=>by unfold lP HZ;rw[h];rfl
 have s1:∀y,(aB y).length=3→(aB y).all bP=true→bQ n 3 (.ptr (n+1) 0 0 0) y (List.replicate n cG.dead++[Ca,cell0])=some (List.replicate n cG.dead++[Ca,.row 0 [y] 3 true]):=fun y h1 h2=>SS rfl h1 h2
 have s2:∀x y,(aB y).length=3→(aB y).all bP=true→bQ n 3 (.ptr (n+2) 0 0 0) y (List.replicate n cG.dead++[Ca,.row 0 [x] 3 true,cell0])=some (List.replicate n cG.dead++[Ca,.row 0 [x] 3 true,.row 0 [y] 3 true]):=fun x y h1 h2=>SS (k:=2) rfl h1 h2
 obtain⟨zx,bx,k1,k2,k3,k4⟩:∃zx bx,BX (pQ a) = .eX [zx,VB bx]∧(aB zx).length=3∧(aB zx).all bP=true∧(bx=(qT a).isSome∧∀q,qT a=some q→zx=bA q):=by
  cases hx:qT a with
  | none=>obtain⟨z,h1,h2,h3⟩:=QF hx;exact⟨z,false,h1,h2,h3,rfl,fun q h=>by cases h⟩
  | some q=>exact⟨bA q,true,Nu hx,pG q,qD q,rfl,fun p h=>by cases h;rfl⟩
 obtain⟨zy,bby,j1,j2,j3,j4⟩:∃zx bx,BX (pQ s) = .eX [zx,VB bx]∧(aB zx).length=3∧(aB zx).all bP=true∧(bx=(qT s).isSome∧∀q,qT s=some q→zx=bA q):=by
  cases hx:qT s with
  | none=>obtain⟨z,h1,h2,h3⟩:=QF hx;exact⟨z,false,h1,h2,h3,rfl,fun q h=>by cases h⟩
  | some q=>exact⟨bA q,true,Nu hx,pG q,qD q,rfl,fun p h=>by cases h;rfl⟩
 rw[k1] at e1
 rw[j1] at e2
 have t1:=s1 zx k2 k3
 have t2:=s2 zx zy j2 j3
 have uK:aH (List.replicate n cG.dead++[Ca,.row 0 [zx] 3 true,.row 0 [zy] 3 true]) n 0=some ([.tree [] .nil],1,true):=by rw[zI,aS]
 cases hO:lT a s gr nA with
 |
  none =>
  obtain⟨f1,f2,f3⟩:=Li (n:=n) (bE:=lP a s gr nA) uK (Nat.le_refl _) (bad hO)
  cases bx with
  |
   false =>
   simp only[kJ,iQ,e1,e2,t1,t2,f1,f2,Bool.not_true,Bool.not_false,dJ,xF,List.length_replicate,List.length_cons,List.length_nil,List.append_assoc,List.cons_append,List.nil_append,fW,VX,Nat.reduceEqDiff,Nat.reduceAdd,Nat.reduceLeDiff,Nat.reduceLT,Nat.reduceSub]
   exact f3
  | true =>
  cases bby with
  |
   false =>
   simp only[kJ,iQ,e1,e2,t1,t2,f1,f2,Bool.not_true,Bool.not_false,dJ,xF,List.length_replicate,List.length_cons,List.length_nil,List.append_assoc,List.cons_append,List.nil_append,fW,VX,Nat.reduceEqDiff,Nat.reduceAdd,Nat.reduceLeDiff,Nat.reduceLT,Nat.reduceSub]
   exact f3
  | true =>
  by_cases hg:1≤gr∧gr≤12
  case neg =>
   rw[decide_eq_false hg] at e3
   simp only[kJ,iQ,e1,e2,e3,t1,t2,f1,f2,Bool.not_true,Bool.not_false,dJ,xF,List.length_replicate,List.length_cons,List.length_nil,List.append_assoc,List.cons_append,List.nil_append,fW,VX,Nat.reduceEqDiff,Nat.reduceAdd,Nat.reduceLeDiff,Nat.reduceLT,Nat.reduceSub]
   exact f3
  rw[decide_eq_true hg] at e3
  by_cases hl:1≤nA∧nA≤11
  case neg =>
   rw[decide_eq_false hl] at e4
   simp only[kJ,iQ,e1,e2,e3,e4,t1,t2,f1,f2,Bool.not_true,Bool.not_false,dJ,xF,List.length_replicate,List.length_cons,List.length_nil,List.append_assoc,List.cons_append,List.nil_append,fW,VX,Nat.reduceEqDiff,Nat.reduceAdd,Nat.reduceLeDiff,Nat.reduceLT,Nat.reduceSub]
   exact f3
  exfalso
  obtain⟨x,hx⟩:=Option.isSome_iff_exists.1 k4.1.symm
  obtain⟨y,hy⟩:=Option.isSome_iff_exists.1 j4.1.symm
  have:lT a s gr nA=some (nA.toNat+1,kZ x y gr.toNat nA.toNat (nA.toNat+1)):=by unfold lT;rw[hx,hy];exact if_pos ⟨hg,hl⟩
  rw[this] at hO
  cases hO
 |
  some p =>
  have hQ:=HV hO
  have Cq:lP a s gr nA=uU (lZ (tM p)):=by unfold lP HZ;rw[hO];rfl
  rw[Cq]
  cases hx:qT a with
  | none=>unfold lT at hO;rw[hx] at hO;cases hO
  | some x =>
  cases hy:qT s with
  | none=>unfold lT at hO;rw[hx,hy] at hO;cases hO
  | some y =>
  by_cases hc:(1≤gr∧gr≤12)∧1≤nA∧nA≤11
  case neg =>
   exfalso
   have:lT a s gr nA=none:=by unfold lT;rw[hx,hy];exact if_neg hc
   rw[this] at hO
   cases hO
  have:lT a s gr nA=some (nA.toNat+1,kZ x y gr.toNat nA.toNat (nA.toNat+1)):=by unfold lT;rw[hx,hy];exact if_pos hc
  rw[this] at hO
  obtain rfl:=Option.some.inj hO
  obtain⟨hg,hl⟩:=hc
  rw[hx] at k4
  rw[hy] at j4
  obtain⟨rfl,k5⟩:=k4
  obtain⟨rfl,j5⟩:=j4
  obtain rfl:=k5 x rfl
  obtain rfl:=j5 y rfl
  rw[decide_eq_true hg] at e3
  rw[decide_eq_true hl] at e4
  obtain⟨G,rfl⟩:∃G:Nat,gr=G:=⟨gr.toNat,by omega⟩
  obtain⟨M,rfl⟩:∃M:Nat,nA=M:=⟨nA.toNat,by omega⟩
  simp only[Int.toNat_natCast,Option.isSome_some] at hQ e1 e2 ⊢
  have bx:=DM hx
  have bby:=DM hy
  have w1:IntKind.i64.wrap ((M:Int)+1)=((M+1:Nat):Int):=wrapN (M+1) (by omega) (by omega)
  simp only[kJ,iQ,e1,e2,e3,e4,t1,t2,w1,Bool.not_true,Bool.not_false,dJ,xF,List.length_replicate,List.length_cons,List.length_nil,List.append_assoc,List.cons_append,List.nil_append,fW,VX,Nat.reduceEqDiff,Nat.reduceAdd,Nat.reduceLeDiff,Nat.reduceLT,Nat.reduceSub]
  have r1:aH (List.replicate n cG.dead++[Ca,.row 0 [bA x] 3 true,.row 0 [bA y] 3 true]) (n+1) 0=some ([bA x],3,true):=by rw[wF,iM,aS]
  have r2:aH (List.replicate n cG.dead++[Ca,.row 0 [bA x] 3 true,.row 0 [bA y] 3 true]) (n+2) 0=some ([bA y],3,true):=by rw[wF,iM,iM,aS]
  refine Rk (by omega) (by simp) fun b g c L hc hT => ?_
  have uK:=bS (L:=L) uK
  have r1:=bS (L:=L) r1
  have r2:=bS (L:=L) r2
  have hlen:(List.replicate n cG.dead++[Ca,.row 0 [bA x] 3 true,.row 0 [bA y] 3 true]).length=n+3:=by simp
  rw[hlen] at hT
  generalize List.replicate n cG.dead++[Ca,.row 0 [bA x] 3 true,.row 0 [bA y] 3 true]++L=H at *
  simp only[fW,VX,Nat.reduceEqDiff,Nat.reduceAdd,Nat.reduceLeDiff,Nat.reduceLT,Nat.reduceSub]
  refine aT (fun(i:Nat) ρ H1=>i≤M+1∧aH H1 n 0=some ([.tree [] .nil],1,true)∧aH H1 (n+1) 0=some ([bA x],3,true)∧aH H1 (n+2) 0=some ([bA y],3,true)∧Tq bA (n+3) H.length (M+1) b g (kZ x y G M i) H1∧ρ 2=VI G∧ρ 3=VI M∧ρ 8 = .ptr n 0 0 0∧ρ 10 = .ptr (n+1) 0 0 0∧ρ 12 = .ptr (n+2) 0 0 0∧ρ 14 = .ref b g 0 (M+1) c∧ρ 15=VI i) (fun i=>M+1-i) 0
   ⟨Nat.zero_le _,uK,r1,r2,hT,by (repeat' apply And.intro)<;>first | rfl | trivial | assumption⟩ ?_
  clear uK r1 r2 hT
  rintro i ρ H1 ⟨hi,uK,r1,r2,hT,g2,g3,g8,g10,g12,g14,g15⟩
  have hgl:=Bz (x:=x) (y:=y) (gr:=G) (nA:=M) i
  by_cases dA:(i:Int)≤(M:Int)
  ·have wi:IntKind.i64.wrap ((i:Int)+1)=((i+1:Nat):Int):=wrapN (i+1) (by omega) (by omega)
   have em:=Nh i G
   have ws:IntKind.i64.wrap ((i:Int)-min (i:Int) (G:Int))=((i-G:Nat):Int):=by rw[show (i:Int)-min (i:Int) (G:Int)=((i-G:Nat):Int) by omega];exact wrap64 (by omega) (by omega)
   have fin:∀H2,JG (n+3) H.length H1 H2→Tq bA (n+3) H.length (M+1) b g (kZ x y G M i++[(i,min (i+1) M,x)]) H2→∀H3,JG (n+3) H.length H2 H3→Tq bA (n+3) H.length (M+1) b g (kZ x y G M i++[(i,min (i+1) M,x)]++[(i,i-G,y)]) H3 →
     aH H3 n 0=some ([.tree [] .nil],1,true)∧aH H3 (n+1) 0=some ([bA x],3,true)∧aH H3 (n+2) 0=some ([bA y],3,true)∧Tq bA (n+3) H.length (M+1) b g (kZ x y G M (i+1)) H3:=fun H2 o2 _ H3 o3 hT3 =>
    ⟨o3.2 _ _ _ (by omega) (o2.2 _ _ _ (by omega) uK),o3.2 _ _ _ (by omega) (o2.2 _ _ _ (by omega) r1),o3.2 _ _ _ (by omega) (o2.2 _ _ _ (by omega) r2),by rw[kZ];rw[List.append_assoc] at hT3;exact hT3⟩
   by_cases bH:(i:Int)<(M:Int)
   ·have R9:min (i+1) M=i+1:=by omega
    rw[R9] at fin
    simp only[mX,g2,g3,g8,g10,g12,g14,g15,dA,bH,wi,aaS r1,fW,VX,Nat.reduceEqDiff,Nat.reduceAdd,Nat.reduceLeDiff,Nat.reduceLT,Nat.reduceSub]
    refine K4 hT i (i+1) x (by omega) (by omega) (by omega) bx.1 (by omega) fun _ H2 o2 O8 => ?_
    have q2:=o2.2 _ _ _ (by omega) r2
    simp only[g2,g3,g8,g10,g12,g14,g15,em,ws,aaS q2,fW,VX,Nat.reduceEqDiff,Nat.reduceAdd,Nat.reduceLeDiff,Nat.reduceLT,Nat.reduceSub]
    refine K4 O8 i (i-G) y (by omega) (by omega) (by omega) bby.1 (by rw[List.length_append];simp only[List.length_cons,List.length_nil];omega) fun _ H3 o3 hT3 => ?_
    obtain⟨v1,v2,v3,v4⟩:=fin H2 o2 O8 H3 o3 hT3
    simp only[g15,wi,fW,VX,Nat.reduceEqDiff,Nat.reduceAdd,Nat.reduceLeDiff,Nat.reduceLT,Nat.reduceSub]
    exact⟨i+1,by omega,by omega,v1,v2,v3,v4,by (repeat' apply And.intro)<;>first | rfl | trivial | assumption⟩
   ·have hiM:i=M:=by omega
    have R9:min (i+1) M=i:=by omega
    rw[R9] at fin
    have O8:=hT.same (i:=i) (q:=x) bx.1 (by omega)
    simp only[mX,g2,g3,g8,g10,g12,g14,g15,dA,bH,wi,em,ws,aaS r2,fW,VX,Nat.reduceEqDiff,Nat.reduceAdd,Nat.reduceLeDiff,Nat.reduceLT,Nat.reduceSub]
    refine K4 O8 i (i-G) y (by omega) (by omega) (by omega) bby.1 (by rw[List.length_append];simp only[List.length_cons,List.length_nil];omega) fun _ H3 o3 hT3 => ?_
    obtain⟨v1,v2,v3,v4⟩:=fin H1 JG.refl O8 H3 o3 hT3
    simp only[g15,wi,fW,VX,Nat.reduceEqDiff,Nat.reduceAdd,Nat.reduceLeDiff,Nat.reduceLT,Nat.reduceSub]
    exact⟨i+1,by omega,by omega,v1,v2,v3,v4,by (repeat' apply And.intro)<;>first | rfl | trivial | assumption⟩
  ·have oB:i=M+1:=by omega
   subst oB
   have Bk:=fR uK
   have CJ:n≤H1.length:=by omega
   simp only[mX,g3,g8,g14,g15,dA,fW,VX,Nat.reduceEqDiff,Nat.reduceAdd,Nat.reduceLeDiff,Nat.reduceLT,Nat.reduceSub]
   refine W3 (H:=H1) (p:=(M+1,kZ x y G M (M+1))) hQ hT CJ fun r L2 hr => ?_
   simp only[g8,fW,VX,Nat.reduceEqDiff,Nat.reduceAdd,Nat.reduceLeDiff,Nat.reduceLT,Nat.reduceSub]
   refine Vx (JK _ hQ.told.1 hQ.told.2) rfl (Zn (hr.fz Fq)) (bS uK) (Nat.le_refl _) fun v H2 H3 t1 t2 t3 => ?_
   simp only[g8,t1,t2,fW,VX,Nat.reduceEqDiff,Nat.reduceAdd,Nat.reduceLeDiff,Nat.reduceLT,Nat.reduceSub]
   exact t3
end Go.PM
namespace Go.PM
def lF:aD:=(LS [LO 8 (.mv LF)] (.seq (LS [LM 17 0,LO 18 (.slen (LT 17)),LM 19 1,LO 20 (.slen (LT 19)),LO 21 (.bin .add (LT 18) (LT 20)),LO 22 (.bin .gtr (LT 21) (LI 1000000))] (.cond (LT 22) (LS [LO 8 (.mv LG)] .ret) .skip)) (LS [LM 24 0,LM 25 1,LM 26 2,LM 27 3,LO 28 (.call 30 [(LT 24),(LT 25),(LT 26),(LT 27)]),LM 23 28,LO 29 (LX 23 0),LO 30 (LX 23 1),LO 9 (.new [(.slice none 0 0)]),LN (.store 1 (LT 9) (LT 29)),LM 10 30] (LS [LM 32 0,LM 33 1,LM 34 2,LM 35 3,LO 36 (.call 31 [(LT 32),(LT 33),(LT 34),(LT 35)]),LM 31 36,LO 37 (LX 31 0),LO 38 (LX 31 1),LO 11 (.new [(.slice none 0 0)]),LN (.store 1 (LT 11) (LT 37)),LM 12 38] (.seq (LS [LO 39 (.load true 1 (LT 11)),LO 40 (.load true 1 (LT 9)),LO 41 (.call 19 [(LT 39),(LT 40)]),LO 42 (.un .not (LT 41)),LM 43 42,LZ 43 44 (.mv (LT 12)),LZ 43 45 (.mv (LT 10)),LZ 43 46 (.eqb true (LT 44) (LT 45)),LO 47 (.pick (LT 43) LG (LT 46))] (.cond (LT 47) (LS [LO 8 (.mv LF)] .ret) .skip)) (LS [LO 13 (.mv (LI 101))] (LS [LO 48 (.load true 1 (LT 11)),LM 49 13,LO 50 (.call 22 [(LT 48),(LT 49)]),LM 13 50] (LS [LO 14 (.mv (LI 101))] (LS [LO 51 (.load true 1 (LT 11)),LM 52 14,LO 53 (.call 23 [(LT 51),(LT 52)]),LM 14 53] (.seq (LS [LM 54 14,LO 55 (.bin .lss (LT 54) (LI 0))] (.cond (LT 55) (LS [LO 8 (.mv LF)] .ret) .skip)) (.seq (LS [LM 56 14,LM 57 13,LO 58 (.bin .neq (LT 56) (LT 57))] (.cond (LT 58) (LS [LO 8 (.mv LF)] .ret) .skip)) (LS [LM 60 0,LM 61 1,LM 62 2,LM 63 3,LO 64 (.call 31 [(LT 60),(LT 61),(LT 62),(LT 63)]),LM 59 64,LO 65 (LX 59 0),LO 66 (LX 59 1),LO 15 (.new [(.slice none 0 0)]),LN (.store 1 (LT 15) (LT 65)),LM 16 66] (.seq (LS [LO 67 (.load true 1 (LT 15)),LO 68 (.load true 1 (LT 9)),LO 69 (.call 19 [(LT 67),(LT 68)]),LO 70 (.un .not (LT 69)),LM 71 70,LZ 71 72 (.mv (LT 16)),LZ 71 73 (.mv (LT 10)),LZ 71 74 (.eqb true (LT 72) (LT 73)),LO 75 (.pick (LT 71) LG (LT 74))] (.cond (LT 75) (LS [LO 8 (.mv LF)] .ret) .skip)) (LS [LO 14 (.mv (LI 101))] (LS [LO 76 (.load true 1 (LT 11)),LM 77 14,LO 78 (.call 23 [(LT 76),(LT 77)]),LM 14 78] (.seq (LS [LM 79 14,LO 80 (.bin .lss (LT 79) (LI 0))] (.cond (LT 80) (LS [LO 8 (.mv LF)] .ret) .skip)) (.seq (LS [LM 81 14,LM 82 13,LO 83 (.bin .neq (LT 81) (LT 82))] (.cond (LT 83) (LS [LO 8 (.mv LF)] .ret) .skip)) (LS [LO 8 (.mv LG)] .ret))))))))))))))))))
def mZ:aR:=⟨84,[(.tmp 8)],lF⟩
theorem zW:fV 5=some mZ:=by kernel_rfl
end Go.PM
namespace Go.PM
set_option maxHeartbeats 4000000 in
theorem Ad (s0:ByteArray) (s1:ByteArray) (t2:Int) (t3:Int) (YB:s0.size≤140737488351232) (hx1:s1.size≤140737488351232):TC 5 [sV s0,sV s1,VI t2,VI t3] (.sc (.bool true)):=by
 refine TC.walk ⟨true,false⟩ zW rfl (Nat.le_of_ble_eq_true rfl) (ZI rfl rfl rfl rfl) rfl ?_
 have w1:IntKind.i64.wrap ((s0.size:Int)+(s1.size:Int))=(s0.size:Int)+(s1.size:Int):=wrap64 (by omega) (by omega)
 by_cases agD:(1000000:Int)<(s0.size:Int)+(s1.size:Int)
 ·simp only[mZ,lF,zN,w1,agD,fW,VX,Nat.reduceEqDiff,Nat.reduceAdd,Nat.reduceLeDiff,Nat.reduceLT,Nat.reduceSub]
  exact aI rfl
 have hb0:s0.size≤1000000000:=by omega
 have D2:s1.size≤1000000000:=by omega
 have cs:=F3 s0 s1 t2 t3 hb0 D2
 have ci:=FW s0 s1 t2 t3 hb0 D2
 have RZ:=Pp s0 s1 t2 t3
 have hsn:=RZ.n
 generalize Cq:(lP s0 s1 t2 t3).getD []=val at *
 generalize (lP s0 s1 t2 t3).isSome=ok at *
 simp only[mZ,lF,w1,zN,agD,fW,VX,Nat.reduceEqDiff,Nat.reduceAdd,Nat.reduceLeDiff,Nat.reduceLT,Nat.reduceSub]
 refine Kd cs rfl (fz4 (aI rfl) (aI rfl) (aI rfl) (aI rfl)) CG.cK fun v1 H1 p1 v1' => ?_
 simp only[fW,VX,Nat.reduceEqDiff,Nat.reduceAdd,Nat.reduceLeDiff,Nat.reduceLT,Nat.reduceSub]
 have w1:=UC (lo:=0) (H:=H1) v1'.ag3 (Nat.zero_le _)
 simp only[w1,fW,VX,Nat.reduceEqDiff,Nat.reduceAdd,Nat.reduceLeDiff,Nat.reduceLT,Nat.reduceSub]
 have p2:=List.prefix_append H1 [.row 0 [v1] 1 true]
 have q1:aH (H1++[.row 0 [v1] 1 true]) H1.length 0=some ([v1],1,true):=fN
 generalize eh2:H1++[.row 0 [v1] 1 true]=H2 at *
 refine Kd ci rfl (fz4 (aI rfl) (aI rfl) (aI rfl) (aI rfl)) CG.cK fun v3 H3 p3 v3' => ?_
 simp only[fW,VX,Nat.reduceEqDiff,Nat.reduceAdd,Nat.reduceLeDiff,Nat.reduceLT,Nat.reduceSub]
 have w3:=UC (lo:=0) (H:=H3) v3'.ag3 (Nat.zero_le _)
 simp only[w3,fW,VX,Nat.reduceEqDiff,Nat.reduceAdd,Nat.reduceLeDiff,Nat.reduceLT,Nat.reduceSub]
 have p4:=List.prefix_append H3 [.row 0 [v3] 1 true]
 have q3:aH (H3++[.row 0 [v3] 1 true]) H3.length 0=some ([v3],1,true):=fN
 generalize eh4:H3++[.row 0 [v3] 1 true]=H4 at *
 have W4:=v1'.cK (dI.pre ((p2.trans p3).trans p4))
 have G4:=v3'.cK (dI.pre p4)
 have cW4:=cS (p3.trans p4) q1
 have cG4:=q3
 have aW:=v1'.ag3
 have aG:=v3'.ag3
 have le1:=p1.length_le
 have le2:=p2.length_le
 have le3:=p3.length_le
 have le4:=p4.length_le
 have bW:=fR q1
 have bG:=fR q3
 have kb:MY true (Value.bool ok) (Value.bool ok)=some (.bool false):=YG ok
 simp only[NS aG cG4,NS aW cW4,ahN RZ G4.fz W4.fz,kb,fW,VX,Nat.reduceEqDiff,Nat.reduceAdd,Nat.reduceLeDiff,Nat.reduceLT,Nat.reduceSub]
 refine aeQ G4 (Nat.zero_le _) (by omega) (by have:=RZ.g;omega) (by omega) fun M1 ml mG mk => ?_
 have k0:¬(101+(cW val:Int))<0:=by omega
 have k1:¬((101+(cW val:Int))≠(101+(cW val:Int))):=fun h=>h rfl
 have mW:=W4.cK (H':=M1) fun b g x h1 h2 h3=>mk b g x (by omega) h3
 have mcW:=mk _ _ _ (by omega) cW4
 have mcG:=mk _ _ _ (by omega) cG4
 simp only[NS aG mcG,U9 RZ mG.fz,k0,ne_eq,not_true_eq_false,decide_false,fW,VX,Nat.reduceEqDiff,Nat.reduceAdd,Nat.reduceLeDiff,Nat.reduceLT,Nat.reduceSub]
 generalize M1=H5 at *
 refine Kd ci rfl (fz4 (aI rfl) (aI rfl) (aI rfl) (aI rfl)) CG.cK fun v6 H6 p6 v6' => ?_
 simp only[fW,VX,Nat.reduceEqDiff,Nat.reduceAdd,Nat.reduceLeDiff,Nat.reduceLT,Nat.reduceSub]
 have w6:=UC (lo:=0) (H:=H6) v6'.ag3 (Nat.zero_le _)
 simp only[w6,fW,VX,Nat.reduceEqDiff,Nat.reduceAdd,Nat.reduceLeDiff,Nat.reduceLT,Nat.reduceSub]
 have p7:=List.prefix_append H6 [.row 0 [v6] 1 true]
 have q6:aH (H6++[.row 0 [v6] 1 true]) H6.length 0=some ([v6],1,true):=fN
 generalize eh7:H6++[.row 0 [v6] 1 true]=H7 at *
 have aX:=v6'.ag3
 have X1:=v6'.cK (dI.pre p7)
 have cX:=q6
 have nW:=mW.cK (dI.pre (p6.trans p7))
 have nG:=mG.cK (dI.pre (p6.trans p7))
 have ncW:=cS (p6.trans p7) mcW
 have ncG:=cS (p6.trans p7) mcG
 simp only[NS aX cX,NS aW ncW,NS aG ncG,ahN RZ X1.fz nW.fz,kb,U9 RZ nG.fz,k0,ne_eq,not_true_eq_false,decide_false,fW,VX,Nat.reduceEqDiff,Nat.reduceAdd,Nat.reduceLeDiff,Nat.reduceLT,Nat.reduceSub]
 exact aI rfl
end Go.PM
namespace Go.PM
open Go.Proofs
theorem EB {P:Program} {w:World} {name:String} {d:DataW Unit}:∀ {l:List (String×DataW Unit)} {ps:List MemPlace},DataW.LaidVars P w l ps→(name,d)∈l →
  ∃g t cs fuel p,P.globalNamed name=some g∧(P.globals[g]?).map (·.type)=some t∧w.var? P name=some cs∧DataW.trod (fun _=>()) P w 0 (fun _=>true) false fuel t cs.toList=some (d,p)
 | [],_,_,hm=>by cases hm
 |
  (n,e)::r,ps,h,hm=>by
  obtain⟨g,t,cs,fuel,p,q,h1,h2,h3,h4,h5,_⟩:=h
  rcases List.mem_cons.1 hm with he | hm
  ·cases he
   exact⟨g,t,cs,fuel,p,h1,h2,h3,h4⟩
  ·exact EB h5 hm
theorem Kg {W:World} {l:List (String×DataW Unit)} (hl:laidMetH Tryz.prog l W) (hp:(l.all fun x=>x.2.handleName?.isNone)=true) (hm:("internal/strconv.uint64pow10",Lib.tabData .u64 Lib.pow10Tab)∈l)
  {t e:TypeId} {n:Nat} (hty:(Tryz.prog.globals[3]?).map (·.type)=some t) (ht:Tryz.prog.underlying t=some (.array n e)) (he:Tryz.prog.underlying e=some (.int .u64)) (hce:Tryz.prog.cellsOf e=1) (hct:Tryz.prog.cellsOf t=n):PE W:=by
 rw[MakeChecks.laidMetH_plain _ _ _ hp] at hl
 obtain⟨ps,h1,_⟩:=hl
 obtain⟨g',t',cs,fuel,p,hg',ht',Zt,hd⟩:=EB h1 hm
 have hg:Tryz.prog.globalNamed "internal/strconv.uint64pow10"=some 3:=by kernel_rfl
 obtain rfl:=Option.some.inj (hg.symm.trans hg')
 obtain rfl:=Option.some.inj (hty.symm.trans ht')
 have W6:=Lib.cells_of_tab ht he hce hct hd
 intro x hx
 have Uy:x=(3,(Lib.pow10Tab.map fun z=>Value.int .u64 z).toArray):=by simpa[aeC] using hx
 subst Uy
 unfold World.var? at Zt
 rw[hg,Option.bind_some] at Zt
 split at Zt
 ·rename_i AE e' fz' hh
  cases Zt
  refine⟨e',fz',?_⟩
  rw[←W6]
  simpa using hh
 ·cases Zt
end Go.PM