/- Texts of a claim, in one: part 13. -/
import Derived.KernelRfl
import Derived.Lib.LaidTab
import Derived.LaidLaws
import Derived.LaidMore
import Derived.MakeChecks
import Derived.Handed
import Derived.Test.YtjmflicajplclaaGreatDoorKWl
set_option linter.unusedSimpArgs false
set_option linter.unusedVariables false
namespace Go.PM
open Go.Lib
theorem nF (q:Rat):(aB (bB q)).length=3:=rfl
theorem KO (qs:List Rat):aN (aS bB qs)=true:=lT nF Bq
theorem Yf (q:Rat):Aa (bB q)=true:=by simp[Aa,bB,bY,hJ]
theorem Ys (qs:List Rat):gJ (aS bB qs)=true:=xZ nF Og Yf
set_option maxHeartbeats 1000000 in
theorem Iu {lo:Nat} {H:aA} {q:Rat} (h:lo≤H.length):bR lo 3 (.ptr H.length 0 0 0) (bB q) (H++[cell0])=some (H++[.row 0 [bB q] 3 true]):=by
 rw[bX (g:=0) (e:=3) (j:=0) fN (by exact Nat.zero_lt_one) h rfl rfl,Gm]
 rfl
theorem Y3 {H K:aA} {q:Rat}:bT true 3 (.ptr H.length 0 0 0) (H ++ .row 0 [bB q] 3 true::K)=some (bB q):=by
 rw[bQ,wO,bA]
 exact fF _
theorem Cd {lo:Nat} {H:aA} {v:VV} (qs:List Rat) {B:Nat} (hv:Rd bB 3 qs H v) (dK:lo≤H.length) (hb:∀q∈qs,aY q≤B) (hk:qs.length*(B+1)+1≤1099511627776) (hB:B≤1099511627776) (hn:qs.length≤1000000000) :
  gU 60 [v] lo H (F5 (fun _ _ _ r=>r=bB (dY qs)) H):=by
 refine gU.walk ⟨true,false⟩ JW (Nat.le_of_ble_eq_true rfl) ?_
 have e1:=yK
 have e2:=hv.len (H++[cell0,.row 0 [bB 0] 3 true]) (List.prefix_append _ _)
 have s0:bR lo 3 (.ptr (H.length+1) 0 0 0) (bB 0) (H++[cell0,cell0])=some (H++[cell0,.row 0 [bB 0] 3 true]):=by
  have:=Iu (lo:=lo) (H:=H++[cell0]) (q:=0) (by rw[List.length_append];omega)
  simpa only[List.length_append,List.length_cons,List.length_nil,Nat.zero_add,List.append_assoc,List.cons_append,List.nil_append] using this
 simp only[Eo,Cj,e1,e2,s0,List.length_append,List.length_cons,List.length_nil,List.append_assoc,List.cons_append,List.nil_append,fB,VX,Nat.reduceEqDiff,Nat.reduceAdd,Nat.reduceLeDiff,Nat.reduceLT,Nat.reduceSub]
 refine aT (fun(i:Nat) ρ H1=>i≤qs.length∧H <+: H1∧aI H1 H.length 0=some ([rz],3,true)∧aI H1 (H.length+1) 0=some ([bB (dY (qs.take i))],3,true)∧ρ 2 = .ptr H.length 0 0 0∧ρ 3 = .ptr (H.length+1) 0 0 0∧ρ 0=v∧ρ 7=VI qs.length∧ρ 8=VI i) (fun i=>qs.length-i) 0 ⟨Nat.zero_le _,List.prefix_append _ _,wO.trans bA,Px.trans (lP.trans bA),rfl,rfl,rfl,rfl,rfl⟩ ?_
 rintro i ρ H1 ⟨hi,hp,Cu,FO,g2,g3,g0,g7,g8⟩
 have Ct:=gN FO
 have s3:bT true 3 (.ptr (H.length+1) 0 0 0) H1=some (bB (dY (qs.take i))):=by
  rw[bQ,FO]
  exact fF _
 by_cases dA:(i:Int)<(qs.length:Int)
 ·obtain⟨q,hq⟩:∃q,qs[i]? = some q:=⟨_,List.getElem?_eq_getElem (by omega)⟩
  obtain⟨p,a1,a2⟩:=hv.get H1 hp i q hq
  have a2':=(a2 true).trans (fF _)
  have wi:IntKind.i64.wrap ((i:Int)+1)=((i+1:Nat):Int):=wrapN (i+1) (by omega) (by omega)
  have h1:=E8 hb i
  have h2:=hb q (List.mem_of_getElem? hq)
  have h3:(i+1)*(B+1)≤qs.length*(B+1):=Nat.mul_le_mul_right _ (by omega)
  have e3:=zZ (dY (qs.take i)) q (by omega) (by omega)
  rw[←AM hq] at e3
  have s4:=bX (lo:=lo) (v:=bB (dY (qs.take (i+1)))) (j:=0) FO (by exact Nat.zero_lt_one) (by omega) rfl rfl
  rw[List.set_cons_zero] at s4
  simp only[uC,g2,g3,g0,g7,g8,dA,a1,a2',e3,s3,s4,wi,fB,VX,Nat.reduceEqDiff,Nat.reduceAdd,Nat.reduceLeDiff,Nat.reduceLT,Nat.reduceSub]
  exact⟨i+1,by omega,by omega,kS hp (by omega),cD (by omega) Cu,bZ FO,by (repeat' apply And.intro)<;>first | rfl | trivial | assumption⟩
 ·have nZ:i=qs.length:=by omega
  subst nZ
  rw[List.take_length] at s3
  have s4:=bX (lo:=lo) (v:=bB (dY qs)) (j:=0) Cu (by exact Nat.zero_lt_one) dK rfl rfl
  rw[List.set_cons_zero] at s4
  have s5:bT true 3 (.ptr H.length 0 0 0) (H1.set H.length (.row 0 [bB (dY qs)] 3 true))=some (bB (dY qs)):=by
   rw[bQ,bZ Cu]
   exact fF _
  simp only[uC,g2,g3,g7,g8,dA,s3,s4,s5,fB,VX,Nat.reduceEqDiff,Nat.reduceAdd,Nat.reduceLeDiff,Nat.reduceLT,Nat.reduceSub]
  exact⟨kS hp (Nat.le_refl _),rfl⟩
theorem U2 {q:Rat}:q.num<0↔q<0:=by rw[←Int.not_le,Rat.num_nonneg];constructor<;>intro h<;>grind
end Go.PM
namespace Go.PM
open Go.Lib
end Go.PM
namespace Go.PM
def vJ:aD:=(LS [LO 15 (.bin .lss (LT 14) (LT 13))] (.seq (.cond (LT 15) .skip (.exit 0)) (.seq (.block 1 (LS [LM 16 14,LM 5 16] (LS [LM 18 0,LO 19 (.chk (LT 18)),LO 20 (LA 0 19),LO 21 (LL 20),LM 22 5,LO 23 (.iaddr 1 (LT 21) (LT 22)),LO 24 (LL 23),LO 25 (.call 181 [(LT 24)]),LM 17 25,LO 26 (LX 17 0),LO 27 (LX 17 1),LM 6 26,LM 7 27] (.seq (LS [LM 28 7,LO 29 (.un .not (LT 28))] (.cond (LT 29) (LS [LO 30 (.build [(.slice none 0 0)] [(0,1)] []),LN (.store 1 (LT 2) (LT 30)),LO 3 (.mv LF)] .ret) .skip)) (.dG [LO 31 (LA 0 4),LO 32 (LL 31),LM 33 6,LO 34 (.lit [(.slice none 0 0)] 1 [(0,(LT 33))]),LO 35 (.app 1 24 (LT 32) (LT 34)),LO 36 (LA 0 4),LN (.store 1 (LT 36) (LT 35))]))))) (.dG [LO 37 (.bin .add (LT 14) (LI 1)),LM 14 37]))))
def Dd:aD:=(LS [LO 2 (.new [(.slice none 0 0)]),LO 3 (.mv LF)] (LS [LO 8 (.build [(.slice none 0 0)] [(0,1)] []),LO 4 (.new [(.slice none 0 0)]),LN (.store 1 (LT 4) (LT 8))] (.seq (LS [LM 9 0,LO 10 (.chk (LT 9)),LO 11 (LA 0 10),LO 12 (LL 11),LO 13 (.len (LT 12)),LO 14 (.mv (LI 0))] (.block 0 (.loop vJ))) (LS [LO 38 (.load true 1 (LT 4)),LN (.store 1 (LT 2) (LT 38)),LO 3 (.mv LG)] .ret))))
def G2:aR:=⟨39,[(.cell 2 true 1),(.tmp 3)],Dd⟩
theorem Mx:fS 138=some G2:=by kernel_rfl
end Go.PM
namespace Go.PM
open Go.Lib
theorem Lw (x:List Rat):(aB (aS bB x)).length=1:=rfl
theorem X6 (m:List (List Rat)):aN (aS (aS bB) m)=true:=lT Lw KO
theorem abM (m:List (List Rat)):gJ (aS (aS bB) m)=true:=xZ Lw Ys fun _=>rfl
end Go.PM
namespace Go.PM
def tQ:aD:=(.seq (LS [LM 14 6,LM 15 0,LO 16 (.bin .lss (LT 14) (LT 15))] (.cond (LT 16) .skip (.exit 2))) (.seq (.block 3 (.dG [LM 19 5,LO 20 (.call 77 []),LO 21 (.lit [(.bool false),(.slice none 0 0),(.slice none 0 0)] 1 [(0,(LT 20))]),LO 22 (.app 3 56 (LT 19) (LT 21)),LM 5 22])) (.dG [LM 17 6,LO 18 (.bin .add (LT 17) (LI 1)),LM 6 18])))
def tU:aD:=(.seq (LS [LM 8 4,LM 9 0,LO 10 (.bin .lss (LT 8) (LT 9))] (.cond (LT 10) .skip (.exit 0))) (.seq (.block 1 (LS [LO 13 (.lit [(.bool false),(.slice none 0 0),(.slice none 0 0)] 0 []),LM 5 13] (.seq (LS [LO 6 (.mv (LI 0))] (.block 2 (.loop tQ))) (.dG [LM 23 3,LM 24 5,LO 25 (.lit [(.slice none 0 0)] 1 [(0,(LT 24))]),LO 26 (.app 1 24 (LT 23) (LT 25)),LM 3 26])))) (.dG [LM 11 4,LO 12 (.bin .add (LT 11) (LI 1)),LM 4 12])))
def B4:aD:=(LS [LO 2 (.mv (.const (.slice none 0 0)))] (LS [LO 7 (.lit [(.slice none 0 0)] 0 []),LM 3 7] (.seq (LS [LO 4 (.mv (LI 0))] (.block 0 (.loop tU))) (LS [LM 27 3,LM 2 27] .ret))))
def EE:aR:=⟨28,[(.tmp 2)],B4⟩
theorem JK:fS 76=some EE:=by kernel_rfl
def B5:aD:=(LS [LO 2 (.new [(.slice none 0 0)]),LO 3 (.mv LF)] (LS [LM 7 0,LO 8 (.build [(.slice none 0 0)] [(0,1)] [(0,(LT 7))]),LO 4 (.new [(.slice none 0 0)]),LN (.store 1 (LT 4) (LT 8))] (LS [LO 10 (.call 138 [(LT 4)]),LM 9 10,LO 11 (LX 9 0),LO 12 (LX 9 1),LO 5 (.new [(.slice none 0 0)]),LN (.store 1 (LT 5) (LT 11)),LM 6 12] (.seq (LS [LM 13 6,LO 14 (.un .not (LT 13))] (.cond (LT 14) (LS [LO 15 (.build [(.slice none 0 0)] [(0,1)] []),LN (.store 1 (LT 2) (LT 15)),LO 3 (.mv LF)] .ret) .skip)) (LS [LO 16 (.load true 1 (LT 5)),LN (.store 1 (LT 2) (LT 16)),LO 3 (.mv LG)] .ret)))))
def EP:aR:=⟨17,[(.cell 2 true 1),(.tmp 3)],B5⟩
theorem J3:fS 61=some EP:=by kernel_rfl
def oJ:aD:=(LS [LO 2 (.new [(.bool false),(.slice none 0 0),(.slice none 0 0)]),LO 3 (.mv LF)] (LS [LM 7 0,LO 8 (.call 110 [(LT 7)]),LM 6 8,LO 9 (LX 6 0),LO 10 (LX 6 1),LO 4 (.new [(.bool false),(.slice none 0 0),(.slice none 0 0)]),LN (.store 3 (LT 4) (LT 9)),LM 5 10] (LS [LO 11 (LK 4),LM 12 5,LM 13 12,LY 13 14 (LK 4),⟨(some 15),(.call 59 [(LT 14)]),(some (13,true)),true,[]⟩,LY 13 16 (.un .not (LT 15)),LO 17 (.pick (LT 13) (LT 16) LF),LM 18 17,LY 18 19 (LK 4),⟨(some 20),(.call 111 [(LT 19)]),(some (18,true)),true,[]⟩,LY 18 21 (.un .not (LT 20)),LO 22 (.pick (LT 18) (LT 21) LF),LN (.store 3 (LT 2) (LT 11)),LM 3 22] .ret)))
def sX:aR:=⟨23,[(.cell 2 true 3),(.tmp 3)],oJ⟩
theorem Lx:fS 87=some sX:=by kernel_rfl
end Go.PM
namespace Go.PM
def vE:aD:=(.seq (LS [LM 11 4,LM 12 0,LO 13 (.len (LT 12)),LO 14 (.bin .lss (LT 11) (LT 13))] (.cond (LT 14) .skip (.exit 0))) (.seq (.block 1 (LS [LM 17 0,LM 18 4,LO 19 (.iaddr 1 (LT 17) (LT 18)),LO 20 (LL 19),LO 21 (.call 60 [(LT 20)]),LO 5 (.new [(.bool false),(.slice none 0 0),(.slice none 0 0)]),LN (.store 3 (LT 5) (LT 21))] (LS [LO 22 (LK 3),LO 23 (LK 5),LO 24 (.call 80 [(LT 22),(LT 23)])] (.cond (LT 24) (.dG [LO 25 (LK 5),LN (.store 3 (LT 3) (LT 25))]) .skip)))) (.dG [LM 15 4,LO 16 (.bin .add (LT 15) (LI 1)),LM 4 16])))
def vQ:aD:=(.seq (LS [LM 34 9,LM 35 0,LO 36 (.len (LT 35)),LO 37 (.bin .lss (LT 34) (LT 36))] (.cond (LT 37) .skip (.exit 4))) (.seq (.block 5 (.dG [LM 40 8,LM 41 0,LM 42 7,LO 43 (.iaddr 1 (LT 41) (LT 42)),LO 44 (LL 43),LM 45 9,LO 46 (.iaddr 3 (LT 44) (LT 45)),LO 47 (LK 46),LO 48 (LK 3),LQ 49 (.call 81 [(LT 47),(LT 48)]),LQ 50 (.lit [(.bool false),(.slice none 0 0),(.slice none 0 0)] 1 [(0,(LT 49))]),LO 51 (.app 3 56 (LT 40) (LT 50)),LM 8 51])) (.dG [LM 38 9,LO 39 (.bin .add (LT 38) (LI 1)),LM 9 39])))
def vM:aD:=(.seq (LS [LM 27 7,LM 28 0,LO 29 (.len (LT 28)),LO 30 (.bin .lss (LT 27) (LT 29))] (.cond (LT 30) .skip (.exit 2))) (.seq (.block 3 (LS [LO 33 (.lit [(.bool false),(.slice none 0 0),(.slice none 0 0)] 0 []),LM 8 33] (.seq (LS [LO 9 (.mv (LI 0))] (.block 4 (.loop vQ))) (LS [LM 52 8,LM 53 7,LO 54 (.call 83 []),LM 55 8,LO 56 (.call 60 [(LT 55)]),LO 57 (.call 82 [(LT 54),(LT 56)]),LO 58 (.iaddr 3 (LT 52) (LT 53)),LN (.store 3 (LT 58) (LT 57))] (.dG [LM 59 6,LM 60 8,LO 61 (.lit [(.slice none 0 0)] 1 [(0,(LT 60))]),LO 62 (.app 1 24 (LT 59) (LT 61)),LM 6 62]))))) (.dG [LM 31 7,LO 32 (.bin .add (LT 31) (LI 1)),LM 7 32])))
def Dl:aD:=(LS [LO 2 (.mv (.const (.slice none 0 0)))] (LS [LO 10 (.call 77 []),LO 3 (.new [(.bool false),(.slice none 0 0),(.slice none 0 0)]),LN (.store 3 (LT 3) (LT 10))] (.seq (LS [LO 4 (.mv (LI 0))] (.block 0 (.loop vE))) (LS [LO 26 (.lit [(.slice none 0 0)] 0 []),LM 6 26] (.seq (LS [LO 7 (.mv (LI 0))] (.block 2 (.loop vM))) (LS [LM 63 6,LM 2 63] .ret))))))
def Hg:aR:=⟨64,[(.tmp 2)],Dl⟩
theorem Kq:fS 62=some Hg:=by kernel_rfl
def sB:aD:=(LS [LO 10 (.new [(.slice none 0 0)]),LO 11 (.mv LF)] (LS [LM 15 0,LM 16 1,LM 17 2,LM 18 3,LM 19 4,LO 20 (.call 102 [(LT 15),(LT 16),(LT 17),(LT 18),(LT 19)]),LM 14 20,LO 21 (LX 14 0),LO 22 (LX 14 1),LM 12 21,LM 13 22] (.seq (LS [LM 23 13,LO 24 (.un .not (LT 23))] (.cond (LT 24) (LS [LO 25 (.build [(.slice none 0 0)] [(0,1)] []),LN (.store 1 (LT 10) (LT 25)),LO 11 (.mv LF)] .ret) .skip)) (LS [LM 26 12,LO 27 (.call 62 [(LT 26)]),LO 28 (.call 61 [(LT 27)]),LO 29 (LX 28 0),LO 30 (LX 28 1),LN (.store 1 (LT 10) (LT 29)),LM 11 30] .ret))))
def vI:aR:=⟨31,[(.cell 10 true 1),(.tmp 11)],sB⟩
theorem Ge:fS 38=some vI:=by kernel_rfl
def Ak:aD:=(LS [LO 7 (.box (LT 3))] (LS [LM 8 1,LM 9 2,LO 10 (.bin .neq (LT 8) (LT 9))] (.cond (LT 10) (.dG [LM 11 0,LM 12 1,LO 13 (.iaddr 1 (LT 11) (LT 12)),LO 14 (LL 13),LM 15 2,LM 16 0,LM 17 1,LO 18 (.iaddr 1 (LT 16) (LT 17)),LO 19 (LL 18),LM 20 2,LO 21 (.iaddr 3 (LT 19) (LT 20)),LO 22 (LK 21),LO 23 (LK 7),LQ 24 (.call 79 [(LT 22),(LT 23)]),LO 25 (.iaddr 3 (LT 14) (LT 15)),LN (.store 3 (LT 25) (LT 24))]) .skip)))
def DD:aR:=⟨26,[],Ak⟩
theorem Nb:fS 90=some DD:=by kernel_rfl
def nS:aD:=(.seq (LS [LM 65 21,LM 66 4,LO 67 (.bin .leq (LT 65) (LT 66))] (.cond (LT 67) .skip (.exit 0))) (.seq (.block 1 (.seq (LS [LM 70 21,LM 71 4,LO 72 (.bin .lss (LT 70) (LT 71))] (.cond (LT 72) (LS [LM 73 20,LM 74 21,LO 75 (.bin .mul (LI 2) (LT 74)),LM 76 21,LO 77 (.bin .mul (LI 2) (LT 76)),LO 78 (.bin .add (LT 77) (LI 2)),LO 79 (LK 12),LO 80 (.call 90 [(LT 73),(LT 75),(LT 78),(LT 79)])] (.dG [LM 81 20,LM 82 21,LO 83 (.bin .mul (LI 2) (LT 82)),LO 84 (.bin .add (LT 83) (LI 1)),LM 85 21,LO 86 (.bin .mul (LI 2) (LT 85)),LO 87 (.bin .add (LT 86) (LI 3)),LO 88 (LK 12),LO 89 (.call 90 [(LT 81),(LT 84),(LT 87),(LT 88)])])) .skip)) (.seq (LS [LM 90 21,LO 91 (.bin .gtr (LT 90) (LI 0))] (.cond (LT 91) (.dG [LM 92 20,LM 93 21,LO 94 (.bin .mul (LI 2) (LT 93)),LM 95 21,LO 96 (.bin .mul (LI 2) (LT 95)),LO 97 (.bin .sub (LT 96) (LI 2)),LO 98 (LK 14),LO 99 (.call 90 [(LT 92),(LT 94),(LT 97),(LT 98)])]) .skip)) (LS [LM 100 20,LM 101 21,LO 102 (.bin .mul (LI 2) (LT 101)),LM 103 21,LO 104 (.bin .mul (LI 2) (LT 103)),LO 105 (.bin .add (LT 104) (LI 1)),LO 106 (LK 16),LO 107 (.call 90 [(LT 100),(LT 102),(LT 105),(LT 106)])] (.dG [LM 108 20,LM 109 21,LO 110 (.bin .mul (LI 2) (LT 109)),LO 111 (.bin .add (LT 110) (LI 1)),LM 112 21,LO 113 (.bin .mul (LI 2) (LT 112)),LO 114 (LK 18),LO 115 (.call 90 [(LT 108),(LT 111),(LT 113),(LT 114)])]))))) (.dG [LM 68 21,LO 69 (.bin .add (LT 68) (LI 1)),LM 21 69])))
def gZ:aD:=(LS [LO 10 (.mv (.const (.slice none 0 0))),LO 11 (.mv LF)] (LS [LM 23 0,LO 24 (.call 87 [(LT 23)]),LM 22 24,LO 25 (LX 22 0),LO 26 (LX 22 1),LO 12 (.new [(.bool false),(.slice none 0 0),(.slice none 0 0)]),LN (.store 3 (LT 12) (LT 25)),LM 13 26] (LS [LM 28 1,LO 29 (.call 87 [(LT 28)]),LM 27 29,LO 30 (LX 27 0),LO 31 (LX 27 1),LO 14 (.new [(.bool false),(.slice none 0 0),(.slice none 0 0)]),LN (.store 3 (LT 14) (LT 30)),LM 15 31] (LS [LM 33 2,LO 34 (.call 87 [(LT 33)]),LM 32 34,LO 35 (LX 32 0),LO 36 (LX 32 1),LO 16 (.new [(.bool false),(.slice none 0 0),(.slice none 0 0)]),LN (.store 3 (LT 16) (LT 35)),LM 17 36] (LS [LM 38 3,LO 39 (.call 87 [(LT 38)]),LM 37 39,LO 40 (LX 37 0),LO 41 (LX 37 1),LO 18 (.new [(.bool false),(.slice none 0 0),(.slice none 0 0)]),LN (.store 3 (LT 18) (LT 40)),LM 19 41] (.seq (LS [LM 42 13,LO 43 (.un .not (LT 42)),LM 44 43,LZ 44 45 (.mv (LT 15)),LZ 44 46 (.un .not (LT 45)),LO 47 (.pick (LT 44) LG (LT 46)),LM 48 47,LZ 48 49 (.mv (LT 17)),LZ 48 50 (.un .not (LT 49)),LO 51 (.pick (LT 48) LG (LT 50)),LM 52 51,LZ 52 53 (.mv (LT 19)),LZ 52 54 (.un .not (LT 53)),LO 55 (.pick (LT 52) LG (LT 54)),LM 56 55,LZ 56 57 (.mv (LT 4)),LZ 56 58 (.call 88 [(LT 57),(LI 1),(LI 5)]),LZ 56 59 (.un .not (LT 58)),LO 60 (.pick (LT 56) LG (LT 59))] (.cond (LT 60) (LS [LO 10 (.mv (.const (.slice none 0 0))),LO 11 (.mv LF)] .ret) .skip)) (LS [LM 61 4,LO 62 (.bin .mul (LI 2) (LT 61)),LO 63 (.bin .add (LT 62) (LI 2)),LO 64 (.call 76 [(LT 63)]),LM 20 64] (.seq (LS [LO 21 (.mv (LI 0))] (.block 0 (.loop nS))) (LS [LM 116 20,LM 10 116,LO 11 (.mv LG)] .ret)))))))))
def jQ:aR:=⟨117,[(.tmp 10),(.tmp 11)],gZ⟩
theorem Ho:fS 102=some jQ:=by kernel_rfl
end Go.PM
namespace Go.PM
open Go.Lib
theorem akW {b g j o e:Nat} {H:aA} {es:List VV} {w:Bool} {x x':VV} (h:aI H b g=some (es,e,w)) (hx:es[j]? = some x) (hf:PM.fz 7 H x=some x'):PM.fz depth H (.ptr b g j o)=some (x'.cT o):=by
 show PM.fz (7+1) H _=_
 unfold PM.fz
 have:aN (.ptr b g j o)=false:=rfl
 simp[this,h,hx,hf]
end Go.PM
namespace Go.PM
open Go.Lib
set_option maxHeartbeats 1000000 in
theorem GQ (qs:List Rat) (hn:qs.length≤1000000) (hb:∀q∈qs,aY q≤1099511627776):FC 181 [aS bB qs] (Vx (YF sV 1 (Co qs)) (Co qs).isSome):=by
 refine FC.Jt ⟨true,false⟩ F1 (Nat.le_of_ble_eq_true rfl) fun n => ?_
 have e0:∀K,jE false [.string ⟨#[]⟩] 0 [] K=some (.ref K.length 0 0 0 0,K++[.row 0 [] 1 true]):=fun K=>iH rfl
 simp only[B8,zB,e0,List.length_replicate,fB,VX,Nat.reduceEqDiff,Nat.reduceAdd,Nat.reduceLeDiff,Nat.reduceLT,Nat.reduceSub]
 refine aT (fun(i:Nat) ρ H=>i≤qs.length∧(∀q∈qs.take i,wA q=true)∧H=List.replicate n cN.dead++[cN.row i (((qs.take i).map JP).map sV) 1 true]∧ρ 4 = .ref n i 0 i i∧ρ 0=aS bB qs∧ρ 10=VI qs.length∧ρ 11=VI i) (fun i=>qs.length-i) 0 ⟨Nat.zero_le _,by simp,rfl,rfl,rfl,rfl,rfl⟩ ?_
 rintro i ρ H ⟨hi,tF,rfl,g4,g0,g10,g11⟩
 have kD:aI (List.replicate n cN.dead++[cN.row i (((qs.take i).map JP).map sV) 1 true]) n i=some (((qs.take i).map JP).map sV,1,true):=by rw[BF,bA]
 by_cases dA:(i:Int)<(qs.length:Int)
 ·obtain⟨q,hq⟩:∃q,qs[i]? = some q:=⟨_,List.getElem?_eq_getElem (by omega)⟩
  have hqm:=List.mem_of_getElem? hq
  have a1:=fun H=>aK (f:=bB) (t := .op) (H:=H) (size:=3) (k := .i64) hq rfl
  have wi:IntKind.i64.wrap ((i:Int)+1)=((i+1:Nat):Int):=wrapN (i+1) (by omega) (by omega)
  have e2:=LB q (hb q hqm)
  unfold Qz at e2
  cases hf:wA q with
  |
   false =>
   rw[if_neg (by simp[hf])] at e2
   rw[Qr hqm hf]
   simp only[mK,g4,g0,g10,g11,dA,a1,e2,fF,fB,VX,Nat.reduceEqDiff,Nat.reduceAdd,Nat.reduceLeDiff,Nat.reduceLT,Nat.reduceSub]
   exact⟨_,AN (by simp),rfl,Bf,.tree [] .nil,rfl,rfl⟩
  |
   true =>
   rw[if_pos hf] at e2
   have eL:∀H,jE false [.string ⟨#[]⟩] 1 [(0,bC (Ez q))] H=some (.tree [sV (JP q)] (.cl 1),H):=fun H=>fZ rfl rfl rfl
   have eS:∀H,cU 1 (.tree [sV (JP q)] (.cl 1)) H=some [sV (JP q)]:=fun H=>dP rfl rfl
   have eP:eI n 1 16 (.ref n i 0 i i) [sV (JP q)] (List.replicate n cN.dead++[cN.row i (((qs.take i).map JP).map sV) 1 true])=some (.ref n (i+1) 0 (i+1) (i+1),List.replicate n cN.dead++[cN.row (i+1) (((qs.take (i+1)).map JP).map sV) 1 true]):=by
    rw[iE (f:=sV) (xs:=(qs.take i).map JP) kD (by simp;omega) (Nat.le_refl _) (by decide) (by decide) (by omega),gW hq]
    simp only[List.map_append,Br]
    rfl
   simp only[mK,g4,g0,g10,g11,dA,a1,e2,eL,eS,eP,wi,fF,fB,VX,Nat.reduceEqDiff,Nat.reduceAdd,Nat.reduceLeDiff,Nat.reduceLT,Nat.reduceSub]
   refine⟨i+1,by omega,by omega,fun p hp => ?_,by (repeat' apply And.intro)<;>first | rfl | trivial | assumption⟩
   rw[gW hq] at hp
   rcases List.mem_append.1 hp with h | h
   ·exact tF p h
   ·rw[List.mem_singleton] at h;subst h;exact hf
 ·have nZ:i=qs.length:=by omega
  subst nZ
  rw[List.take_length] at tF kD
  rw[OI tF]
  simp only[mK,g4,g10,g11,dA,List.take_length,fB,VX,Nat.reduceEqDiff,Nat.reduceAdd,Nat.reduceLeDiff,Nat.reduceLT,Nat.reduceSub]
  refine⟨_,⟨rfl,fun _ _ _ _ _ h=>h⟩,by simp[fA,oA,kC],by simp only[eT,List.all_cons,List.all_nil,Bool.and_true];exact SB (fun _=>rfl) _,.ref n qs.length 0 qs.length qs.length,rfl,⟨n,qs.length,qs.length,Nat.le_refl _,by simp,by simp,by simp,kD⟩⟩
set_option maxHeartbeats 2000000 in
theorem Mj (m:List (List Rat)) (hn:m.length≤1000000) (hb:∀r∈m,r.length≤1000000∧∀q∈r,aY q≤1099511627776):FC 138 [(MU (aS (aS bB) m)).cT 0] (Vx (CG ((vV m).getD [])) (vV m).isSome):=by
 refine FC.Jt ⟨true,false⟩ Mx (Nat.le_of_ble_eq_true rfl) fun n => ?_
 have s0:bR n 1 (.ptr (n+1) 0 0 0) (.agg [.tree [] .nil]) (List.replicate n cN.dead++[cN.row 0 [.tree [] .nil] 1 true,.row 0 [.tree [] .nil] 1 true])=some (List.replicate n cN.dead++[cN.row 0 [.tree [] .nil] 1 true,.row 0 [.agg [.tree [] .nil]] 1 true]):=by
  rw[bX (e:=1) (g:=0) (j:=0) (by rw[D2,lP,bA]) (by exact Nat.zero_lt_one) (by omega) rfl rfl,UP]
  rfl
 simp only[G2,Dd,s0,Wv,EY,List.length_replicate,List.length_cons,List.length_nil,List.append_assoc,List.cons_append,List.nil_append,gE,fB,VX,Nat.reduceEqDiff,Nat.reduceAdd,Nat.reduceLeDiff,Nat.reduceLT,Nat.reduceSub]
 refine aT (fun(i:Nat) ρ H=>i≤m.length∧BJ n H∧(∃x v bH,aI H n 0=some ([.tree [] .nil],1,true)∧aI H (n+1) 0=some ([x],1,true)∧aB x=[v]∧vV (m.take i)=some bH∧Ox sV 1 bH (n+2) H.length H v)∧ρ 2 = .ptr n 0 0 0∧ρ 4 = .ptr (n+1) 0 0 0∧ρ 0=(MU (aS (aS bB) m)).cT 0∧ρ 13=VI m.length∧ρ 14=VI i) (fun i=>m.length-i) 0
  ⟨Nat.zero_le _,⟨[.row 0 [.tree [] .nil] 1 true,.row 0 [.agg [.tree [] .nil]] 1 true],rfl,rfl⟩,⟨.agg [.tree [] .nil],.tree [] .nil,[],by rw[BF,bA],by rw[D2,lP,bA],rfl,rfl,.inl ⟨rfl,rfl⟩⟩,rfl,rfl,rfl,rfl,rfl⟩ ?_
 rintro i ρ H ⟨hi,hO,⟨x,v,bH,Cu,FO,hx,G6,hv⟩,g2,g4,g0,g13,g14⟩
 have Ct:=gN FO
 by_cases dA:(i:Int)<(m.length:Int)
 ·obtain⟨r,hr⟩:∃r,m[i]? = some r:=⟨_,List.getElem?_eq_getElem (by omega)⟩
  have CC:=hb r (List.mem_of_getElem? hr)
  have a1:=fun H=>aK (f:=aS bB) (t := .op) (H:=H) (size:=1) (k := .i64) hr rfl
  have wi:IntKind.i64.wrap ((i:Int)+1)=((i+1:Nat):Int):=wrapN (i+1) (by omega) (by omega)
  simp only[vJ,g2,g4,g0,g13,g14,dA,a1,Wv,fB,VX,Nat.reduceEqDiff,Nat.reduceAdd,Nat.reduceLeDiff,Nat.reduceLT,Nat.reduceSub]
  refine OT (n:=n) (GQ r CC.1 CC.2) rfl (fz1 (aF (KO _))) hO YF.cJ fun u H2 p2 hO2 _ hu => ?_
  cases ht:Co r with
  |
   none =>
   rw[ht] at hu
   have hu:u = .tree [] .nil:=hu
   subst hu
   have alV:vV m=none:=mapM_none ht (List.mem_of_getElem? hr)
   rw[alV]
   have s1:bR n 1 (.ptr n 0 0 0) (.agg [.tree [] .nil]) H2=some (H2.set n (.row 0 [.agg [.tree [] .nil]] 1 true)):=by
    rw[bX (cR p2 Cu) (by exact Nat.zero_lt_one) (Nat.le_refl _) rfl rfl]
    rfl
   have s2:bT true 1 (.ptr n 0 0 0) (H2.set n (.row 0 [.agg [.tree [] .nil]] 1 true))=some (.agg [.tree [] .nil]):=by
    rw[bQ,bZ (cR p2 Cu)]
    rfl
   simp only[g2,g4,s1,s2,Option.isSome_none,fB,VX,Nat.reduceEqDiff,Nat.reduceAdd,Nat.reduceLeDiff,Nat.reduceLT,Nat.reduceSub]
   exact⟨_,AN (by rw[List.length_set];have:=p2.length_le;omega),rfl,Bf,.agg [.tree [] .nil],rfl,_,rfl,.inl ⟨rfl,rfl⟩⟩
  |
   some ys =>
   rw[ht] at hu
   obtain⟨b,g,c,k1,k2,rfl,k3,k4⟩:=hu
   have eL:∀K,jE false [.slice none 0 0] 1 [(0,.ref b g 0 ys.length c)] K=some (.tree [.ref b g 0 ys.length c] (.cl 1),K):=fun K=>fZ rfl rfl rfl
   have eS:∀K,cU 1 (.tree [.ref b g 0 ys.length c] (.cl 1)) K=some [.ref b g 0 ys.length c]:=fun K=>dP rfl rfl
   obtain⟨v',H3,ap,Yz,cJ,hlen,M4,yR,_⟩:=(hv.cJ (dI.pre p2)).snoc (gP:=n) (by omega) (by rw[tA G6,List.length_take];omega) ⟨b,g,c,ys⟩ k1 (by simp only;omega) k3 k4
   have Uh:=cJ _ _ _ (by omega) (cR p2 FO)
   have l1:bT false 1 (.ptr (n+1) 0 0 0) H2=some v:=by
    rw[bQ,cR p2 FO]
    simp[dD,hx]
   have l2:aI H2 (n+1) 0=some ([x],1,true):=cR p2 FO
   have vA:=Yz.fT
   have s1:bR n 1 (.ptr (n+1) 0 0 0) v' H3=some (H3.set (n+1) (.row 0 [v'] 1 true)):=by
    rw[bX Uh (by exact Nat.zero_lt_one) (by omega) (by rw[vA.2.1];rfl) (by rw[vA.2.1];simp[vA.1])]
    rfl
   have hO3:=(M4 n (by omega) hO2).set (b:=n+1) (g:=0) (e:=1) (es:=[v']) (w:=true) (by omega) (by
    rcases Yz with⟨rfl,_⟩ | ⟨b',g',Vy,q1,q2,rfl,_⟩
    ·rfl
    ·simp[oA,fA];omega)
   simp only[g4,g14,wi,eL,eS,l1,ap,s1,Uh,l2,zD,Nat.add_zero,Option.isSome_some,fB,VX,Nat.reduceEqDiff,Nat.reduceAdd,Nat.reduceLeDiff,Nat.reduceLT,Nat.reduceSub]
   refine⟨i+1,by omega,by omega,hO3,⟨v',v',bH++[ys],cD (by omega) (cJ _ _ _ (by omega) (cR p2 Cu)),bZ Uh,vA.2.1,?_,?_⟩,by (repeat' apply And.intro)<;>first | rfl | trivial | assumption⟩
   ·rw[gW hr]
    exact II G6 ht
   ·rw[List.length_set]
    exact Yz.cJ (dI.set (by omega))
 ·have nZ:i=m.length:=by omega
  subst nZ
  rw[List.take_length] at G6
  rw[G6]
  have vA:=hv.fT
  have l1:bT true 1 (.ptr (n+1) 0 0 0) H=some (.agg [v]):=by
   rw[bQ,FO]
   simp[dD,hx]
  have s1:bR n 1 (.ptr n 0 0 0) (.agg [v]) H=some (H.set n (.row 0 [.agg [v]] 1 true)):=by
   rw[bX Cu (by exact Nat.zero_lt_one) (Nat.le_refl _) rfl (by simp[aB,vA.1])]
   rfl
  have s2:bT true 1 (.ptr n 0 0 0) (H.set n (.row 0 [.agg [v]] 1 true))=some (.agg [v]):=by
   rw[bQ,bZ Cu]
   rfl
  simp only[vJ,g2,g4,g13,g14,dA,l1,s1,s2,Option.isSome_some,fB,VX,Nat.reduceEqDiff,Nat.reduceAdd,Nat.reduceLeDiff,Nat.reduceLT,Nat.reduceSub]
  have M4:fA n v=true:=by
   rcases hv with⟨rfl,_⟩ | ⟨b',g',Vy,q1,q2,rfl,_⟩
   ·rfl
   ·simp[fA];omega
  obtain⟨L,rfl,hL⟩:=hO
  refine⟨L.set 0 (.row 0 [.agg [v]] 1 true),⟨by simp,fun _ _ _ _ _ h=>by rw[Br];exact h⟩,by simp[fA,oA,M4,kC],?_,.agg [v],rfl,v,rfl,?_⟩
  ·have:=(BJ.set (n:=n) (b:=n) (g:=0) (e:=1) (es:=[.agg [v]]) (w:=true) ⟨L,rfl,hL⟩ (Nat.le_refl _) (by simp[oA,fA,M4]))
   rw[Br] at this
   obtain⟨L',h1,h2⟩:=this
   rw[List.append_cancel_left h1]
   exact h2
  ·rw[←Br,List.length_set]
   have:=hv.rg.cJ (H':=(List.replicate n cN.dead++L).set n (.row 0 [.agg [v]] 1 true)) (dI.set (by omega))
   rw[EY] at this
   exact this.wide (by omega) (Nat.le_refl _)
set_option maxHeartbeats 1000000 in
theorem J1 (m:List (List Rat)) (hn:m.length≤1000000) (hb:∀r∈m,r.length≤1000000∧∀q∈r,aY q≤1099511627776):FC 61 [aS (aS bB) m] (Vx (CG ((vV m).getD [])) (vV m).isSome):=by
 refine FC.Jt ⟨true,false⟩ J3 (Nat.le_of_ble_eq_true rfl) fun n => ?_
 have s0:bR n 1 (.ptr (n+1) 0 0 0) (.agg [aS (aS bB) m]) (List.replicate n cN.dead++[cN.row 0 [.tree [] .nil] 1 true,.row 0 [.tree [] .nil] 1 true])=some (List.replicate n cN.dead++[cN.row 0 [.tree [] .nil] 1 true,.row 0 [MU (aS (aS bB) m)] 1 true]):=by
  rw[bX (e:=1) (g:=0) (j:=0) (by rw[D2,lP,bA]) (by exact Nat.zero_lt_one) (by omega) rfl rfl,UP]
  rfl
 have hf:PM.fz depth (List.replicate n cN.dead++[cN.row 0 [.tree [] .nil] 1 true,.row 0 [MU (aS (aS bB) m)] 1 true]) (.ptr (n+1) 0 0 0)=some ((MU (aS (aS bB) m)).cT 0):=akW (es:=[MU (aS (aS bB) m)]) (e:=1) (w:=true) (by rw[D2,lP,bA]) rfl (aJ (adB (X6 _)))
 simp only[EP,B5,s0,EY,List.length_replicate,List.length_cons,List.length_nil,List.append_assoc,List.cons_append,List.nil_append,gE,fB,VX,Nat.reduceEqDiff,Nat.reduceAdd,Nat.reduceLeDiff,Nat.reduceLT,Nat.reduceSub]
 refine(Mj m hn hb).aaX rfl (fz1 hf) ?_
 rintro r L ⟨v,rfl,hv⟩ hr hL
 have hv:=hv.cJ dI.move
 have hlen:(List.replicate n cN.dead++[cN.row 0 [.tree [] .nil] 1 true,.row 0 [MU (aS (aS bB) m)] 1 true]).length=n+2:=by simp
 rw[hlen] at hv
 obtain⟨c,rfl,hc1,ZR,hc3⟩:=hv.own (n:=n) (by omega)
 have hT:Bw n (n+2) (List.replicate n cN.dead++[cN.row 0 [.tree [] .nil] 1 true,.row 0 [MU (aS (aS bB) m)] 1 true]++L):=by
  refine Bw.app (fun b g es e w hb hr => ?_) (by simp) hL
  rw[List.getElem?_eq_none (by rw[hlen];exact hb)] at hr
  cases hr
 generalize hH:List.replicate n cN.dead++[cN.row 0 [.tree [] .nil] 1 true,.row 0 [MU (aS (aS bB) m)] 1 true]++L=H2 at *
 have Cu:aI H2 n 0=some ([.tree [] .nil],1,true):=by rw[←hH,List.append_assoc,BF,List.cons_append,bA]
 have FF:n+2≤H2.length:=by rw[←hH];simp
 have hll:n+2+L.length=H2.length:=by rw[←hH];simp;omega
 rw[hll] at hv
 have s1:bR n 1 (.ptr H2.length 0 0 0) (.agg [c]) (H2++[cN.row 0 [.tree [] .nil] 1 true])=some (H2++[cN.row 0 [.agg [c]] 1 true]):=by
  rw[bX (e:=1) (g:=0) (j:=0) fN (by exact Nat.zero_lt_one) (by omega) rfl (by simp[aB,hc1]),Gm]
  rfl
 cases ht:vV m with
 |
  none =>
  have s2:bR n 1 (.ptr n 0 0 0) (.agg [.tree [] .nil]) (H2++[cN.row 0 [.agg [c]] 1 true])=some ((H2++[cN.row 0 [.agg [c]] 1 true]).set n (.row 0 [.agg [.tree [] .nil]] 1 true)):=by
   rw[bX (cF Cu) (by exact Nat.zero_lt_one) (Nat.le_refl _) rfl rfl]
   rfl
  have s3:bT true 1 (.ptr n 0 0 0) ((H2++[cN.row 0 [.agg [c]] 1 true]).set n (.row 0 [.agg [.tree [] .nil]] 1 true))=some (.agg [.tree [] .nil]):=by
   rw[bQ,bZ (cF Cu)]
   rfl
  simp only[s1,s2,s3,Option.isSome_none,gE,fB,VX,Nat.reduceEqDiff,Nat.reduceAdd,Nat.reduceLeDiff,Nat.reduceLT,Nat.reduceSub]
  exact⟨_,AN (by rw[List.length_set,List.length_append];omega),rfl,Bf,.agg [.tree [] .nil],rfl,_,rfl,.inl ⟨rfl,rfl⟩⟩
 |
  some bH =>
  rw[ht] at hv
  have l1:bT true 1 (.ptr H2.length 0 0 0) (H2++[cN.row 0 [.agg [c]] 1 true])=some (.agg [c]):=by
   rw[bQ,fN]
   rfl
  have s2:bR n 1 (.ptr n 0 0 0) (.agg [c]) (H2++[cN.row 0 [.agg [c]] 1 true])=some ((H2++[cN.row 0 [.agg [c]] 1 true]).set n (.row 0 [.agg [c]] 1 true)):=by
   rw[bX (cF Cu) (by exact Nat.zero_lt_one) (Nat.le_refl _) rfl (by simp[aB,hc1])]
   rfl
  have s3:bT true 1 (.ptr n 0 0 0) ((H2++[cN.row 0 [.agg [c]] 1 true]).set n (.row 0 [.agg [c]] 1 true))=some (.agg [c]):=by
   rw[bQ,bZ (cF Cu)]
   rfl
  simp only[s1,s2,s3,l1,Option.isSome_some,gE,fB,VX,Nat.reduceEqDiff,Nat.reduceAdd,Nat.reduceLeDiff,Nat.reduceLT,Nat.reduceSub]
  have QP:Bw n (n+2) ((H2++[cN.row 0 [.agg [c]] 1 true]).set n (.row 0 [.agg [c]] 1 true)):=Bw.set (Bw.apF hT (by simp[eT,oA,fA,hc3])) (by omega)
  obtain⟨L2,k1,k2,k3⟩:=Sy (n:=n) (k:=n+2) (by omega) (by rw[List.length_set,List.length_append];omega) QP
  refine⟨L2,k1,by simp[fA,oA,hc3,kC],k2,.agg [c],rfl,?_⟩
  obtain⟨c',Uq,hv⟩:=hv
  cases Uq
  have hl3:=k1.1
  rw[List.length_set,List.length_append,List.length_append,List.length_replicate] at hl3
  simp only[Option.getD_some] at hv
  exact⟨c,rfl,(hv.cJ (H':=List.replicate n cN.dead++L2) fun b g x h1 h2 h3=>k3 b g x (by omega) (cD (by omega) (cF h3))).wide (by omega) (by simp only[List.length_cons,List.length_nil] at hl3;omega)⟩
end Go.PM
namespace Go.PM
end Go.PM
namespace Go.PM
open Go.Lib
set_option maxHeartbeats 1000000 in
theorem JJ {lo:Nat} {H:aA} (N:Nat) (hN:N≤1000) (dK:lo≤H.length):gU 76 [VI N] lo H (F5 (TabIs bB 3 (List.replicate N (List.replicate N (0:Rat)))) H):=by
 refine gU.walk ⟨true,false⟩ JK (Nat.le_of_ble_eq_true rfl) ?_
 have e0:∀K,jE false [.slice none 0 0] 0 [] K=some (.ref K.length 0 0 0 0,K++[.row 0 [] 1 true]):=fun K=>iH rfl
 have e0':∀K,jE false [.bool false,.slice none 0 0,.slice none 0 0] 0 [] K=some (.ref K.length 0 0 0 0,K++[.row 0 [] 3 true]):=fun K=>iH rfl
 have e1:=yK
 have eL:∀H,jE false [.bool false,.slice none 0 0,.slice none 0 0] 1 [(0,bB 0)] H=some (.tree [bB 0] (.cl 3),H):=fun H=>fZ rfl rfl rfl
 have eS:∀H,cU 3 (.tree [bB 0] (.cl 3)) H=some [bB 0]:=fun H=>dP rfl rfl
 simp only[EE,B4,e0,fB,VX,Nat.reduceEqDiff,Nat.reduceAdd,Nat.reduceLeDiff,Nat.reduceLT,Nat.reduceSub]
 refine aT (fun(i:Nat) ρ H1=>i≤N∧H <+: H1∧(∃rs,rs.length=i∧rs.map (·.xs)=List.replicate i (List.replicate N (0:Rat))∧MG bB 3 H.length H1.length H.length i H1 rs)∧ρ 0=VI N∧ρ 3 = .ref H.length i 0 i i∧ρ 4=VI i) (fun i=>N-i) 0
  ⟨Nat.zero_le _,List.prefix_append _ _,⟨[],rfl,rfl,fN,Nat.le_refl _,by simp,by simp,by simp⟩,rfl,rfl,rfl⟩ ?_
 rintro i ρ H1 ⟨hi,hp,⟨rs,yT,Kz,hM⟩,g0,g3,g4⟩
 by_cases dA:(i:Int)<(N:Int)
 ·have wi:IntKind.i64.wrap ((i:Int)+1)=((i+1:Nat):Int):=wrapN (i+1) (by omega) (by omega)
  simp only[tU,g0,g3,g4,dA,e0',fB,VX,Nat.reduceEqDiff,Nat.reduceAdd,Nat.reduceLeDiff,Nat.reduceLT,Nat.reduceSub]
  have Ct:=hp.length_le
  refine aT (fun(k:Nat) ρ H2=>k≤N∧H1 <+: H2∧aI H2 H1.length k=some ((List.replicate k (0:Rat)).map bB,3,true)∧ρ 0=VI N∧ρ 3 = .ref H.length i 0 i i∧ρ 4=VI i∧ρ 5 = .ref H1.length k 0 k k∧ρ 6=VI k) (fun k=>N-k) 0 ⟨Nat.zero_le _,List.prefix_append _ _,fN,g0,g3,g4,rfl,rfl⟩ ?_
  clear g0 g3 g4
  rintro k ρ H2 ⟨hk,Ki,kD,g0,g3,g4,g5,g6⟩
  by_cases W2:(k:Int)<(N:Int)
  ·have wk:IntKind.i64.wrap ((k:Int)+1)=((k+1:Nat):Int):=wrapN (k+1) (by omega) (by omega)
   have eP:=MJ (lo:=lo) (bytes:=56) (x:=(0:Rat)) kD (by simp) (by omega) (by decide) (by decide) (by omega)
   simp only[tQ,g0,g5,g6,W2,e1,eL,eS,eP,wk,fB,VX,Nat.reduceEqDiff,Nat.reduceAdd,Nat.reduceLeDiff,Nat.reduceLT,Nat.reduceSub]
   exact⟨k+1,by omega,by omega,kS Ki (Nat.le_refl _),by rw[List.replicate_succ'];exact bZ kD,by (repeat' apply And.intro)<;>first | rfl | trivial | assumption⟩
  ·have hke:k=N:=by omega
   subst hke
   have hA:Ox bB 3 (List.replicate i (List.replicate k (0:Rat))) H.length H1.length H2 (.ref H.length i 0 i i) := .inr ⟨H.length,i,rs,Nat.le_refl _,hM.bhi,by simp,cR Ki hM.out,Kz,(hM.pre Ki).rows⟩
   have FF:=gN kD
   obtain⟨v',H3,ap,Yz,cJ,hlen,M4,yR,_⟩:=hA.snoc (gP:=lo) dK (by simp;omega) ⟨H1.length,k,k,List.replicate k 0⟩ (Nat.le_refl _) Ct (by simp) kD
   rw[List.length_replicate] at ap
   have eL2:∀K,jE false [.slice none 0 0] 1 [(0,.ref H1.length k 0 k k)] K=some (.tree [.ref H1.length k 0 k k] (.cl 1),K):=fun K=>fZ rfl rfl rfl
   have eS2:∀K,cU 1 (.tree [.ref H1.length k 0 k k] (.cl 1)) K=some [.ref H1.length k 0 k k]:=fun K=>dP rfl rfl
   simp only[tQ,g0,g3,g4,g5,g6,W2,eL2,eS2,ap,wi,fB,VX,Nat.reduceEqDiff,Nat.reduceAdd,Nat.reduceLeDiff,Nat.reduceLT,Nat.reduceSub]
   rw[←List.replicate_succ'] at Yz
   rcases Yz with⟨_,h⟩ | ⟨b,g,Vy,k1,k2,rfl,k3,k4,k5⟩
   ·simp at h
   ·have rQ:=MJ (f:=nB) (lo:=lo) (bytes:=24) (x:=⟨H1.length,k,k,List.replicate k (0:Rat)⟩) (cR Ki hM.out) yT.symm dK (by decide) (by decide) (by omega)
    simp only[nB,List.length_replicate] at rQ
    rw[rQ] at ap
    injection ap with ap
    injection ap with ap1 ap2
    injection ap1 with q1 q2 q3 q4 q5
    subst q1 q2
    refine⟨i+1,by omega,by omega,yR H (Nat.le_refl _) (hp.trans Ki),⟨Vy,by have:=congrArg List.length k4;simpa using this,k4,k3,Nat.le_refl _,k2,k5.nd,k5.row⟩,by (repeat' apply And.intro)<;>first | rfl | trivial | assumption | rw[List.length_replicate]⟩
 ·have nZ:i=N:=by omega
  subst nZ
  simp only[tU,g0,g3,g4,dA,fB,VX,Nat.reduceEqDiff,Nat.reduceAdd,Nat.reduceLeDiff,Nat.reduceLT,Nat.reduceSub]
  exact⟨hp,H.length,i,i,rs,by rw[List.length_replicate],by simp,hM,Kz⟩
def SvS (s:Kl) (lo hi:Nat) (H:aA) (v:VV):Prop:=(∃a b c,v = .agg [a,b,c]∧bO a=true∧bO b=true∧bO c=true∧∀n,n≤lo→fA n a=true∧fA n b=true∧fA n c=true)∧FV (svV s) lo hi H v
theorem SvS.cJ {s:Kl}:∀ {lo hi H H' v},SvS s lo hi H v→dI lo hi H H'→SvS s lo hi H' v:=fun h hk=>⟨h.1,h.2.cJ hk⟩
theorem SvS.wide {s:Kl}:∀ {lo hi gP mA:Nat} {H:aA} {v:VV},SvS s lo hi H v→gP≤lo→hi≤mA→SvS s gP mA H v:=fun h hl hh=>by
 obtain⟨⟨a,b,c,h1,h2,h3,h4,h5⟩,h6⟩:=h
 exact⟨⟨a,b,c,h1,h2,h3,h4,fun n hn=>h5 n (by omega)⟩,fun H' hk=>h6 H' (hk.sub hl hh)⟩
theorem SvS.ag {s:Kl} {lo hi:Nat} {H:aA} {v:VV} (h:SvS s lo hi H v) (n:Nat) (hn:n≤lo):∃a b c,v = .agg [a,b,c]∧bO a=true∧bO b=true∧bO c=true∧fA n a=true∧fA n b=true∧fA n c=true:=by
 obtain⟨⟨a,b,c,h1,h2,h3,h4,h5⟩,_⟩:=h
 exact⟨a,b,c,h1,h2,h3,h4,h5 n hn⟩
end Go.PM
namespace Go.PM
open Go.Lib
theorem Xc {qs:List Rat} {x:List ByteArray} (h:Co qs=some x):x.length=qs.length:=by
 unfold Co at h
 split at h
 ·cases h
  rw[List.length_map]
 ·cases h
theorem YF.own {α:Type} {f:α→VV} {e lo hi n:Nat} {H:aA} {v:VV} {o:Option (List α)} (h:YF f e o lo hi H v) (hn:n≤lo):fA n v=true:=by
 cases o with
 |
  none =>
  have h:v = .tree [] .nil:=h
  subst h
  rfl
 |
  some ys =>
  obtain⟨b,g,c,h1,h2,rfl,h3⟩:=h
  simp[fA];omega
theorem Ox.own {α:Type} {f:α→VV} {e lo hi n:Nat} {H:aA} {v:VV} {bH:List (List α)} (h:Ox f e bH lo hi H v) (hn:n≤lo):fA n v=true:=by
 rcases h with⟨rfl,_⟩ | ⟨b,g,rs,q1,q2,rfl,_⟩
 ·rfl
 ·simp[fA];omega
end Go.PM
namespace Go.PM
open Go.Lib
end Go.PM
namespace Go.PM
open Go.Lib
set_option maxHeartbeats 4000000 in
theorem KC {lo:Nat} {H:aA} {v:VV} (m:List (List Rat)) {n B:Nat} (hv:YA bB 3 m H v) (dK:lo≤H.length) (hm:m.length=n) (hn:n≤100) (hB:B≤1000000) (hb:∀r∈m,r.length=n∧∀q∈r,aY q≤B) (hd:cM m≠0) :
  gU 62 [v] lo H (F5 (TabIs bB 3 (mY m)) H):=by
 have hmul:n*(B+1)≤100*(B+1):=Nat.mul_le_mul_right _ hn
 have uJ:∀r∈m,r.length≤n∧∀q∈r,aY q≤B:=fun r hr=>⟨Nat.le_of_eq (hb r hr).1,(hb r hr).2⟩
 refine gU.walk ⟨true,false⟩ Kq (Nat.le_of_ble_eq_true rfl) ?_
 have e1:=yK
 have s0:=Iu (lo:=lo) (H:=H) (q:=0) dK
 simp only[Hg,Dl,e1,s0,fB,VX,Nat.reduceEqDiff,Nat.reduceAdd,Nat.reduceLeDiff,Nat.reduceLT,Nat.reduceSub]
 refine aT (fun(i:Nat) ρ H1=>i≤m.length∧H <+: H1∧aI H1 H.length 0=some ([bB (iR m i)],3,true)∧ρ 0=v∧ρ 3 = .ptr H.length 0 0 0∧ρ 4=VI i) (fun i=>m.length-i) 0 ⟨Nat.zero_le _,List.prefix_append _ _,fN,rfl,rfl,rfl⟩ ?_
 rintro i ρ H1 ⟨hi,hp,WC,g0,g3,g4⟩
 have Ct:=gN WC
 have el:=hv.len H1 hp
 by_cases dA:(i:Int)<(m.length:Int)
 ·obtain⟨r,hr⟩:∃r,m[i]? = some r:=⟨_,List.getElem?_eq_getElem (by omega)⟩
  have CC:=hb r (List.mem_of_getElem? hr)
  obtain⟨p,w,a1,a2,hw⟩:=hv.get H1 hp i r hr
  have wi:IntKind.i64.wrap ((i:Int)+1)=((i+1:Nat):Int):=wrapN (i+1) (by omega) (by omega)
  have yT:r.length*(B+1)≤100*(B+1):=Nat.mul_le_mul_right _ (by omega)
  simp only[vE,g0,g3,g4,dA,el,a1,a2,fB,VX,Nat.reduceEqDiff,Nat.reduceAdd,Nat.reduceLeDiff,Nat.reduceLT,Nat.reduceSub]
  refine lA rfl (Cd (H:=H1) r hw (by omega) CC.2 (by omega) (by omega) (by omega)) fun x L hx => ?_
  subst hx
  have E1:=cF (L:=L) WC
  have Ki:=jV (L:=L) hp
  have FF:H1.length≤(H1++L).length:=by rw[List.length_append];omega
  generalize H1++L=H2 at *
  have s1:=Iu (lo:=lo) (H:=H2) (q:=dY r) (by omega)
  have s2:=Y3 (H:=H2) (K:=[]) (q:=dY r)
  have s3:bT true 3 (.ptr H.length 0 0 0) (H2++[cN.row 0 [bB (dY r)] 3 true])=some (bB (iR m i)):=by
   rw[bQ,cF E1]
   exact fF _
  have b1:=tN CC.2 (Nat.le_of_eq CC.1)
  have b2:=uD uJ i
  have e3:=KV (iR m i) (dY r) (by omega) (by omega)
  have Fg:=zI hr
  by_cases hc:iR m i<dY r
  ·rw[decide_eq_true hc] at e3
   rw[if_pos hc] at Fg
   have s4:=bX (lo:=lo) (v:=bB (dY r)) (j:=0) (cF (L:=[.row 0 [bB (dY r)] 3 true]) E1) (by exact Nat.zero_lt_one) dK rfl rfl
   rw[List.set_cons_zero] at s4
   simp only[g0,g3,g4,s1,s2,s3,s4,e3,wi,fB,VX,Nat.reduceEqDiff,Nat.reduceAdd,Nat.reduceLeDiff,Nat.reduceLT,Nat.reduceSub]
   exact⟨i+1,by omega,by omega,kS (jV Ki) (Nat.le_refl _),by rw[Fg];exact bZ (cF E1),by (repeat' apply And.intro)<;>first | rfl | trivial | assumption⟩
  ·rw[decide_eq_false hc] at e3
   rw[if_neg hc] at Fg
   simp only[g0,g3,g4,s1,s2,s3,e3,wi,fB,VX,Nat.reduceEqDiff,Nat.reduceAdd,Nat.reduceLeDiff,Nat.reduceLT,Nat.reduceSub]
   exact⟨i+1,by omega,by omega,jV Ki,by rw[Fg];exact cF E1,by (repeat' apply And.intro)<;>first | rfl | trivial | assumption⟩
 ·have nZ:i=m.length:=by omega
  subst nZ
  have e0:∀K,jE false [.slice none 0 0] 0 [] K=some (.ref K.length 0 0 0 0,K++[.row 0 [] 1 true]):=fun K=>iH rfl
  simp only[vE,g0,g3,g4,dA,el,e0,fB,VX,Nat.reduceEqDiff,Nat.reduceAdd,Nat.reduceLeDiff,Nat.reduceLT,Nat.reduceSub]
  have WC:aI H1 H.length 0=some ([bB (cM m)],3,true):=WC
  have bm:=uD uJ m.length
  rw[←cM] at bm
  refine aT (fun(i:Nat) ρ H2=>i≤m.length∧H <+: H2∧aI H2 H.length 0=some ([bB (cM m)],3,true)∧(∃rs,rs.length=i∧rs.map (·.xs)=(mY m).take i∧MG bB 3 H1.length H2.length H1.length i H2 rs)∧ρ 0=v∧ρ 3 = .ptr H.length 0 0 0∧ρ 6 = .ref H1.length i 0 i i∧ρ 7=VI i) (fun i=>m.length-i) 0
   ⟨Nat.zero_le _,jV hp,cF WC,⟨[],rfl,rfl,fN,Nat.le_refl _,by simp,by simp,by simp⟩,by (repeat' apply And.intro)<;>first | rfl | trivial | assumption⟩ ?_
  clear g0 g3 g4 dA el
  rintro i ρ H2 ⟨hi,Ki,E1,⟨rs,yT,Kz,hM⟩,g0,g3,g6,g7⟩
  have el:=hv.len H2 Ki
  by_cases dA:(i:Int)<(m.length:Int)
  ·obtain⟨r,hr⟩:∃r,m[i]? = some r:=⟨_,List.getElem?_eq_getElem (by omega)⟩
   have CC:=hb r (List.mem_of_getElem? hr)
   have wi:IntKind.i64.wrap ((i:Int)+1)=((i+1:Nat):Int):=wrapN (i+1) (by omega) (by omega)
   have hbh:=hM.bhi
   have e0':∀K,jE false [.bool false,.slice none 0 0,.slice none 0 0] 0 [] K=some (.ref K.length 0 0 0 0,K++[.row 0 [] 3 true]):=fun K=>iH rfl
   simp only[vM,g0,g3,g6,g7,dA,el,e0',fB,VX,Nat.reduceEqDiff,Nat.reduceAdd,Nat.reduceLeDiff,Nat.reduceLT,Nat.reduceSub]
   have FF:=Ki.length_le
   refine aT (fun(k:Nat) ρ H3=>k≤n∧H2 <+: H3∧aI H3 H2.length k=some (((r.take k).map (· / cM m)).map bB,3,true)∧ρ 0=v∧ρ 3 = .ptr H.length 0 0 0∧ρ 6 = .ref H1.length i 0 i i∧ρ 7=VI i∧ρ 8 = .ref H2.length k 0 k k∧ρ 9=VI k) (fun k=>n-k) 0 ⟨Nat.zero_le _,List.prefix_append _ _,fN,by (repeat' apply And.intro)<;>first | rfl | trivial | assumption⟩ ?_
   clear g0 g3 g6 g7
   rintro k ρ H3 ⟨hk,hp3,kD,g0,g3,g6,g7,g8,g9⟩
   have akL:=Ki.trans hp3
   have el3:=hv.len H3 akL
   have hl3:=gN kD
   by_cases W2:(k:Int)<(m.length:Int)
   ·obtain⟨q,hq⟩:∃q,r[k]? = some q:=⟨_,List.getElem?_eq_getElem (by omega)⟩
    obtain⟨p,w,a1,a2,hw⟩:=hv.get H3 akL i r hr
    obtain⟨p2,a3,a4⟩:=hw.get H3 (List.prefix_refl _) k q hq
    have a4':=(a4 true).trans (fF _)
    have wk:IntKind.i64.wrap ((k:Int)+1)=((k+1:Nat):Int):=wrapN (k+1) (by omega) (by omega)
    have s3:bT true 3 (.ptr H.length 0 0 0) H3=some (bB (cM m)):=by
     rw[bQ,cR hp3 E1]
     exact fF _
    have e4:=KP q (cM m) hd (by have:=CC.2 q (List.mem_of_getElem? hq);omega) (by omega)
    have eL:∀H,jE false [.bool false,.slice none 0 0,.slice none 0 0] 1 [(0,bB (q / cM m))] H=some (.tree [bB (q / cM m)] (.cl 3),H):=fun H=>fZ rfl rfl rfl
    have eS:∀H,cU 3 (.tree [bB (q / cM m)] (.cl 3)) H=some [bB (q / cM m)]:=fun H=>dP rfl rfl
    have eP:=MJ (lo:=lo) (bytes:=56) (x:=q / cM m) kD (by simp;omega) (by omega) (by decide) (by decide) (by omega)
    simp only[vQ,g0,g3,g7,g8,g9,W2,el3,a1,a2,a3,a4',s3,e4,eL,eS,eP,wk,fB,VX,Nat.reduceEqDiff,Nat.reduceAdd,Nat.reduceLeDiff,Nat.reduceLT,Nat.reduceSub]
    exact⟨k+1,by omega,by omega,kS hp3 (Nat.le_refl _),by rw[gW hq,List.map_append (l₁:=r.take k)];exact bZ kD,by (repeat' apply And.intro)<;>first | rfl | trivial | assumption⟩
   ·have hke:k=n:=by omega
    subst hke
    rw[List.take_of_length_le (by omega)] at kD
    have e4:=MR
    simp only[vQ,g0,g3,g6,g7,g8,g9,W2,el3,e4,fB,VX,Nat.reduceEqDiff,Nat.reduceAdd,Nat.reduceLeDiff,Nat.reduceLT,Nat.reduceSub]
    have qb:=HX CC.2 bm
    have abO:(r.map (· / cM m)).length*(B+(k*(B+1)+1)+1+1)≤100*(B+(k*(B+1)+1)+1+1):=Nat.mul_le_mul_right _ (by rw[List.length_map];omega)
    have Gg:(r.map (· / cM m)).length=k:=by rw[List.length_map];omega
    refine lA rfl (Cd (H:=H3) (v := .ref H2.length k 0 k k) (r.map (· / cM m)) (Rd.row kD Gg.symm) (by omega) qb (by omega) (by omega) (by omega)) fun x L4 hx => ?_
    subst hx
    have hM4:=hM.pre (hp3.trans (List.prefix_append H3 L4))
    have akQ:=cR (hp3.trans (List.prefix_append H3 L4)) E1
    have hp4:=jV (L:=L4) akL
    have hl4:H3.length≤(H3++L4).length:=by rw[List.length_append];omega
    have k5:=cF (L:=L4) kD
    generalize H3++L4=H4 at *
    have b3:=tN (n:=k) qb (Nat.le_of_eq Gg)
    have aqI:k*(B+(k*(B+1)+1)+1+1)≤100*(B+(k*(B+1)+1)+1+1):=Nat.mul_le_mul_right _ hn
    have e5:=JX 1 (dY (r.map (· / cM m))) (by rw[HF];omega) (by omega)
    have a3:=bE (o:=0) (n:=k) (c:=k) (i:=i) (k := .i64) k5 (by omega)
    rw[Nat.zero_add] at a3
    have s5:bR lo 3 (.ptr H2.length k i 0) (bB (1-dY (r.map (· / cM m)))) H4=some (H4.set H2.length (.row k ((kA (cM m) i r).map bB) 3 true)):=fI (lo:=lo) (f:=bB) (x:=1-dY (r.map (· / cM m))) (j:=i) k5 (by omega) (by omega) rfl rfl
    have hM5:=hM4.cJ (H':=H4.set H2.length (.row k ((kA (cM m) i r).map bB) 3 true)) (dI.set (by omega))
    have k6:=bZ (g:=k) (e:=3) (w:=true) (es:=(kA (cM m) i r).map bB) k5
    have Vs:(kA (cM m) i r).length=k:=by rw[kA,List.length_set];exact Gg
    obtain⟨ap,hM6⟩:=hM5.snoc (gP:=lo) yT.symm (by omega) (by omega) ⟨H2.length,k,k,kA (cM m) i r⟩ (Nat.le_refl _) (by simp only[Vs];exact Nat.le_refl _) k6
    simp only[Vs] at ap
    have eL:∀K,jE false [.slice none 0 0] 1 [(0,.ref H2.length k 0 k k)] K=some (.tree [.ref H2.length k 0 k k] (.cl 1),K):=fun K=>fZ rfl rfl rfl
    have eS:∀K,cU 1 (.tree [.ref H2.length k 0 k k] (.cl 1)) K=some [.ref H2.length k 0 k k]:=fun K=>dP rfl rfl
    simp only[g6,g7,g8,e5,a3,s5,eL,eS,ap,wi,fB,VX,Nat.reduceEqDiff,Nat.reduceAdd,Nat.reduceLeDiff,Nat.reduceLT,Nat.reduceSub]
    refine⟨i+1,by omega,by omega,kS (kS hp4 (by omega)) (by omega),cD (by omega) (cD (by omega) akQ),⟨rs++[⟨H2.length,k,k,kA (cM m) i r⟩],by rw[List.length_append,yT];rfl,?_,?_⟩,by (repeat' apply And.intro)<;>first | rfl | trivial | assumption⟩
    ·have rL:(mY m)[i]? = some (kA (cM m) i r):=by
      rw[mY,BE (by omega),List.getD_eq_getElem?_getD,hr]
      rfl
     rw[gW rL,List.map_append,Kz]
     rfl
    ·exact hM6.wide (Nat.le_refl _) (by simp)
  ·have nZ:i=m.length:=by omega
   subst nZ
   rw[List.take_of_length_le (by rw[mY,uL];exact Nat.le_refl _)] at Kz
   simp only[vM,g0,g3,g6,g7,dA,el,fB,VX,Nat.reduceEqDiff,Nat.reduceAdd,Nat.reduceLeDiff,Nat.reduceLT,Nat.reduceSub]
   have Vs:(mY m).length=m.length:=by rw[mY,uL]
   exact⟨Ki,H1.length,m.length,m.length,rs,by rw[Vs],by rw[Vs];exact Nat.le_refl _,hM.wide hp.length_le (Nat.le_refl _),Kz⟩
end Go.PM
namespace Go.PM
open Go.Lib
end Go.PM
namespace Go.PM
open Go.Lib
section
variable {b:List Rat} {g:List (List Rat)} {e row:List Rat} {n i:Nat} {st:List Bool}
end
end Go.PM
namespace Go.PM
open Go.Lib
end Go.PM
namespace Go.PM
end Go.PM
namespace Go.PM
theorem sM (q:Rat):(aB (bB q)).all bO=true:=rfl
theorem Zq {lo k:Nat} {H K:aA} {x:VV} {q:Rat} (h:lo≤H.length) (hK:K[k]? = some (.row 0 [x] 3 true)):bR lo 3 (.ptr (H.length+k) 0 0 0) (bB q) (H++K)=some (H++K.set k (.row 0 [bB q] 3 true)):=by
 have hr:aI (H++K) (H.length+k) 0=some ([x],3,true):=by
  rw[cH,List.getElem?_append_right (by omega),Nat.add_sub_cancel_left]
  exact hK
 rw[bX (e:=3) hr (by exact Nat.zero_lt_one) (by omega) (nF q) (sM q),List.set_append_right _ _ (by omega),Nat.add_sub_cancel_left]
 rfl
theorem afZ {k:Nat} {H K:aA} {q:Rat} (hK:K[k]? = some (.row 0 [bB q] 3 true)):bT true 3 (.ptr (H.length+k) 0 0 0) (H++K)=some (bB q):=by
 have hr:aI (H++K) (H.length+k) 0=some ([bB q],3,true):=by
  rw[cH,List.getElem?_append_right (by omega),Nat.add_sub_cancel_left]
  exact hK
 rw[bQ,hr]
 exact fF q
theorem aqX {H:aA} {b:Nat} {q:Rat} (h:aI H b 0=some ([bB q],3,true)):bT true 3 (.ptr b 0 0 0) H=some (bB q):=by
 rw[bQ,h]
 exact fF q
end Go.PM
namespace Go.PM
open Go.Lib
section
variable {lo gP hi N b g c:Nat} {H:aA} {L:List Dw}
theorem Qy (hT:Tb aQ gP hi N N b g (fH L) H) (i j:Nat) (q:Rat) (mA:i<N) (hj:j<N) (dK:lo≤gP) (hF:aY (fH L i j)≤1000000) (hq:aY q≤1000000) :
  gU 95 [.ref b g 0 N c,VI i,VI j,aQ q] lo H fun _ H'=>MY gP hi H H'∧Tb aQ gP hi N N b g (fH (L++[(i,j,q)])) H':=by
 refine gU.walk ⟨true,false⟩ Dv (Nat.le_of_ble_eq_true rfl) ?_
 have lq:∀K,bT true 3 (.cT (aQ q) 0) K=some (aQ q):=fun K=>dC q
 by_cases h:i=j
 ·subst h
  simp only[qT,oL,Ln,ne_eq,not_true_eq_false,decide_false,if_true,fB,VX,Nat.reduceEqDiff,Nat.reduceAdd,Nat.reduceLeDiff,Nat.reduceLT,Nat.reduceSub]
  exact⟨MY.refl,by rw[Fu];exact hT⟩
 ·have fC:¬(i:Int)=(j:Int):=by omega
  obtain⟨rb,rg,rc,c1,c2,c3,c4⟩:=hT.spot mA hj Ia Ln
  obtain⟨H2,c5,c6,QP,_⟩:=c4 lo (fH L i j+q) dK
  have a1:=hT.addr (c:=c) mA
  have a2:=(c3 true).trans (dC _)
  have e1:=xB (fH L i j) q (by omega) (by omega)
  simp only[qT,oL,Ln,fC,a1,a2,c1,c2,c5,e1,lq,ne_eq,not_false_eq_true,decide_true,if_true,fB,VX,Nat.reduceEqDiff,Nat.reduceAdd,Nat.reduceLeDiff,Nat.reduceLT,Nat.reduceSub]
  exact⟨c6,by rw[Ft,R2 h];exact QP⟩
theorem MS (hT:Tb bB gP hi N N b g (fH L) H) (i j:Nat) (q:Rat) (mA:i<N) (hj:j<N) (dK:lo≤gP) (hF:aY (fH L i j)≤1000000) (hq:aY q≤1000000) :
  gU 90 [.ref b g 0 N c,VI i,VI j,bB q] lo H fun _ H'=>MY gP hi H H'∧Tb bB gP hi N N b g (fH (L++[(i,j,q)])) H':=by
 refine gU.walk ⟨true,false⟩ Nb (Nat.le_of_ble_eq_true rfl) ?_
 have lq:∀K,bT true 3 (.cT (bB q) 0) K=some (bB q):=fun K=>fF q
 by_cases h:i=j
 ·subst h
  simp only[DD,Ak,sM,ne_eq,not_true_eq_false,decide_false,if_true,fB,VX,Nat.reduceEqDiff,Nat.reduceAdd,Nat.reduceLeDiff,Nat.reduceLT,Nat.reduceSub]
  exact⟨MY.refl,by rw[Fu];exact hT⟩
 ·have fC:¬(i:Int)=(j:Int):=by omega
  obtain⟨rb,rg,rc,c1,c2,c3,c4⟩:=hT.spot mA hj nF sM
  obtain⟨H2,c5,c6,QP,_⟩:=c4 lo (fH L i j+q) dK
  have a1:=hT.addr (c:=c) mA
  have a2:=(c3 true).trans (fF _)
  have e1:=zZ (fH L i j) q (by omega) (by omega)
  simp only[DD,Ak,sM,fC,a1,a2,c1,c2,c5,e1,lq,ne_eq,not_false_eq_true,decide_true,if_true,fB,VX,Nat.reduceEqDiff,Nat.reduceAdd,Nat.reduceLeDiff,Nat.reduceLT,Nat.reduceSub]
  exact⟨c6,by rw[Ft,R2 h];exact QP⟩
structure Tq (f:Rat→VV) (lo hi N b g:Nat) (L:List Dw) (H:aA):Prop where
 t:Tb f lo hi N N b g (fH L) H
 b:∀t∈L,aY t.2.2≤1331
 l:L.length≤400
theorem Tq.bits {f:Rat→VV} (h:Tq f lo hi N b g L H) (i j:Nat):aY (fH L i j)≤1000000:=by
 have h1:=L6 h.b i j
 have h2:L.length*(1331+1)≤400*(1331+1):=Nat.mul_le_mul_right _ h.l
 omega
theorem Tq.cJ {f:Rat→VV} {H':aA} (h:Tq f lo hi N b g L H) (hk:dI lo hi H H'):Tq f lo hi N b g L H':=⟨h.t.cJ hk,h.b,h.l⟩
theorem Tq.pre {f:Rat→VV} {H':aA} (h:Tq f lo hi N b g L H) (hh:H <+: H'):Tq f lo hi N b g L H':=h.cJ (dI.pre hh)
theorem Tq.snoc {f:Rat→VV} {H':aA} {i j:Nat} {q:Rat} (h:Tq f lo hi N b g L H) (hT:Tb f lo hi N N b g (fH (L++[(i,j,q)])) H') (hq:aY q≤1331) (hl:L.length<400):Tq f lo hi N b g (L++[(i,j,q)]) H' :=
 ⟨hT,fun t ht=>by
  rcases List.mem_append.1 ht with ht | ht
  ·exact h.b t ht
  ·rw[List.mem_singleton] at ht
   subst ht
   exact hq,by rw[List.length_append];exact hl⟩
theorem Tq.same {f:Rat→VV} {i:Nat} {q:Rat} (h:Tq f lo hi N b g L H) (hq:aY q≤1331) (hl:L.length<400):Tq f lo hi N b g (L++[(i,i,q)]) H:=h.snoc (by rw[Fu];exact h.t) hq hl
theorem A3 {K:VV→aA→Prop} (hT:Tq aQ gP hi N b g L H) (i j:Nat) (q:Rat) (mA:i<N) (hj:j<N) (dK:lo≤gP) (hq:aY q≤1331) (hl:L.length<400)
  (hk:∀r H',MY gP hi H H'→Tq aQ gP hi N b g (L++[(i,j,q)]) H'→K r H'):cS 95 [.ref b g 0 N c,VI i,VI j,aQ q] lo H K :=
 gI rfl ((Qy hT.t i j q mA hj dK (hT.bits i j) (by omega)).mono fun r H' h=>hk r H' h.1 (hT.snoc h.2 hq hl))
theorem qI {K:VV→aA→Prop} (hT:Tq bB gP hi N b g L H) (i j:Nat) (q:Rat) (mA:i<N) (hj:j<N) (dK:lo≤gP) (hq:aY q≤1331) (hl:L.length<400)
  (hk:∀r H',MY gP hi H H'→Tq bB gP hi N b g (L++[(i,j,q)]) H'→K r H'):cS 90 [.ref b g 0 N c,VI i,VI j,bB q] lo H K :=
 gI rfl ((MS hT.t i j q mA hj dK (hT.bits i j) (by omega)).mono fun r H' h=>hk r H' h.1 (hT.snoc h.2 hq hl))
end
theorem SP {lo N:Nat} {H:aA} {K:VV→aA→Prop} (hN:N≤1000) (dK:lo≤H.length) (hk:∀b g c L,N≤c→Tq aQ H.length (H++L).length N b g [] (H++L)→K (.ref b g 0 N c) (H++L)):cS 94 [VI N] lo H K:=by
 refine lA rfl (gU.walk ⟨true,false⟩ Hs (Nat.le_of_ble_eq_true rfl) (K:=F5 (TabIs aQ 3 (M8 N N fun _ _=>0)) H) ?_) fun r L hr => ?_
 ·simp only[DE,A8,fB,VX,Nat.reduceEqDiff,Nat.reduceAdd,Nat.reduceLeDiff,Nat.reduceLT,Nat.reduceSub]
  refine lA rfl (Pt N hN dK) fun r L hr => ?_
  rw[Q7] at hr
  simp only[fB,VX,Nat.reduceEqDiff,Nat.reduceAdd,Nat.reduceLeDiff,Nat.reduceLT,Nat.reduceSub]
  exact⟨List.prefix_append _ _,hr⟩
 ·obtain⟨b,g,c,rfl,h1,h2⟩:=hr.tb
  exact hk b g c L h1 ⟨h2,(fun t ht=>by cases ht),by decide⟩
theorem Sb {lo N:Nat} {H:aA} {K:VV→aA→Prop} (hN:N≤1000) (dK:lo≤H.length) (hk:∀b g c L,N≤c→Tq bB H.length (H++L).length N b g [] (H++L)→K (.ref b g 0 N c) (H++L)):cS 76 [VI N] lo H K:=by
 refine lA rfl (JJ N hN dK) fun r L hr => ?_
 rw[Q7] at hr
 obtain⟨b,g,c,rfl,h1,h2⟩:=hr.tb
 exact hk b g c L h1 ⟨h2,(fun t ht=>by cases ht),by decide⟩
theorem anC {H:aA} {es:List VV} {k:Nat} (hp:aM es=true):PM.fz depth H (.tree es (.cl k))=some (.tree es .op):=by
 have h0:aN (.tree es (.cl k))=false:=by simp[aN]
 show PM.fz (7+1) H _=_
 unfold PM.fz
 simp only[h0,Bool.false_eq_true,if_false]
 rw[mapM_pure (n:=6) hp]
 rfl
theorem WI {H:aA} {es:List VV} {k:Nat} (hp:aM es=true):hC depth H (.tree es (.cl k))=[]:=by
 have h0:aN (.tree es (.cl k))=false:=by simp[aN]
 show hC (7+1) H _=_
 unfold hC
 simp only[h0,Bool.false_eq_true,if_false]
 exact wM hp
theorem TC.cl {f lo k:Nat} {H:aA} {es:List VV} {r:VV} {K:VV→aA→Prop} (h:TC f [.tree es .op] r) (hr:Cy.contains f=false) (hp:aM es=true) (Cs:aN (.tree es .op)=true):cS f [.tree es (.cl k)] lo H K=K r H:=by
 have h0:aN (.tree es (.cl k))=false:=by simp[aN]
 rw[h.DA (H:=H) (lo:=lo) (k:=K) hr (akE Cs) (fz1 (anC hp)) (by simp[aM,h0]),List.flatMap_cons,WI hp]
 split<;>rfl
def Dk (o:Option Rat):VV:=match o with
 | some q => .dT [bB q,VB (decide (0<q))]
 | none => .dT [Fy,VB false]
set_option maxHeartbeats 1000000 in
theorem rO (x:ByteArray) (hx:x.size≤1000000000):TC 87 [sV x] (Dk (pQ x)):=by
 refine TC.walk ⟨true,false⟩ Lx rfl (Nat.le_of_ble_eq_true rfl) rfl (by unfold Dk;split<;>simp[gJ,qE,rP,GR,kC]) ?_
 have e1:=JZ x.data.toList (by rw[Array.length_toList];show x.size≤_;omega)
 rw[←acC] at e1
 have s2:∀q,bR 0 3 (.ptr 1 0 0 0) (bB q) [cell0,cell0]=some [cell0,.row 0 [bB q] 3 true]:=fun q=>Zq (lo:=0) (H:=[]) (k:=1) (Nat.zero_le _) rfl
 have l2:∀q,bT true 3 (.ptr 1 0 0 0) [cell0,.row 0 [bB q] 3 true]=some (bB q):=fun q=>afZ (H:=[]) (k:=1) rfl
 cases hp:pQ x with
 |
  none =>
  rw[RB hp] at e1
  simp only[sX,oJ,e1,Dk,Dm,Fa,LC,aU,aV,aP,iS,Nat.reduceLeDiff,Nat.reduceLT,Nat.reduceSub,Ey,kZ,nC,uA,Ba,Au,bne_iff_ne,ne_eq,not_false_eq_true,not_true_eq_false,fB,VX,Nat.reduceEqDiff,Nat.reduceAdd,Nat.reduceLeDiff,Nat.reduceLT,Nat.reduceSub]
  exact aF (tL Ot rfl)
 |
  some q =>
  rw[QD hp] at e1
  have e2:=Ku q
  have e3:=Ns q
  by_cases hz:q=0
  ·rw[decide_eq_true hz] at e2
   have h0:¬0<q:=by rw[hz];exact Rat.lt_irrefl
   simp only[sX,oJ,e1,e2,e3,s2,l2,Dk,h0,decide_false,Bool.not_true,nF,sM,fF,iS,Nat.reduceLeDiff,Nat.reduceLT,Nat.reduceSub,Ey,kZ,nC,uA,Ba,Au,bne_iff_ne,ne_eq,not_false_eq_true,not_true_eq_false,fB,VX,Nat.reduceEqDiff,Nat.reduceAdd,Nat.reduceLeDiff,Nat.reduceLT,Nat.reduceSub]
   exact aF (tL (jK _) rfl)
  ·rw[decide_eq_false hz] at e2
   by_cases pO:q.num<0
   ·rw[decide_eq_true pO] at e3
    have h0:¬0<q:=fun h=>by have:=U2.1 pO;grind
    simp only[sX,oJ,e1,e2,e3,s2,l2,Dk,h0,decide_false,Bool.not_true,Bool.not_false,nF,sM,fF,iS,Nat.reduceLeDiff,Nat.reduceLT,Nat.reduceSub,Ey,kZ,nC,uA,Ba,Au,bne_iff_ne,ne_eq,not_false_eq_true,not_true_eq_false,fB,VX,Nat.reduceEqDiff,Nat.reduceAdd,Nat.reduceLeDiff,Nat.reduceLT,Nat.reduceSub]
    exact aF (tL (jK _) rfl)
   ·rw[decide_eq_false pO] at e3
    have h0:0<q:=by have:=mt U2.2 pO;grind
    simp only[sX,oJ,e1,e2,e3,s2,l2,Dk,h0,decide_true,Bool.not_false,nF,sM,fF,iS,Nat.reduceLeDiff,Nat.reduceLT,Nat.reduceSub,Ey,kZ,nC,uA,Ba,Au,bne_iff_ne,ne_eq,not_false_eq_true,not_true_eq_false,fB,VX,Nat.reduceEqDiff,Nat.reduceAdd,Nat.reduceLeDiff,Nat.reduceLT,Nat.reduceSub]
    exact aF (tL (jK _) rfl)
theorem aaF {n lo hi b g c:Nat} {p:Nat×List Dw} {H:aA} {K:VV→aA→Prop} (hp:QOk p) (hT:Tq aQ lo hi p.1 b g p.2 H) (hn:n≤H.length)
  (hk:∀x L,TabIs aQ 3 (mY (qW p)) H.length (H++L).length (H++L) x→K x (H++L)):cS 72 [.ref b g 0 p.1 c] n H K :=
 lA rfl (SF (H:=H) (v := .ref b g 0 p.1 c) (qW p) (n:=p.1) (B:=600000) hT.t.rdT hn Bn (by have:=hp.n;omega) (by decide) hp.rows hp.apK) hk
theorem TabIs.fz {f:Rat→VV} {m:List (List Rat)} {lo hi:Nat} {H:aA} {v:VV} (h:TabIs f 3 m lo hi H v) (hpu:∀x,aN (f x)=true):PM.fz depth H v=some (aS (aS f) m):=by
 obtain⟨b,g,c,rs,rfl,k1,hM,Kz⟩:=h
 have yT:rs.length=m.length:=by rw[←Kz,List.length_map]
 have UX:=hM.fz (d:=5) (c:=c) (by omega) hpu
 rw[Kz,yT] at UX
 exact UX
theorem TabIs.fzd {d:Nat} {f:Rat→VV} {m:List (List Rat)} {lo hi:Nat} {H:aA} {v:VV} (h:TabIs f 3 m lo hi H v) (hpu:∀x,aN (f x)=true):PM.fz (d+3) H v=some (aS (aS f) m):=by
 obtain⟨b,g,c,rs,rfl,k1,hM,Kz⟩:=h
 have yT:rs.length=m.length:=by rw[←Kz,List.length_map]
 have UX:=hM.fz (d:=d) (c:=c) (by omega) hpu
 rw[Kz,yT] at UX
 exact UX
theorem adE:Sz none = .dT [.tree [] .op,VB false]:=rfl
theorem wN {x:Int} (k:Nat) (h:x=k) (hk:k≤1000000000):IntKind.i64.wrap x=(k:Int):=by
 subst h
 exact wrapN k (by omega) (by omega)
theorem QOk.told {p:Nat×List Dw} (hp:QOk p):(mY (qW p)).length≤1000000∧∀r∈mY (qW p),r.length≤1000000∧∀q∈r,aY q≤1099511627776:=by
 have hn:=hp.n
 obtain⟨el,eb⟩:=OC Bn (B:=600000) hp.rows (by omega) (by omega)
 exact⟨by omega,fun r hr=>⟨by have:=(eb r hr).1;omega,fun q hq=>by have:=(eb r hr).2 q hq;omega⟩⟩
end Go.PM
namespace Go.PM
structure Wt (s:Kl):Prop where
 b:s.b.length≤100
 g:s.g.length≤100
 r:∀x∈s.g,x.length≤100
 e:s.e.length≤100
theorem BK {β:Type}:∀ {xs:List (List β)} {n:Nat},(∀x∈xs,x.length≤n)→cY xs≤xs.length*n
 | [],n,_=>by simp[cY]
 |
  x::xs,n,h=>by
  have h1:=h x List.mem_cons_self
  have h2:=BK (xs:=xs) (n:=n) fun y hy=>h y (List.mem_cons_of_mem _ hy)
  have e:cY (x::xs)=x.length+cY xs:=by simp[cY]
  rw[e,List.length_cons,Nat.add_mul,Nat.one_mul]
  omega
theorem Wt.n {s:Kl} (h:Wt s):svN s≤10200:=by
 have h1:=BK h.r
 have h2:s.g.length*100≤100*100:=Nat.mul_le_mul_right _ h.g
 have h3:=h.b
 have h4:=h.e
 unfold svN
 omega
def Ag3 (v:VV):Prop:=∃a b c,v = .agg [a,b,c]∧bO a=true∧bO b=true∧bO c=true
theorem Vv.ag3 {s:Kl} {lo hi:Nat} {H:aA} {v:VV} (h:Vv s lo hi H v):Ag3 v:=by
 obtain⟨a,b,c,h1,h2,h3,h4,_⟩:=h.own (n:=0) (Nat.zero_le _)
 exact⟨a,b,c,h1,h2,h3,h4⟩
theorem SvS.ag3 {s:Kl} {lo hi:Nat} {H:aA} {v:VV} (h:SvS s lo hi H v):Ag3 v:=by
 obtain⟨⟨a,b,c,h1,h2,h3,h4,_⟩,_⟩:=h
 exact⟨a,b,c,h1,h2,h3,h4⟩
theorem TE {m:List (List Rat)} {y:List (List ByteArray)} {B:Nat} (h:vV m=some y) (hB:∀r∈m,r.length≤B):y.length=m.length∧∀x∈y,x.length≤B :=
 ⟨tA h,fun x hx=>by
  have key:∀ {m:List (List Rat)} {y:List (List ByteArray)},m.mapM Co=some y→(∀r∈m,r.length≤B)→∀x∈y,x.length≤B:=by
   intro m
   induction m with
   | nil=>intro y h _ x hx;cases h;cases hx
   |
    cons r m ih =>
    intro y h hB x hx
    obtain⟨z,zs,h1,h2,rfl⟩:=lR h
    rcases List.mem_cons.1 hx with rfl | hx
    ·rw[Xc h1];exact hB r List.mem_cons_self
    ·exact ih h2 (fun r hr=>hB r (List.mem_cons_of_mem _ hr)) x hx
  exact key h hB x hx⟩
end Go.PM
namespace Go.PM
open Go.Lib
theorem YF.wide {α:Type} {f:α→VV} {e:Nat} {o:Option (List α)}:∀ {lo hi gP mA:Nat} {H:aA} {v:VV},YF f e o lo hi H v→gP≤lo→hi≤mA→YF f e o gP mA H v:=by
 intro lo hi gP mA H v h hl hh
 cases o with
 | none=>exact h
 |
  some ys =>
  obtain⟨b,g,c,h1,h2,h3⟩:=h
  exact⟨b,g,c,by omega,by omega,h3⟩
end Go.PM
namespace Go.PM
structure yW (s:List (List ByteArray)):Prop where
 g:s.length≤100
 r:∀x∈s,x.length≤100
theorem yW.n {s:List (List ByteArray)} (h:yW s):cY s≤10000:=by
 have h1:=BK h.r
 have h2:s.length*100≤100*100:=Nat.mul_le_mul_right _ h.g
 omega
theorem aiW {lo:Nat} {s:List (List ByteArray)} {H:aA} {v w:VV} {K:VV→aA→Prop} (hs:yW s) (hv:PM.fz depth H v=some (Zf s)) (hw:PM.fz depth H w=some (Zf s)):cS 19 [v,w] lo H K=K (VB true) H:=by
 have h:=Lz s s (by have:=hs.g;omega) (fun x hx=>by have:=hs.r x hx;omega)
 rw[decide_eq_true rfl] at h
 exact TC.flat h rfl (HH (Be _) (Be _)) (fz2 hv hw) rfl _ _
theorem Wk {lo:Nat} {s:List (List ByteArray)} {H:aA} {v:VV} {K:VV→aA→Prop} (hs:yW s) (hv:PM.fz depth H v=some (Zf (qU 101 s))):cS 23 [v,VI 101] lo H K=K (VI (101+cY s)) H:=by
 have h:=Hx 101 s (by omega) (by have:=hs.g;omega) (by have:=hs.n;omega)
 exact TC.flat h rfl (HH (Be _) rfl) (fz2 hv (aF rfl)) rfl _ _
def Ag1 (v:VV):Prop:=∃a,v = .agg [a]∧bO a=true
theorem CG.ag3 {s:List (List ByteArray)} {lo hi:Nat} {H:aA} {v:VV} (h:CG s lo hi H v):Ag1 v:=by
 obtain⟨c,h1,h2,_,_⟩:=h.own (n:=0) (Nat.zero_le _)
 exact⟨c,h1,h2⟩
theorem TQ {lo:Nat} {H:aA} {v:VV} (h:Ag1 v) (dK:lo≤H.length):bR lo 1 (.ptr H.length 0 0 0) v (H++[.row 0 [.tree [] .nil] 1 true])=some (H++[.row 0 [v] 1 true]):=by
 obtain⟨a,rfl,h1⟩:=h
 rw[bX (e:=1) (g:=0) (j:=0) fN (by exact Nat.zero_lt_one) dK rfl (by simp[aB,h1]),Gm]
 rfl
theorem NB {b:Nat} {H:aA} {v:VV} (h:Ag1 v) (hr:aI H b 0=some ([v],1,true)):bT true 1 (.ptr b 0 0 0) H=some v:=by
 obtain⟨a,rfl,_⟩:=h
 rw[bQ,hr]
 rfl
end Go.PM
namespace Go.PM
theorem Qd {a b c d e:VV} (ha:aN a=true) (hb:aN b=true) (hc:aN c=true) (hd:aN d=true) (he:aN e=true):aM [a,b,c,d,e]=true:=by simp[aM,ha,hb,hc,hd,he]
theorem fz5 {d:Nat} {H:aA} {a b c e f a' b' c' e' f':VV} (ha:fz d H a=some a') (hb:fz d H b=some b') (hc:fz d H c=some c') (he:fz d H e=some e') (hf:fz d H f=some f'):[a,b,c,e,f].mapM (fz d H)=some [a',b',c',e',f']:=by
 rw[List.mapM_cons,ha,List.mapM_cons,hb,List.mapM_cons,hc,List.mapM_cons,he,List.mapM_cons,hf]
 rfl
theorem PH {o:Option (Nat×List Dw)} (h:∀p,o=some p→QOk p):yW ((FL o).getD []):=by
 have h0:yW []:=⟨by decide,fun x hx=>by cases hx⟩
 cases o with
 | none=>exact h0
 |
  some p =>
  have hp:=h p rfl
  show yW ((vV (mY (qW p))).getD [])
  cases ht:vV (mY (qW p)) with
  | none=>exact h0
  |
   some y =>
   have hn:=hp.n
   obtain⟨e1,e2⟩:=OC Bn hp.rows (by omega) (by omega)
   obtain⟨j1,j2⟩:=TE (B:=100) ht fun r hr=>by have:=(e2 r hr).1;omega
   exact⟨by rw[Option.getD_some,j1,e1];omega,j2⟩
def yC (a s f m:ByteArray) (lU:Int):=FL (jR a s f m lU)
theorem Qe (a s f m:ByteArray) (lU:Int):yW ((yC a s f m lU).getD []):=PH fun _=>A6
end Go.PM
namespace Go.PM
open Go.Lib
theorem Yg {z:List Value} {u v w x:VV} {H:aA} (hz:(z.map jD).all bO=true) (hu:(aB u).length=z.length) (hus:(aB u).all bO=true) (hv:(aB v).length=z.length) (hs:(aB v).all bO=true) (hw:(aB w).length=z.length) (hws:(aB w).all bO=true) (hx:(aB x).length=z.length) (Nr:(aB x).all bO=true):jE false z 4 [(0,u),(1,v),(2,w),(3,x)] H=some (.tree [u,v,w,x] (.cl z.length),H):=by
 simp[jE,uG,hv,hs,hu,hus,hw,hws,hx,Nr,hz,List.replicate_succ]
def MV (o:Option (Nat×List Dw)):VV:=match o with
 | some p => .dT [aS (aS aQ) (mY (qW p)),VB true]
 | none => .dT [.tree [] .op,VB false]
theorem Z5 (o:Option (Nat×List Dw)):gJ (MV o)=true:=by
 unfold MV
 split
 ·exact Bh (agJ _) rfl
 ·exact Bh (by decide) rfl
set_option maxHeartbeats 1000000 in
theorem F3 (o:Option (Nat×List Dw)) (ho:∀p,o=some p→QOk p) (v:VV) (ok:Bool) (h:MV o = .dT [v,VB ok]):FC 103 [v,VB ok] (Vx (CG ((FL o).getD [])) (FL o).isSome):=by
 refine FC.Jt ⟨true,false⟩ Hk (Nat.le_of_ble_eq_true rfl) fun n => ?_
 cases o with
 |
  none =>
  unfold MV at h
  injection h with h
  injection h with h1 h2
  injection h2 with h2 _
  injection h2 with h2
  injection h2 with h2
  subst h1 h2
  obtain⟨f1,f2,f3⟩:=Zp (n:=n) (bH:=FL none) (AP (n:=n) (K:=[])) (Nat.le_refl _) rfl
  simp only[vK,sK,f1,f2,gE,EY,List.length_replicate,Bool.not_false,fB,VX,Nat.reduceEqDiff,Nat.reduceAdd,Nat.reduceLeDiff,Nat.reduceLT,Nat.reduceSub]
  exact f3
 |
  some p =>
  unfold MV at h
  injection h with h
  injection h with h1 h2
  injection h2 with h2 _
  injection h2 with h2
  injection h2 with h2
  subst h1 h2
  have hQ:=ho p rfl
  simp only[vK,sK,gE,EY,List.length_replicate,Bool.not_true,fB,VX,Nat.reduceEqDiff,Nat.reduceAdd,Nat.reduceLeDiff,Nat.reduceLT,Nat.reduceSub]
  refine O5 (Ig _ hQ.told.1 hQ.told.2) rfl (fz1 (aF (SI _))) (AP (n:=n) (K:=[])) (Nat.le_refl _) fun v H2 H3 t1 t2 t3 => ?_
  simp only[t1,t2,fB,VX,Nat.reduceEqDiff,Nat.reduceAdd,Nat.reduceLeDiff,Nat.reduceLT,Nat.reduceSub]
  exact t3
set_option maxHeartbeats 4000000 in
theorem G9 (a s f m:ByteArray) (lU:Int) (ha:a.size≤1000000000) (hs:s.size≤1000000000) (hf:f.size≤1000000000) (hm:m.size≤1000000000):TC 104 [sV a,sV s,sV f,sV m,VI lU] (MV (jR a s f m lU)):=by
 refine TC.walk ⟨true,false⟩ Gy rfl (Nat.le_of_ble_eq_true rfl) (Qd rfl rfl rfl rfl rfl) (Z5 _) ?_
 have eL:∀K,jE false [.string ⟨#[]⟩] 4 [(0,sV a),(1,sV s),(2,sV f),(3,sV m)] K=some (.tree [sV a,sV s,sV f,sV m] (.cl 1),K):=fun K=>Yg rfl rfl rfl rfl rfl rfl rfl rfl rfl
 have e1:∀lo H K,cS 92 [.tree [sV a,sV s,sV f,sV m] (.cl 1)] lo H K=K (Sz (Yp [a,s,f,m])) H:=fun lo H K=>TC.cl (IG [a,s,f,m] (by simp) (by simp[ha,hs,hf,hm])) rfl rfl (qY [a,s,f,m])
 have e3:=WV lU 1 5
 have bad:jR a s f m lU=none→∀H,PM.fz depth H (.dT [.tree [] .nil,VB false])=some (MV (jR a s f m lU)):=fun h H=>by rw[h];exact bP (d:=6) CM (aJ (v:=VB false) rfl)
 cases lE:Yp [a,s,f,m] with
 |
  none =>
  have hn:jR a s f m lU=none:=by
   rw[HZ] at lE
   unfold jR
   split at lE
   ·cases lE
   ·rfl
  simp only[lE] at e1
  simp only[qL,nY,eL,e1,adE,fB,VX,Nat.reduceEqDiff,Nat.reduceAdd,Nat.reduceLeDiff,Nat.reduceLT,Nat.reduceSub]
  exact bad hn _
 | some qs =>
 rw[HZ] at lE
 split at lE
 case h_2=>cases lE
 rename_i x y z w hx hy hz hw
 have e1:∀lo H K,cS 92 [.tree [sV a,sV s,sV f,sV m] (.cl 1)] lo H K=K (.dT [aS aQ [x,y,z,w],VB true]) H:=fun lo H K=>by rw[e1,HZ,hx,hy,hz,hw];rfl
 by_cases hl:1≤lU∧lU≤5
 case neg =>
  rw[decide_eq_false hl] at e3
  simp only[qL,nY,eL,e1,e3,fB,VX,Nat.reduceEqDiff,Nat.reduceAdd,Nat.reduceLeDiff,Nat.reduceLT,Nat.reduceSub]
  exact bad (by unfold jR;rw[hx,hy,hz,hw];exact if_neg hl) _
 rw[decide_eq_true hl] at e3
 have hO:jR a s f m lU=some (2*lU.toNat+2,oD x y z w lU.toNat (lU.toNat+1)):=by unfold jR;rw[hx,hy,hz,hw];exact if_pos hl
 have hQ:=A6 hO
 rw[hO]
 obtain⟨M,rfl⟩:∃M:Nat,lU=M:=⟨lU.toNat,by omega⟩
 simp only[Int.toNat_natCast] at hQ ⊢
 have bx:=oY hx
 have bby:=oY hy
 have bz:=oY hz
 have bw:=oY hw
 have w1:IntKind.i64.wrap ((M:Int)+1)=((M+1:Nat):Int):=wN _ (by omega) (by omega)
 have w2:IntKind.i64.wrap (2*(M:Int))=((2*M:Nat):Int):=wN _ (by omega) (by omega)
 have w3:IntKind.i64.wrap (((2*M:Nat):Int)+2)=((2*M+2:Nat):Int):=wN _ (by omega) (by omega)
 have a0:∀H,bJ 3 (aS aQ [x,y,z,w]) (VI 0) H=some ((aQ x).cT 0):=fun H=>aK (f:=aQ) (xs:=[x,y,z,w]) (i:=0) rfl rfl
 have a1:∀H,bJ 3 (aS aQ [x,y,z,w]) (VI 1) H=some ((aQ y).cT 0):=fun H=>aK (f:=aQ) (xs:=[x,y,z,w]) (i:=1) rfl rfl
 have a2:∀H,bJ 3 (aS aQ [x,y,z,w]) (VI 2) H=some ((aQ z).cT 0):=fun H=>aK (f:=aQ) (xs:=[x,y,z,w]) (i:=2) rfl rfl
 have a3:∀H,bJ 3 (aS aQ [x,y,z,w]) (VI 3) H=some ((aQ w).cT 0):=fun H=>aK (f:=aQ) (xs:=[x,y,z,w]) (i:=3) rfl rfl
 simp only[qL,nY,eL,e1,e3,w2,w3,fB,VX,Nat.reduceEqDiff,Nat.reduceAdd,Nat.reduceLeDiff,Nat.reduceLT,Nat.reduceSub]
 refine SP (by omega) (Nat.zero_le _) fun b g c H hc hT => ?_
 rw[List.nil_append] at hT ⊢
 simp only[w1,fB,VX,Nat.reduceEqDiff,Nat.reduceAdd,Nat.reduceLeDiff,Nat.reduceLT,Nat.reduceSub]
 refine aT (fun(i:Nat) ρ H1=>i≤M+1∧Tq aQ 0 H.length (2*M+2) b g (oD x y z w M i) H1∧ρ 4=VI M∧ρ 12=aS aQ [x,y,z,w]∧ρ 14 = .ref b g 0 (2*M+2) c∧ρ 39=VI (M+1:Nat)∧ρ 40=VI i) (fun i=>M+1-i) 0
  ⟨Nat.zero_le _,hT,by (repeat' apply And.intro)<;>first | rfl | trivial | assumption⟩ ?_
 clear hT
 rintro i ρ H1 ⟨hi,hT,g4,g12,g14,g39,g40⟩
 have hgl:=Bm (x:=x) (y:=y) (f:=z) (m:=w) (lU:=M) i
 by_cases dA:(i:Int)<((M+1:Nat):Int)
 ·have wi:IntKind.i64.wrap ((i:Int)+1)=((i+1:Nat):Int):=wN _ (by omega) (by omega)
  have u1:IntKind.i64.wrap (2*(i:Int))=((2*i:Nat):Int):=wN _ (by omega) (by omega)
  have u2:IntKind.i64.wrap (((2*i:Nat):Int)+1)=((2*i+1:Nat):Int):=wN _ (by omega) (by omega)
  have u3:min ((i+1:Nat):Int) (M:Int)=((min (i+1) M:Nat):Int):=by omega
  have u4:IntKind.i64.wrap (2*((min (i+1) M:Nat):Int))=((2*min (i+1) M:Nat):Int):=wN _ (by omega) (by omega)
  have u5:IntKind.i64.wrap (((2*min (i+1) M:Nat):Int)+1)=((2*min (i+1) M+1:Nat):Int):=wN _ (by omega) (by omega)
  have u6:IntKind.i64.wrap ((i:Int)-1)=(i:Int)-1:=wrap64 (by omega) (by omega)
  have u7:max ((i:Int)-1) 0=((i-1:Nat):Int):=by omega
  have u8:IntKind.i64.wrap (2*((i-1:Nat):Int))=((2*(i-1):Nat):Int):=wN _ (by omega) (by omega)
  have hmn:min (i+1) M≤M:=Nat.min_le_right _ _
  have h1:2*min (i+1) M<2*M+2:=by omega
  have h2:2*min (i+1) M+1<2*M+2:=by omega
  simp only[rD,g4,g12,g14,g39,g40,dA,wi,u1,u2,u3,u4,a0,dC,fB,VX,Nat.reduceEqDiff,Nat.reduceAdd,Nat.reduceLeDiff,Nat.reduceLT,Nat.reduceSub]
  refine A3 hT (2*i) (2*min (i+1) M) x (by omega) h1 (by omega) bx.1 (by omega) fun _ H2 o2 QP => ?_
  simp only[g4,g12,g14,g39,g40,wi,u1,u2,u3,u4,u5,a0,dC,fB,VX,Nat.reduceEqDiff,Nat.reduceAdd,Nat.reduceLeDiff,Nat.reduceLT,Nat.reduceSub]
  refine A3 QP (2*i+1) (2*min (i+1) M+1) x (by omega) h2 (by omega) bx.1 (by simp only[List.length_append,List.length_cons,List.length_nil];omega) fun _ H3 o3 hT3 => ?_
  simp only[g4,g12,g14,g39,g40,wi,u1,u2,u6,u7,u8,a1,dC,fB,VX,Nat.reduceEqDiff,Nat.reduceAdd,Nat.reduceLeDiff,Nat.reduceLT,Nat.reduceSub]
  refine A3 hT3 (2*i) (2*(i-1)) y (by omega) (by omega) (by omega) bby.1 (by simp only[List.length_append,List.length_cons,List.length_nil];omega) fun _ H4 o4 hT4 => ?_
  simp only[g4,g12,g14,g39,g40,wi,u1,u2,a2,dC,fB,VX,Nat.reduceEqDiff,Nat.reduceAdd,Nat.reduceLeDiff,Nat.reduceLT,Nat.reduceSub]
  refine A3 hT4 (2*i) (2*i+1) z (by omega) (by omega) (by omega) bz.1 (by simp only[List.length_append,List.length_cons,List.length_nil];omega) fun _ H5 o5 hT5 => ?_
  simp only[g4,g12,g14,g39,g40,wi,u1,u2,a3,dC,fB,VX,Nat.reduceEqDiff,Nat.reduceAdd,Nat.reduceLeDiff,Nat.reduceLT,Nat.reduceSub]
  refine A3 hT5 (2*i+1) (2*i) w (by omega) (by omega) (by omega) bw.1 (by simp only[List.length_append,List.length_cons,List.length_nil];omega) fun _ H6 o6 ZS => ?_
  simp only[g40,wi,fB,VX,Nat.reduceEqDiff,Nat.reduceAdd,Nat.reduceLeDiff,Nat.reduceLT,Nat.reduceSub]
  simp only[List.append_assoc,List.cons_append,List.nil_append] at ZS
  exact⟨i+1,by omega,by omega,ZS,by (repeat' apply And.intro)<;>first | rfl | trivial | assumption⟩
 ·have nZ:i=M+1:=by omega
  subst nZ
  simp only[rD,g12,g14,g39,g40,dA,fB,VX,Nat.reduceEqDiff,Nat.reduceAdd,Nat.reduceLeDiff,Nat.reduceLT,Nat.reduceSub]
  refine aaF (H:=H1) (p:=(2*M+2,oD x y z w M (M+1))) hQ hT (Nat.zero_le _) fun r L2 hr => ?_
  simp only[fB,VX,Nat.reduceEqDiff,Nat.reduceAdd,Nat.reduceLeDiff,Nat.reduceLT,Nat.reduceSub]
  exact bP (d:=6) (hr.fzd (d:=4) gX) (aJ (v:=VB true) rfl)
set_option maxHeartbeats 1000000 in
theorem Gx (a s f m:ByteArray) (lU:Int) (ha:a.size≤1000000000) (hs:s.size≤1000000000) (hf:f.size≤1000000000) (hm:m.size≤1000000000):FC 39 [sV a,sV s,sV f,sV m,VI lU] (Vx (CG ((yC a s f m lU).getD [])) (yC a s f m lU).isSome):=by
 refine FC.Jt ⟨true,false⟩ GJ (Nat.le_of_ble_eq_true rfl) fun n => ?_
 have e1:=G9 a s f m lU ha hs hf hm
 obtain⟨v,ok,hv⟩:∃v ok,MV (jR a s f m lU) = .dT [v,VB ok]:=by unfold MV;split<;>exact⟨_,_,rfl⟩
 have hp:aN v=true:=by
  unfold MV at hv
  split at hv<;>(injection hv with hv;injection hv with h1 h2;subst h1)
  ·exact SI _
  ·rfl
 have eS:=F3 (jR a s f m lU) (fun _=>A6) v ok hv
 rw[hv] at e1
 simp only[B3,zG,e1,gE,EY,List.length_replicate,fB,VX,Nat.reduceEqDiff,Nat.reduceAdd,Nat.reduceLeDiff,Nat.reduceLT,Nat.reduceSub]
 refine O5 eS rfl (fz2 (aF hp) (aF rfl)) (AP (n:=n) (K:=[])) (Nat.le_refl _) fun v H2 H3 t1 t2 t3 => ?_
 simp only[t1,t2,fB,VX,Nat.reduceEqDiff,Nat.reduceAdd,Nat.reduceLeDiff,Nat.reduceLT,Nat.reduceSub]
 exact t3
end Go.PM
namespace Go.PM
open Go.Lib
theorem X3 {x:ByteArray} {q:Rat} (h:pJ x=some q):Dk (pQ x) = .dT [bB q,VB true]:=by
 obtain⟨h1,h2⟩:=Ic h
 rw[h1]
 unfold Dk
 simp only[h2,decide_true]
theorem acN {x:ByteArray} (h:pJ x=none):∃z,Dk (pQ x) = .dT [z,VB false]∧(aB z).length=3∧(aB z).all bO=true:=by
 unfold pJ at h
 cases hp:pQ x with
 | none=>exact⟨_,rfl,rfl,rfl⟩
 |
  some q =>
  rw[hp] at h
  by_cases h0:0<q
  ·simp only[h0,if_true] at h
   cases h
  ·exact⟨bB q,by unfold Dk;simp only[h0,decide_false],nF q,sM q⟩
end Go.PM
namespace Go.PM
open Go.Lib
theorem zH (a:ByteArray):∃z b,Dk (pQ a) = .dT [z,VB b]∧(aB z).length=3∧(aB z).all bO=true∧b=(pJ a).isSome∧∀q,pJ a=some q→z=bB q:=by
 cases hx:pJ a with
 | none=>obtain⟨z,h1,h2,h3⟩:=acN hx;exact⟨z,false,h1,h2,h3,rfl,fun q h=>by cases h⟩
 | some q=>exact⟨bB q,true,X3 hx,nF q,sM q,rfl,fun p h=>by cases h;rfl⟩
theorem FT {k:Nat} {K:aA} {x y:VV} (hK:K[k]? = some (.row 0 [x] 3 true)) (hy:(aB y).length=3) (hs:(aB y).all bO=true):bR 0 3 (.ptr k 0 0 0) y K=some (K.set k (.row 0 [y] 3 true)):=by
 have hr:aI K k 0=some ([x],3,true):=by rw[cH];exact hK
 rw[bX (e:=3) hr (by exact Nat.zero_lt_one) (by omega) hy hs]
 rfl
def CD (n:Nat) (qs:List Rat) (H:aA):Prop:=∀k q,qs[k]? = some q→aI H (n+k) 0=some ([bB q],3,true)
theorem CD.out {n lo hi:Nat} {qs:List Rat} {H H':aA} (h:CD n qs H) (o:MY lo hi H H') (hl:n+qs.length≤lo):CD n qs H':=fun k q hk=>by
 have:=(List.getElem?_eq_some_iff.1 hk).1
 exact o.2 _ _ _ (by omega) (h k q hk)
theorem CD.app {n:Nat} {qs:List Rat} {H L:aA} (h:CD n qs H):CD n qs (H++L):=fun k q hk=>cF (h k q hk)
theorem CD.ld {n k:Nat} {q:Rat} {qs:List Rat} {H:aA} (h:CD n qs H) (hk:qs[k]? = some q):bT true 3 (.ptr (n+k) 0 0 0) H=some (bB q):=aqX (h k q hk)
def ahP (o:Option (Nat×List Dw)):VV:=match o with
 | some p => .dT [aS (aS bB) (qW p),VB true]
 | none => .dT [.tree [] .op,VB false]
theorem acM (o:Option (Nat×List Dw)):gJ (ahP o)=true:=by
 unfold ahP
 split
 ·exact Bh (abM _) rfl
 ·exact Bh (by decide) rfl
set_option maxHeartbeats 8000000 in
set_option maxRecDepth 20000 in
theorem Ip (a s f m:ByteArray) (lU:Int) (ha:a.size≤1000000000) (hs:s.size≤1000000000) (hf:f.size≤1000000000) (hm:m.size≤1000000000):TC 102 [sV a,sV s,sV f,sV m,VI lU] (ahP (jR a s f m lU)):=by
 refine TC.walk ⟨true,false⟩ Ho rfl (Nat.le_of_ble_eq_true rfl) (Qd rfl rfl rfl rfl rfl) (acM _) ?_
 have e1:=rO a ha
 have e2:=rO s hs
 have e3:=rO f hf
 have e4:=rO m hm
 have e5:=Ph lU 1 5
 have bad:jR a s f m lU=none→∀H,PM.fz depth H (.dT [.tree [] .nil,VB false])=some (ahP (jR a s f m lU)):=fun h H=>by rw[h];exact bP (d:=6) CM (aJ (v:=VB false) rfl)
 obtain⟨z1,b1,k1,k2,k3,k4,k5⟩:=zH a
 obtain⟨z2,b2,l1,l2,l3,l4,l5⟩:=zH s
 obtain⟨z3,b3,m1,m2,m3,m4,m5⟩:=zH f
 obtain⟨z4,b4,n1,n2,n3,n4,n5⟩:=zH m
 rw[k1] at e1
 rw[l1] at e2
 rw[m1] at e3
 rw[n1] at e4
 have t1:bR 0 3 (.ptr 0 0 0 0) z1 [cell0]=some [.row 0 [z1] 3 true]:=FT (k:=0) rfl k2 k3
 have t2:bR 0 3 (.ptr 1 0 0 0) z2 [.row 0 [z1] 3 true,cell0]=some [.row 0 [z1] 3 true,.row 0 [z2] 3 true]:=FT (k:=1) rfl l2 l3
 have t3:bR 0 3 (.ptr 2 0 0 0) z3 [.row 0 [z1] 3 true,.row 0 [z2] 3 true,cell0]=some [.row 0 [z1] 3 true,.row 0 [z2] 3 true,.row 0 [z3] 3 true]:=FT (k:=2) rfl m2 m3
 have t4:bR 0 3 (.ptr 3 0 0 0) z4 [.row 0 [z1] 3 true,.row 0 [z2] 3 true,.row 0 [z3] 3 true,cell0]=some [.row 0 [z1] 3 true,.row 0 [z2] 3 true,.row 0 [z3] 3 true,.row 0 [z4] 3 true]:=FT (k:=3) rfl n2 n3
 cases hO:jR a s f m lU with
 |
  none =>
  rw[←hO]
  cases b1 with
  |
   false =>
   simp only[jQ,gZ,e1,e2,e3,e4,t1,t2,t3,t4,Bool.not_true,Bool.not_false,List.length_cons,List.length_nil,List.cons_append,List.nil_append,Nat.zero_add,fB,VX,Nat.reduceEqDiff,Nat.reduceAdd,Nat.reduceLeDiff,Nat.reduceLT,Nat.reduceSub]
   exact bad hO _
  | true =>
  cases b2 with
  |
   false =>
   simp only[jQ,gZ,e1,e2,e3,e4,t1,t2,t3,t4,Bool.not_true,Bool.not_false,List.length_cons,List.length_nil,List.cons_append,List.nil_append,Nat.zero_add,fB,VX,Nat.reduceEqDiff,Nat.reduceAdd,Nat.reduceLeDiff,Nat.reduceLT,Nat.reduceSub]
   exact bad hO _
  | true =>
  cases b3 with
  |
   false =>
   simp only[jQ,gZ,e1,e2,e3,e4,t1,t2,t3,t4,Bool.not_true,Bool.not_false,List.length_cons,List.length_nil,List.cons_append,List.nil_append,Nat.zero_add,fB,VX,Nat.reduceEqDiff,Nat.reduceAdd,Nat.reduceLeDiff,Nat.reduceLT,Nat.reduceSub]
   exact bad hO _
  | true =>
  cases b4 with
  |
   false =>
   simp only[jQ,gZ,e1,e2,e3,e4,t1,t2,t3,t4,Bool.not_true,Bool.not_false,List.length_cons,List.length_nil,List.cons_append,List.nil_append,Nat.zero_add,fB,VX,Nat.reduceEqDiff,Nat.reduceAdd,Nat.reduceLeDiff,Nat.reduceLT,Nat.reduceSub]
   exact bad hO _
  | true =>
  by_cases hl:1≤lU∧lU≤5
  case neg =>
   rw[decide_eq_false hl] at e5
   simp only[jQ,gZ,e1,e2,e3,e4,e5,t1,t2,t3,t4,Bool.not_true,Bool.not_false,List.length_cons,List.length_nil,List.cons_append,List.nil_append,Nat.zero_add,fB,VX,Nat.reduceEqDiff,Nat.reduceAdd,Nat.reduceLeDiff,Nat.reduceLT,Nat.reduceSub]
   exact bad hO _
  exfalso
  obtain⟨x,hx⟩:=Option.isSome_iff_exists.1 k4.symm
  obtain⟨y,hy⟩:=Option.isSome_iff_exists.1 l4.symm
  obtain⟨z,hz⟩:=Option.isSome_iff_exists.1 m4.symm
  obtain⟨w,hw⟩:=Option.isSome_iff_exists.1 n4.symm
  have:jR a s f m lU=some (2*lU.toNat+2,oD x y z w lU.toNat (lU.toNat+1)):=by unfold jR;rw[hx,hy,hz,hw];exact if_pos hl
  rw[this] at hO
  cases hO
 |
  some p =>
  have hQ:=A6 hO
  obtain⟨x,y,z,w,hx,hy,hz,hw,hl⟩:∃x y z w,pJ a=some x∧pJ s=some y∧pJ f=some z∧pJ m=some w∧1≤lU∧lU≤5:=by
   unfold jR at hO
   split at hO
   ·rename_i x y z w h1 h2 h3 h4
    split at hO
    ·rename_i hl
     exact⟨x,y,z,w,h1,h2,h3,h4,hl⟩
    ·cases hO
   ·cases hO
  have:jR a s f m lU=some (2*lU.toNat+2,oD x y z w lU.toNat (lU.toNat+1)):=by unfold jR;rw[hx,hy,hz,hw];exact if_pos hl
  rw[this] at hO
  obtain rfl:=Option.some.inj hO
  obtain rfl:=k5 x hx
  obtain rfl:=l5 y hy
  obtain rfl:=m5 z hz
  obtain rfl:=n5 w hw
  rw[hx] at k4
  rw[hy] at l4
  rw[hz] at m4
  rw[hw] at n4
  subst k4 l4 m4 n4
  rw[decide_eq_true hl] at e5
  obtain⟨M,rfl⟩:∃M:Nat,lU=M:=⟨lU.toNat,by omega⟩
  simp only[Int.toNat_natCast,Option.isSome_some] at hQ e1 e2 e3 e4 ⊢
  have bx:=oY hx
  have bby:=oY hy
  have bz:=oY hz
  have bw:=oY hw
  have w2:IntKind.i64.wrap (2*(M:Int))=((2*M:Nat):Int):=wN _ (by omega) (by omega)
  have w3:IntKind.i64.wrap (((2*M:Nat):Int)+2)=((2*M+2:Nat):Int):=wN _ (by omega) (by omega)
  simp only[jQ,gZ,e1,e2,e3,e4,e5,t1,t2,t3,t4,w2,w3,Bool.not_true,Bool.not_false,List.length_cons,List.length_nil,List.cons_append,List.nil_append,Nat.zero_add,fB,VX,Nat.reduceEqDiff,Nat.reduceAdd,Nat.reduceLeDiff,Nat.reduceLT,Nat.reduceSub]
  have hR:CD 0 [x,y,z,w] [.row 0 [bB x] 3 true,.row 0 [bB y] 3 true,.row 0 [bB z] 3 true,.row 0 [bB w] 3 true]:=fun k q hk=>by
   match k,hk with
   | 0,hk=>cases hk;rfl
   | 1,hk=>cases hk;rfl
   | 2,hk=>cases hk;rfl
   | 3,hk=>cases hk;rfl
  refine Sb (by omega) (Nat.zero_le _) fun b g c L hc hT => ?_
  have hR:=hR.app (L:=L)
  simp only[List.length_cons,List.length_nil,Nat.reduceAdd] at hT
  generalize [cN.row 0 [bB x] 3 true,.row 0 [bB y] 3 true,.row 0 [bB z] 3 true,.row 0 [bB w] 3 true]++L=H at *
  simp only[fB,VX,Nat.reduceEqDiff,Nat.reduceAdd,Nat.reduceLeDiff,Nat.reduceLT,Nat.reduceSub]
  refine aT (fun(i:Nat) ρ H1=>i≤M+1∧CD 0 [x,y,z,w] H1∧Tq bB 4 H.length (2*M+2) b g (oD x y z w M i) H1∧ρ 4=VI M∧ρ 12 = .ptr 0 0 0 0∧ρ 14 = .ptr 1 0 0 0∧ρ 16 = .ptr 2 0 0 0∧ρ 18 = .ptr 3 0 0 0∧ρ 20 = .ref b g 0 (2*M+2) c∧ρ 21=VI i) (fun i=>M+1-i) 0
   ⟨Nat.zero_le _,hR,hT,by (repeat' apply And.intro)<;>first | rfl | trivial | assumption⟩ ?_
  clear hR hT
  rintro i ρ H1 ⟨hi,hR,hT,g4,g12,g14,g16,g18,g20,g21⟩
  have hgl:=Bm (x:=x) (y:=y) (f:=z) (m:=w) (lU:=M) i
  have ld:∀ {K},CD 0 [x,y,z,w] K→bT true 3 (.ptr 0 0 0 0) K=some (bB x)∧bT true 3 (.ptr 1 0 0 0) K=some (bB y)∧bT true 3 (.ptr 2 0 0 0) K=some (bB z)∧bT true 3 (.ptr 3 0 0 0) K=some (bB w):=fun h=>⟨h.ld (k:=0) rfl,h.ld (k:=1) rfl,h.ld (k:=2) rfl,h.ld (k:=3) rfl⟩
  by_cases dA:(i:Int)≤(M:Int)
  ·have wi:IntKind.i64.wrap ((i:Int)+1)=((i+1:Nat):Int):=wN _ (by omega) (by omega)
   have u1:IntKind.i64.wrap (2*(i:Int))=((2*i:Nat):Int):=wN _ (by omega) (by omega)
   have u2:IntKind.i64.wrap (((2*i:Nat):Int)+1)=((2*i+1:Nat):Int):=wN _ (by omega) (by omega)
   have u3:IntKind.i64.wrap (((2*i:Nat):Int)+2)=((2*(i+1):Nat):Int):=wN _ (by omega) (by omega)
   have u4:IntKind.i64.wrap (((2*i:Nat):Int)+3)=((2*(i+1)+1:Nat):Int):=wN _ (by omega) (by omega)
   by_cases bI:(i:Int)<(M:Int)
   ·have PS:min (i+1) M=i+1:=by omega
    obtain⟨q1,q2,q3,q4⟩:=ld hR
    simp only[nS,g4,g12,g14,g16,g18,g20,g21,dA,bI,wi,u1,u2,u3,u4,q1,fB,VX,Nat.reduceEqDiff,Nat.reduceAdd,Nat.reduceLeDiff,Nat.reduceLT,Nat.reduceSub]
    refine qI hT (2*i) (2*(i+1)) x (by omega) (by omega) (by omega) bx.1 (by omega) fun _ H2 o2 QP => ?_
    have hR2:=hR.out o2 (by simp)
    obtain⟨q1,q2,q3,q4⟩:=ld hR2
    simp only[g4,g12,g14,g16,g18,g20,g21,wi,u1,u2,u3,u4,q1,fB,VX,Nat.reduceEqDiff,Nat.reduceAdd,Nat.reduceLeDiff,Nat.reduceLT,Nat.reduceSub]
    refine qI QP (2*i+1) (2*(i+1)+1) x (by omega) (by omega) (by omega) bx.1 (by simp only[List.length_append,List.length_cons,List.length_nil];omega) fun _ H3 o3 hT3 => ?_
    have hR3:=hR2.out o3 (by simp)
    obtain⟨q1,q2,q3,q4⟩:=ld hR3
    by_cases h0:(0:Int)<(i:Int)
    ·have u5:IntKind.i64.wrap (((2*i:Nat):Int)-2)=((2*(i-1):Nat):Int):=by rw[show ((2*i:Nat):Int)-2=((2*(i-1):Nat):Int) by omega];exact wrap64 (by omega) (by omega)
     simp only[g4,g12,g14,g16,g18,g20,g21,h0,wi,u1,u2,u5,q2,fB,VX,Nat.reduceEqDiff,Nat.reduceAdd,Nat.reduceLeDiff,Nat.reduceLT,Nat.reduceSub]
     refine qI hT3 (2*i) (2*(i-1)) y (by omega) (by omega) (by omega) bby.1 (by simp only[List.length_append,List.length_cons,List.length_nil];omega) fun _ H4 o4 hT4 => ?_
     have hR4:=hR3.out o4 (by simp)
     obtain⟨q1,q2,q3,q4⟩:=ld hR4
     simp only[g4,g12,g14,g16,g18,g20,g21,wi,u1,u2,q3,fB,VX,Nat.reduceEqDiff,Nat.reduceAdd,Nat.reduceLeDiff,Nat.reduceLT,Nat.reduceSub]
     refine qI hT4 (2*i) (2*i+1) z (by omega) (by omega) (by omega) bz.1 (by simp only[List.length_append,List.length_cons,List.length_nil];omega) fun _ H5 o5 hT5 => ?_
     have hR5:=hR4.out o5 (by simp)
     obtain⟨q1,q2,q3,q4⟩:=ld hR5
     simp only[g4,g12,g14,g16,g18,g20,g21,wi,u1,u2,q4,fB,VX,Nat.reduceEqDiff,Nat.reduceAdd,Nat.reduceLeDiff,Nat.reduceLT,Nat.reduceSub]
     refine qI hT5 (2*i+1) (2*i) w (by omega) (by omega) (by omega) bw.1 (by simp only[List.length_append,List.length_cons,List.length_nil];omega) fun _ H6 o6 ZS => ?_
     have hR6:=hR5.out o6 (by simp)
     simp only[g21,wi,fB,VX,Nat.reduceEqDiff,Nat.reduceAdd,Nat.reduceLeDiff,Nat.reduceLT,Nat.reduceSub]
     simp only[List.append_assoc,List.cons_append,List.nil_append] at ZS
     exact⟨i+1,by omega,by omega,hR6,by rw[oD,PS];exact ZS,by (repeat' apply And.intro)<;>first | rfl | trivial | assumption⟩
    ·have hi0:i=0:=by omega
     subst hi0
     have hT4:=hT3.same (i:=0) (q:=y) bby.1 (by simp only[List.length_append,List.length_cons,List.length_nil];omega)
     simp only[g4,g12,g14,g16,g18,g20,g21,h0,wi,u1,u2,q3,fB,VX,Nat.reduceEqDiff,Nat.reduceAdd,Nat.reduceLeDiff,Nat.reduceLT,Nat.reduceSub]
     refine qI hT4 (2*0) (2*0+1) z (by omega) (by omega) (by omega) bz.1 (by simp only[List.length_append,List.length_cons,List.length_nil];omega) fun _ H5 o5 hT5 => ?_
     have hR5:=hR3.out o5 (by simp)
     obtain⟨q1,q2,q3,q4⟩:=ld hR5
     simp only[g4,g12,g14,g16,g18,g20,g21,wi,u1,u2,q4,fB,VX,Nat.reduceEqDiff,Nat.reduceAdd,Nat.reduceLeDiff,Nat.reduceLT,Nat.reduceSub]
     refine qI hT5 (2*0+1) (2*0) w (by omega) (by omega) (by omega) bw.1 (by simp only[List.length_append,List.length_cons,List.length_nil];omega) fun _ H6 o6 ZS => ?_
     have hR6:=hR5.out o6 (by simp)
     simp only[g21,wi,fB,VX,Nat.reduceEqDiff,Nat.reduceAdd,Nat.reduceLeDiff,Nat.reduceLT,Nat.reduceSub]
     simp only[List.append_assoc,List.cons_append,List.nil_append] at ZS
     exact⟨0+1,by omega,by omega,hR6,by rw[oD,PS];exact ZS,by (repeat' apply And.intro)<;>first | rfl | trivial | assumption⟩
   ·have hiM:i=M:=by omega
    have PS:min (i+1) M=i:=by omega
    obtain⟨q1,q2,q3,q4⟩:=ld hR
    have h0:(0:Int)<(i:Int):=by omega
    have u5:IntKind.i64.wrap (((2*i:Nat):Int)-2)=((2*(i-1):Nat):Int):=by rw[show ((2*i:Nat):Int)-2=((2*(i-1):Nat):Int) by omega];exact wrap64 (by omega) (by omega)
    have QP:=hT.same (i:=2*i) (q:=x) bx.1 (by omega)
    have hT3:=QP.same (i:=2*i+1) (q:=x) bx.1 (by simp only[List.length_append,List.length_cons,List.length_nil];omega)
    simp only[nS,g4,g12,g14,g16,g18,g20,g21,dA,bI,h0,wi,u1,u2,u5,q2,fB,VX,Nat.reduceEqDiff,Nat.reduceAdd,Nat.reduceLeDiff,Nat.reduceLT,Nat.reduceSub]
    refine qI hT3 (2*i) (2*(i-1)) y (by omega) (by omega) (by omega) bby.1 (by simp only[List.length_append,List.length_cons,List.length_nil];omega) fun _ H4 o4 hT4 => ?_
    have hR4:=hR.out o4 (by simp)
    obtain⟨q1,q2,q3,q4⟩:=ld hR4
    simp only[g4,g12,g14,g16,g18,g20,g21,wi,u1,u2,q3,fB,VX,Nat.reduceEqDiff,Nat.reduceAdd,Nat.reduceLeDiff,Nat.reduceLT,Nat.reduceSub]
    refine qI hT4 (2*i) (2*i+1) z (by omega) (by omega) (by omega) bz.1 (by simp only[List.length_append,List.length_cons,List.length_nil];omega) fun _ H5 o5 hT5 => ?_
    have hR5:=hR4.out o5 (by simp)
    obtain⟨q1,q2,q3,q4⟩:=ld hR5
    simp only[g4,g12,g14,g16,g18,g20,g21,wi,u1,u2,q4,fB,VX,Nat.reduceEqDiff,Nat.reduceAdd,Nat.reduceLeDiff,Nat.reduceLT,Nat.reduceSub]
    refine qI hT5 (2*i+1) (2*i) w (by omega) (by omega) (by omega) bw.1 (by simp only[List.length_append,List.length_cons,List.length_nil];omega) fun _ H6 o6 ZS => ?_
    have hR6:=hR5.out o6 (by simp)
    simp only[g21,wi,fB,VX,Nat.reduceEqDiff,Nat.reduceAdd,Nat.reduceLeDiff,Nat.reduceLT,Nat.reduceSub]
    simp only[List.append_assoc,List.cons_append,List.nil_append] at ZS
    exact⟨i+1,by omega,by omega,hR6,by rw[oD,PS];exact ZS,by (repeat' apply And.intro)<;>first | rfl | trivial | assumption⟩
  ·have nZ:i=M+1:=by omega
   subst nZ
   simp only[nS,g4,g20,g21,dA,fB,VX,Nat.reduceEqDiff,Nat.reduceAdd,Nat.reduceLeDiff,Nat.reduceLT,Nat.reduceSub]
   exact bP (d:=6) (hT.t.fz (d:=4) hc Bq) (aJ (v:=VB true) rfl)
set_option maxHeartbeats 4000000 in
theorem Hh (a s f m:ByteArray) (lU:Int) (ha:a.size≤1000000000) (hs:s.size≤1000000000) (hf:f.size≤1000000000) (hm:m.size≤1000000000):FC 38 [sV a,sV s,sV f,sV m,VI lU] (Vx (CG ((yC a s f m lU).getD [])) (yC a s f m lU).isSome):=by
 refine FC.Jt ⟨true,false⟩ Ge (Nat.le_of_ble_eq_true rfl) fun n => ?_
 have e1:=Ip a s f m lU ha hs hf hm
 cases hO:jR a s f m lU with
 |
  none =>
  rw[hO] at e1
  have e1:TC 102 [sV a,sV s,sV f,sV m,VI lU] (.dT [.tree [] .op,VB false]):=e1
  obtain⟨f1,f2,f3⟩:=Zp (n:=n) (bH:=yC a s f m lU) (AP (n:=n) (K:=[])) (Nat.le_refl _) (by unfold yC FL;rw[hO];rfl)
  simp only[vI,sB,e1,f1,f2,Bool.not_false,gE,EY,List.length_replicate,fB,VX,Nat.reduceEqDiff,Nat.reduceAdd,Nat.reduceLeDiff,Nat.reduceLT,Nat.reduceSub]
  exact f3
 |
  some p =>
  have hQ:=A6 hO
  have C5:yC a s f m lU=vV (mY (qW p)):=by unfold yC FL;rw[hO];rfl
  rw[C5]
  rw[hO] at e1
  have e1:TC 102 [sV a,sV s,sV f,sV m,VI lU] (.dT [aS (aS bB) (qW p),VB true]):=e1
  simp only[vI,sB,e1,Bool.not_true,gE,EY,List.length_replicate,fB,VX,Nat.reduceEqDiff,Nat.reduceAdd,Nat.reduceLeDiff,Nat.reduceLT,Nat.reduceSub]
  refine lA rfl (KC (H:=List.replicate n cN.dead++[aiY]) (v:=aS (aS bB) (qW p)) (qW p) (n:=p.1) (B:=600000) (YA.tree nF) (by simp) Bn (by have:=hQ.n;omega) (by decide) hQ.rows hQ.apK) fun x L hx => ?_
  simp only[fB,VX,Nat.reduceEqDiff,Nat.reduceAdd,Nat.reduceLeDiff,Nat.reduceLT,Nat.reduceSub]
  refine O5 (J1 _ hQ.told.1 hQ.told.2) rfl (fz1 (hx.fz Bq)) (cF (AP (n:=n) (K:=[]))) (Nat.le_refl _) fun v H2 H3 t1 t2 t3 => ?_
  simp only[t1,t2,fB,VX,Nat.reduceEqDiff,Nat.reduceAdd,Nat.reduceLeDiff,Nat.reduceLT,Nat.reduceSub]
  exact t3
end Go.PM
namespace Go.PM
def kX:aD:=(LS [LO 10 (.mv LF)] (.seq (LS [LM 19 0,LO 20 (.slen (LT 19)),LM 21 1,LO 22 (.slen (LT 21)),LO 23 (.bin .add (LT 20) (LT 22)),LM 24 2,LO 25 (.slen (LT 24)),LO 26 (.bin .add (LT 23) (LT 25)),LM 27 3,LO 28 (.slen (LT 27)),LO 29 (.bin .add (LT 26) (LT 28)),LO 30 (.bin .gtr (LT 29) (LI 1000000))] (.cond (LT 30) (LS [LO 10 (.mv LG)] .ret) .skip)) (LS [LM 32 0,LM 33 1,LM 34 2,LM 35 3,LM 36 4,LO 37 (.call 38 [(LT 32),(LT 33),(LT 34),(LT 35),(LT 36)]),LM 31 37,LO 38 (LX 31 0),LO 39 (LX 31 1),LO 11 (.new [(.slice none 0 0)]),LN (.store 1 (LT 11) (LT 38)),LM 12 39] (LS [LM 41 0,LM 42 1,LM 43 2,LM 44 3,LM 45 4,LO 46 (.call 39 [(LT 41),(LT 42),(LT 43),(LT 44),(LT 45)]),LM 40 46,LO 47 (LX 40 0),LO 48 (LX 40 1),LO 13 (.new [(.slice none 0 0)]),LN (.store 1 (LT 13) (LT 47)),LM 14 48] (.seq (LS [LO 49 (.load true 1 (LT 13)),LO 50 (.load true 1 (LT 11)),LO 51 (.call 19 [(LT 49),(LT 50)]),LO 52 (.un .not (LT 51)),LM 53 52,LZ 53 54 (.mv (LT 14)),LZ 53 55 (.mv (LT 12)),LZ 53 56 (.eqb true (LT 54) (LT 55)),LO 57 (.pick (LT 53) LG (LT 56))] (.cond (LT 57) (LS [LO 10 (.mv LF)] .ret) .skip)) (LS [LO 15 (.mv (LI 101))] (LS [LO 58 (.load true 1 (LT 13)),LM 59 15,LO 60 (.call 22 [(LT 58),(LT 59)]),LM 15 60] (LS [LO 16 (.mv (LI 101))] (LS [LO 61 (.load true 1 (LT 13)),LM 62 16,LO 63 (.call 23 [(LT 61),(LT 62)]),LM 16 63] (.seq (LS [LM 64 16,LO 65 (.bin .lss (LT 64) (LI 0))] (.cond (LT 65) (LS [LO 10 (.mv LF)] .ret) .skip)) (.seq (LS [LM 66 16,LM 67 15,LO 68 (.bin .neq (LT 66) (LT 67))] (.cond (LT 68) (LS [LO 10 (.mv LF)] .ret) .skip)) (LS [LM 70 0,LM 71 1,LM 72 2,LM 73 3,LM 74 4,LO 75 (.call 39 [(LT 70),(LT 71),(LT 72),(LT 73),(LT 74)]),LM 69 75,LO 76 (LX 69 0),LO 77 (LX 69 1),LO 17 (.new [(.slice none 0 0)]),LN (.store 1 (LT 17) (LT 76)),LM 18 77] (.seq (LS [LO 78 (.load true 1 (LT 17)),LO 79 (.load true 1 (LT 11)),LO 80 (.call 19 [(LT 78),(LT 79)]),LO 81 (.un .not (LT 80)),LM 82 81,LZ 82 83 (.mv (LT 18)),LZ 82 84 (.mv (LT 12)),LZ 82 85 (.eqb true (LT 83) (LT 84)),LO 86 (.pick (LT 82) LG (LT 85))] (.cond (LT 86) (LS [LO 10 (.mv LF)] .ret) .skip)) (LS [LO 16 (.mv (LI 101))] (LS [LO 87 (.load true 1 (LT 13)),LM 88 16,LO 89 (.call 23 [(LT 87),(LT 88)]),LM 16 89] (.seq (LS [LM 90 16,LO 91 (.bin .lss (LT 90) (LI 0))] (.cond (LT 91) (LS [LO 10 (.mv LF)] .ret) .skip)) (.seq (LS [LM 92 16,LM 93 15,LO 94 (.bin .neq (LT 92) (LT 93))] (.cond (LT 94) (LS [LO 10 (.mv LF)] .ret) .skip)) (LS [LO 10 (.mv LG)] .ret))))))))))))))))))
def mE:aR:=⟨95,[(.tmp 10)],kX⟩
theorem Ac:fS 7=some mE:=by kernel_rfl
end Go.PM
namespace Go.PM
set_option maxHeartbeats 4000000 in
theorem zY (s0:ByteArray) (s1:ByteArray) (s2:ByteArray) (s3:ByteArray) (t4:Int) (YJ:s0.size≤140737488351232) (hx1:s1.size≤140737488351232) (hx2:s2.size≤140737488351232) (hx3:s3.size≤140737488351232):TC 7 [sV s0,sV s1,sV s2,sV s3,VI t4] (.sc (.bool true)):=by
 refine TC.walk ⟨true,false⟩ Ac rfl (Nat.le_of_ble_eq_true rfl) (Qd rfl rfl rfl rfl rfl) rfl ?_
 have w1:IntKind.i64.wrap ((s0.size:Int)+(s1.size:Int))=(s0.size:Int)+(s1.size:Int):=wrap64 (by omega) (by omega)
 have w2:IntKind.i64.wrap ((s0.size:Int)+(s1.size:Int)+(s2.size:Int))=(s0.size:Int)+(s1.size:Int)+(s2.size:Int):=wrap64 (by omega) (by omega)
 have w3:IntKind.i64.wrap ((s0.size:Int)+(s1.size:Int)+(s2.size:Int)+(s3.size:Int))=(s0.size:Int)+(s1.size:Int)+(s2.size:Int)+(s3.size:Int):=wrap64 (by omega) (by omega)
 by_cases agR:(1000000:Int)<(s0.size:Int)+(s1.size:Int)+(s2.size:Int)+(s3.size:Int)
 ·simp only[mE,kX,zR,w1,w2,w3,agR,fB,VX,Nat.reduceEqDiff,Nat.reduceAdd,Nat.reduceLeDiff,Nat.reduceLT,Nat.reduceSub]
  exact aF rfl
 have hb0:s0.size≤1000000000:=by omega
 have Eb:s1.size≤1000000000:=by omega
 have hb2:s2.size≤1000000000:=by omega
 have hb3:s3.size≤1000000000:=by omega
 have cs:=Hh s0 s1 s2 s3 t4 hb0 Eb hb2 hb3
 have ci:=Gx s0 s1 s2 s3 t4 hb0 Eb hb2 hb3
 have Rg:=Qe s0 s1 s2 s3 t4
 have hsn:=Rg.n
 generalize C5:(yC s0 s1 s2 s3 t4).getD []=val at *
 generalize (yC s0 s1 s2 s3 t4).isSome=ok at *
 simp only[mE,kX,w1,w2,w3,zR,agR,fB,VX,Nat.reduceEqDiff,Nat.reduceAdd,Nat.reduceLeDiff,Nat.reduceLT,Nat.reduceSub]
 refine MH cs rfl (fz5 (aF rfl) (aF rfl) (aF rfl) (aF rfl) (aF rfl)) CG.cJ fun v1 H1 p1 v1' => ?_
 simp only[fB,VX,Nat.reduceEqDiff,Nat.reduceAdd,Nat.reduceLeDiff,Nat.reduceLT,Nat.reduceSub]
 have w1:=TQ (lo:=0) (H:=H1) v1'.ag3 (Nat.zero_le _)
 simp only[w1,fB,VX,Nat.reduceEqDiff,Nat.reduceAdd,Nat.reduceLeDiff,Nat.reduceLT,Nat.reduceSub]
 have p2:=List.prefix_append H1 [.row 0 [v1] 1 true]
 have q1:aI (H1++[.row 0 [v1] 1 true]) H1.length 0=some ([v1],1,true):=fN
 generalize eh2:H1++[.row 0 [v1] 1 true]=H2 at *
 refine MH ci rfl (fz5 (aF rfl) (aF rfl) (aF rfl) (aF rfl) (aF rfl)) CG.cJ fun v3 H3 p3 v3' => ?_
 simp only[fB,VX,Nat.reduceEqDiff,Nat.reduceAdd,Nat.reduceLeDiff,Nat.reduceLT,Nat.reduceSub]
 have w3:=TQ (lo:=0) (H:=H3) v3'.ag3 (Nat.zero_le _)
 simp only[w3,fB,VX,Nat.reduceEqDiff,Nat.reduceAdd,Nat.reduceLeDiff,Nat.reduceLT,Nat.reduceSub]
 have p4:=List.prefix_append H3 [.row 0 [v3] 1 true]
 have q3:aI (H3++[.row 0 [v3] 1 true]) H3.length 0=some ([v3],1,true):=fN
 generalize eh4:H3++[.row 0 [v3] 1 true]=H4 at *
 have W4:=v1'.cJ (dI.pre ((p2.trans p3).trans p4))
 have G4:=v3'.cJ (dI.pre p4)
 have cW4:=cR (p3.trans p4) q1
 have cG4:=q3
 have aW:=v1'.ag3
 have aG:=v3'.ag3
 have le1:=p1.length_le
 have le2:=p2.length_le
 have le3:=p3.length_le
 have le4:=p4.length_le
 have bW:=gN q1
 have bG:=gN q3
 have kb:M6 true (Value.bool ok) (Value.bool ok)=some (.bool false):=acT ok
 simp only[NB aG cG4,NB aW cW4,aiW Rg G4.fz W4.fz,kb,fB,VX,Nat.reduceEqDiff,Nat.reduceAdd,Nat.reduceLeDiff,Nat.reduceLT,Nat.reduceSub]
 refine ahD G4 (Nat.zero_le _) (by omega) (by have:=Rg.g;omega) (by omega) fun M1 ml mG mk => ?_
 have k0:¬(101+(cY val:Int))<0:=by omega
 have k1:¬((101+(cY val:Int))≠(101+(cY val:Int))):=fun h=>h rfl
 have mW:=W4.cJ (H':=M1) fun b g x h1 h2 h3=>mk b g x (by omega) h3
 have mcW:=mk _ _ _ (by omega) cW4
 have mcG:=mk _ _ _ (by omega) cG4
 simp only[NB aG mcG,Wk Rg mG.fz,k0,ne_eq,not_true_eq_false,decide_false,fB,VX,Nat.reduceEqDiff,Nat.reduceAdd,Nat.reduceLeDiff,Nat.reduceLT,Nat.reduceSub]
 generalize M1=H5 at *
 refine MH ci rfl (fz5 (aF rfl) (aF rfl) (aF rfl) (aF rfl) (aF rfl)) CG.cJ fun v6 H6 p6 v6' => ?_
 simp only[fB,VX,Nat.reduceEqDiff,Nat.reduceAdd,Nat.reduceLeDiff,Nat.reduceLT,Nat.reduceSub]
 have w6:=TQ (lo:=0) (H:=H6) v6'.ag3 (Nat.zero_le _)
 simp only[w6,fB,VX,Nat.reduceEqDiff,Nat.reduceAdd,Nat.reduceLeDiff,Nat.reduceLT,Nat.reduceSub]
 have p7:=List.prefix_append H6 [.row 0 [v6] 1 true]
 have q6:aI (H6++[.row 0 [v6] 1 true]) H6.length 0=some ([v6],1,true):=fN
 generalize eh7:H6++[.row 0 [v6] 1 true]=H7 at *
 have aX:=v6'.ag3
 have X1:=v6'.cJ (dI.pre p7)
 have cX:=q6
 have nW:=mW.cJ (dI.pre (p6.trans p7))
 have nG:=mG.cJ (dI.pre (p6.trans p7))
 have ncW:=cR (p6.trans p7) mcW
 have ncG:=cR (p6.trans p7) mcG
 simp only[NB aX cX,NB aW ncW,NB aG ncG,aiW Rg X1.fz nW.fz,kb,Wk Rg nG.fz,k0,ne_eq,not_true_eq_false,decide_false,fB,VX,Nat.reduceEqDiff,Nat.reduceAdd,Nat.reduceLeDiff,Nat.reduceLT,Nat.reduceSub]
 exact aF rfl
end Go.PM
namespace Go.PM
open Go.Proofs
theorem Et {P:Program} {w:World} {name:String} {d:DataW Unit}:∀ {l:List (String×DataW Unit)} {ps:List MemPlace},DataW.LaidVars P w l ps→(name,d)∈l →
  ∃g t cs fuel p,P.globalNamed name=some g∧(P.globals[g]?).map (·.type)=some t∧w.var? P name=some cs∧DataW.trod (fun _=>()) P w 0 (fun _=>true) false fuel t cs.toList=some (d,p)
 | [],_,_,hm=>by cases hm
 |
  (n,e)::r,ps,h,hm=>by
  obtain⟨g,t,cs,fuel,p,q,h1,h2,h3,h4,h5,_⟩:=h
  rcases List.mem_cons.1 hm with he | hm
  ·cases he
   exact⟨g,t,cs,fuel,p,h1,h2,h3,h4⟩
  ·exact Et h5 hm
theorem Mi {W:World} {l:List (String×DataW Unit)} (hl:laidMetH Tryz.prog l W) (hp:(l.all fun x=>x.2.handleName?.isNone)=true) (hm:("internal/strconv.uint64pow10",Lib.tabData .u64 Lib.pow10Tab)∈l)
  {t e:TypeId} {n:Nat} (hty:(Tryz.prog.globals[3]?).map (·.type)=some t) (ht:Tryz.prog.underlying t=some (.array n e)) (he:Tryz.prog.underlying e=some (.int .u64)) (hce:Tryz.prog.cellsOf e=1) (hct:Tryz.prog.cellsOf t=n):Pw W:=by
 rw[MakeChecks.laidMetH_plain _ _ _ hp] at hl
 obtain⟨ps,h1,_⟩:=hl
 obtain⟨g',t',cs,fuel,p,hg',ht',abT,hd⟩:=Et h1 hm
 have hg:Tryz.prog.globalNamed "internal/strconv.uint64pow10"=some 3:=by kernel_rfl
 obtain rfl:=Option.some.inj (hg.symm.trans hg')
 obtain rfl:=Option.some.inj (hty.symm.trans ht')
 have XV:=Lib.cells_of_tab ht he hce hct hd
 intro x hx
 have TU:x=(3,(Lib.pow10Tab.map fun z=>Value.int .u64 z).toArray):=by simpa[agE] using hx
 subst TU
 unfold World.var? at abT
 rw[hg,Option.bind_some] at abT
 split at abT
 ·rename_i As e' fz' hh
  cases abT
  refine⟨e',fz',?_⟩
  rw[←XV]
  simpa using hh
 ·cases abT
end Go.PM