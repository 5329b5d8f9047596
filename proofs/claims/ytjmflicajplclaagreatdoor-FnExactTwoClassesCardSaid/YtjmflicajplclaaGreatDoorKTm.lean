/- Texts of a claim, in one: part 13. -/
import Derived.KernelRfl
import Derived.Lib.LaidTab
import Derived.LaidLaws
import Derived.LaidMore
import Derived.MakeChecks
import Derived.Handed
import Derived.Test.YtjmflicajplclaaGreatDoorKTl
set_option linter.unusedSimpArgs false
set_option linter.unusedVariables false
namespace Go.PM
open Go.Lib
theorem nD (q:Rat):(aB (bC q)).length=3:=rfl
theorem Li (qs:List Rat):aN (aT bC qs)=true:=lP nD Bm
theorem Yb (q:Rat):Ad (bC q)=true:=by simp[Ad,bC,bY,gZ]
theorem Xi (qs:List Rat):gJ (aT bC qs)=true:=yB nD NO Yb
set_option maxHeartbeats 1000000 in
theorem It {lo:Nat} {H:aA} {q:Rat} (h:lo≤H.length):bR lo 3 (.ptr H.length 0 0 0) (bC q) (H++[cell0])=some (H++[.row 0 [bC q] 3 true]):=by
 rw[bU (g:=0) (e:=3) (j:=0) fN (by exact Nat.zero_lt_one) h rfl rfl,Gp]
 rfl
theorem aaK {H K:aA} {q:Rat}:bT true 3 (.ptr H.length 0 0 0) (H ++ .row 0 [bC q] 3 true::K)=some (bC q):=by
 rw[bQ,wB,bA]
 exact fE _
theorem Cd {lo:Nat} {H:aA} {v:VV} (qs:List Rat) {B:Nat} (hv:Rd bC 3 qs H v) (dK:lo≤H.length) (hb:∀q∈qs,aU q≤B) (hk:qs.length*(B+1)+1≤1099511627776) (hB:B≤1099511627776) (hn:qs.length≤1000000000) :
  gV 60 [v] lo H (F1 (fun _ _ _ r=>r=bC (dZ qs)) H):=by
 refine gV.walk ⟨true,false⟩ JT (Nat.le_of_ble_eq_true rfl) ?_
 have e1:=xI
 have e2:=hv.len (H++[cell0,.row 0 [bC 0] 3 true]) (List.prefix_append _ _)
 have s0:bR lo 3 (.ptr (H.length+1) 0 0 0) (bC 0) (H++[cell0,cell0])=some (H++[cell0,.row 0 [bC 0] 3 true]):=by
  have:=It (lo:=lo) (H:=H++[cell0]) (q:=0) (by rw[List.length_append];omega)
  simpa only[List.length_append,List.length_cons,List.length_nil,Nat.zero_add,List.append_assoc,List.cons_append,List.nil_append] using this
 simp only[EL,Co,e1,e2,s0,List.length_append,List.length_cons,List.length_nil,List.append_assoc,List.cons_append,List.nil_append,dX,VX,Nat.reduceEqDiff,Nat.reduceAdd,Nat.reduceLeDiff,Nat.reduceLT,Nat.reduceSub]
 refine aS (fun(i:Nat) ρ H1=>i≤qs.length∧H <+: H1∧aI H1 H.length 0=some ([rz],3,true)∧aI H1 (H.length+1) 0=some ([bC (dZ (qs.take i))],3,true)∧ρ 2 = .ptr H.length 0 0 0∧ρ 3 = .ptr (H.length+1) 0 0 0∧ρ 0=v∧ρ 7=VI qs.length∧ρ 8=VI i) (fun i=>qs.length-i) 0 ⟨Nat.zero_le _,List.prefix_append _ _,wB.trans bA,PS.trans (lL.trans bA),rfl,rfl,rfl,rfl,rfl⟩ ?_
 rintro i ρ H1 ⟨hi,hp,Cv,FQ,g2,g3,g0,g7,g8⟩
 have Cz:=gN FQ
 have s3:bT true 3 (.ptr (H.length+1) 0 0 0) H1=some (bC (dZ (qs.take i))):=by
  rw[bQ,FQ]
  exact fE _
 by_cases dB:(i:Int)<(qs.length:Int)
 ·obtain⟨q,hq⟩:∃q,qs[i]? = some q:=⟨_,List.getElem?_eq_getElem (by omega)⟩
  obtain⟨p,a1,a2⟩:=hv.get H1 hp i q hq
  have a2':=(a2 true).trans (fE _)
  have wi:IntKind.i64.wrap ((i:Int)+1)=((i+1:Nat):Int):=wrapN (i+1) (by omega) (by omega)
  have h1:=E1 hb i
  have h2:=hb q (List.mem_of_getElem? hq)
  have h3:(i+1)*(B+1)≤qs.length*(B+1):=Nat.mul_le_mul_right _ (by omega)
  have e3:=zX (dZ (qs.take i)) q (by omega) (by omega)
  rw[←AD hq] at e3
  have s4:=bU (lo:=lo) (v:=bC (dZ (qs.take (i+1)))) (j:=0) FQ (by exact Nat.zero_lt_one) (by omega) rfl rfl
  rw[List.set_cons_zero] at s4
  simp only[tZ,g2,g3,g0,g7,g8,dB,a1,a2',e3,s3,s4,wi,dX,VX,Nat.reduceEqDiff,Nat.reduceAdd,Nat.reduceLeDiff,Nat.reduceLT,Nat.reduceSub]
  exact⟨i+1,by omega,by omega,kW hp (by omega),cD (by omega) Cv,bZ FQ,by (repeat' apply And.intro)<;>first | rfl | trivial | assumption⟩
 ·have nY:i=qs.length:=by omega
  subst nY
  rw[List.take_length] at s3
  have s4:=bU (lo:=lo) (v:=bC (dZ qs)) (j:=0) Cv (by exact Nat.zero_lt_one) dK rfl rfl
  rw[List.set_cons_zero] at s4
  have s5:bT true 3 (.ptr H.length 0 0 0) (H1.set H.length (.row 0 [bC (dZ qs)] 3 true))=some (bC (dZ qs)):=by
   rw[bQ,bZ Cv]
   exact fE _
  simp only[tZ,g2,g3,g7,g8,dB,s3,s4,s5,dX,VX,Nat.reduceEqDiff,Nat.reduceAdd,Nat.reduceLeDiff,Nat.reduceLT,Nat.reduceSub]
  exact⟨kW hp (Nat.le_refl _),rfl⟩
theorem V7 {q:Rat}:q.num<0↔q<0:=by rw[←Int.not_le,Rat.num_nonneg];constructor<;>intro h<;>grind
end Go.PM
namespace Go.PM
open Go.Lib
end Go.PM
namespace Go.PM
def vH:aD:=(LS [LO 15 (.bin .lss (LT 14) (LT 13))] (.seq (.cond (LT 15) .skip (.exit 0)) (.seq (.block 1 (LS [LM 16 14,LM 5 16] (LS [LM 18 0,LO 19 (.chk (LT 18)),LO 20 (LA 0 19),LO 21 (LL 20),LM 22 5,LO 23 (.iaddr 1 (LT 21) (LT 22)),LO 24 (LL 23),LO 25 (.call 181 [(LT 24)]),LM 17 25,LO 26 (LX 17 0),LO 27 (LX 17 1),LM 6 26,LM 7 27] (.seq (LS [LM 28 7,LO 29 (.un .not (LT 28))] (.cond (LT 29) (LS [LO 30 (.build [(.slice none 0 0)] [(0,1)] []),LN (.store 1 (LT 2) (LT 30)),LO 3 (.mv LF)] .ret) .skip)) (.dC [LO 31 (LA 0 4),LO 32 (LL 31),LM 33 6,LO 34 (.lit [(.slice none 0 0)] 1 [(0,(LT 33))]),LO 35 (.app 1 24 (LT 32) (LT 34)),LO 36 (LA 0 4),LN (.store 1 (LT 36) (LT 35))]))))) (.dC [LO 37 (.bin .add (LT 14) (LI 1)),LM 14 37]))))
def CM:aD:=(LS [LO 2 (.new [(.slice none 0 0)]),LO 3 (.mv LF)] (LS [LO 8 (.build [(.slice none 0 0)] [(0,1)] []),LO 4 (.new [(.slice none 0 0)]),LN (.store 1 (LT 4) (LT 8))] (.seq (LS [LM 9 0,LO 10 (.chk (LT 9)),LO 11 (LA 0 10),LO 12 (LL 11),LO 13 (.len (LT 12)),LO 14 (.mv (LI 0))] (.block 0 (.loop vH))) (LS [LO 38 (.load true 1 (LT 4)),LN (.store 1 (LT 2) (LT 38)),LO 3 (.mv LG)] .ret))))
def Hh:aR:=⟨39,[(.cell 2 true 1),(.tmp 3)],CM⟩
theorem MF:fR 138=some Hh:=by kernel_rfl
end Go.PM
namespace Go.PM
open Go.Lib
theorem MQ (x:List Rat):(aB (aT bC x)).length=1:=rfl
theorem XZ (m:List (List Rat)):aN (aT (aT bC) m)=true:=lP MQ Li
theorem Zd (m:List (List Rat)):gJ (aT (aT bC) m)=true:=yB MQ Xi fun _=>rfl
end Go.PM
namespace Go.PM
def tJ:aD:=(.seq (LS [LM 14 6,LM 15 0,LO 16 (.bin .lss (LT 14) (LT 15))] (.cond (LT 16) .skip (.exit 2))) (.seq (.block 3 (.dC [LM 19 5,LO 20 (.call 77 []),LO 21 (.lit [(.bool false),(.slice none 0 0),(.slice none 0 0)] 1 [(0,(LT 20))]),LO 22 (.app 3 56 (LT 19) (LT 21)),LM 5 22])) (.dC [LM 17 6,LO 18 (.bin .add (LT 17) (LI 1)),LM 6 18])))
def tM:aD:=(.seq (LS [LM 8 4,LM 9 0,LO 10 (.bin .lss (LT 8) (LT 9))] (.cond (LT 10) .skip (.exit 0))) (.seq (.block 1 (LS [LO 13 (.lit [(.bool false),(.slice none 0 0),(.slice none 0 0)] 0 []),LM 5 13] (.seq (LS [LO 6 (.mv (LI 0))] (.block 2 (.loop tJ))) (.dC [LM 23 3,LM 24 5,LO 25 (.lit [(.slice none 0 0)] 1 [(0,(LT 24))]),LO 26 (.app 1 24 (LT 23) (LT 25)),LM 3 26])))) (.dC [LM 11 4,LO 12 (.bin .add (LT 11) (LI 1)),LM 4 12])))
def BZ:aD:=(LS [LO 2 (.mv (.const (.slice none 0 0)))] (LS [LO 7 (.lit [(.slice none 0 0)] 0 []),LM 3 7] (.seq (LS [LO 4 (.mv (LI 0))] (.block 0 (.loop tM))) (LS [LM 27 3,LM 2 27] .ret))))
def ES:aR:=⟨28,[(.tmp 2)],BZ⟩
theorem J5:fR 76=some ES:=by kernel_rfl
def B5:aD:=(LS [LO 2 (.new [(.slice none 0 0)]),LO 3 (.mv LF)] (LS [LM 7 0,LO 8 (.build [(.slice none 0 0)] [(0,1)] [(0,(LT 7))]),LO 4 (.new [(.slice none 0 0)]),LN (.store 1 (LT 4) (LT 8))] (LS [LO 10 (.call 138 [(LT 4)]),LM 9 10,LO 11 (LX 9 0),LO 12 (LX 9 1),LO 5 (.new [(.slice none 0 0)]),LN (.store 1 (LT 5) (LT 11)),LM 6 12] (.seq (LS [LM 13 6,LO 14 (.un .not (LT 13))] (.cond (LT 14) (LS [LO 15 (.build [(.slice none 0 0)] [(0,1)] []),LN (.store 1 (LT 2) (LT 15)),LO 3 (.mv LF)] .ret) .skip)) (LS [LO 16 (.load true 1 (LT 5)),LN (.store 1 (LT 2) (LT 16)),LO 3 (.mv LG)] .ret)))))
def EK:aR:=⟨17,[(.cell 2 true 1),(.tmp 3)],B5⟩
theorem JU:fR 61=some EK:=by kernel_rfl
def oC:aD:=(LS [LO 2 (.new [(.bool false),(.slice none 0 0),(.slice none 0 0)]),LO 3 (.mv LF)] (LS [LM 7 0,LO 8 (.call 110 [(LT 7)]),LM 6 8,LO 9 (LX 6 0),LO 10 (LX 6 1),LO 4 (.new [(.bool false),(.slice none 0 0),(.slice none 0 0)]),LN (.store 3 (LT 4) (LT 9)),LM 5 10] (LS [LO 11 (LK 4),LM 12 5,LM 13 12,LY 13 14 (LK 4),⟨(some 15),(.call 59 [(LT 14)]),(some (13,true)),true,[]⟩,LY 13 16 (.un .not (LT 15)),LO 17 (.pick (LT 13) (LT 16) LF),LM 18 17,LY 18 19 (LK 4),⟨(some 20),(.call 111 [(LT 19)]),(some (18,true)),true,[]⟩,LY 18 21 (.un .not (LT 20)),LO 22 (.pick (LT 18) (LT 21) LF),LN (.store 3 (LT 2) (LT 11)),LM 3 22] .ret)))
def rH:aR:=⟨23,[(.cell 2 true 3),(.tmp 3)],oC⟩
theorem K7:fR 87=some rH:=by kernel_rfl
end Go.PM
namespace Go.PM
def uX:aD:=(.seq (LS [LM 11 4,LM 12 0,LO 13 (.len (LT 12)),LO 14 (.bin .lss (LT 11) (LT 13))] (.cond (LT 14) .skip (.exit 0))) (.seq (.block 1 (LS [LM 17 0,LM 18 4,LO 19 (.iaddr 1 (LT 17) (LT 18)),LO 20 (LL 19),LO 21 (.call 60 [(LT 20)]),LO 5 (.new [(.bool false),(.slice none 0 0),(.slice none 0 0)]),LN (.store 3 (LT 5) (LT 21))] (LS [LO 22 (LK 3),LO 23 (LK 5),LO 24 (.call 80 [(LT 22),(LT 23)])] (.cond (LT 24) (.dC [LO 25 (LK 5),LN (.store 3 (LT 3) (LT 25))]) .skip)))) (.dC [LM 15 4,LO 16 (.bin .add (LT 15) (LI 1)),LM 4 16])))
def vM:aD:=(.seq (LS [LM 34 9,LM 35 0,LO 36 (.len (LT 35)),LO 37 (.bin .lss (LT 34) (LT 36))] (.cond (LT 37) .skip (.exit 4))) (.seq (.block 5 (.dC [LM 40 8,LM 41 0,LM 42 7,LO 43 (.iaddr 1 (LT 41) (LT 42)),LO 44 (LL 43),LM 45 9,LO 46 (.iaddr 3 (LT 44) (LT 45)),LO 47 (LK 46),LO 48 (LK 3),LQ 49 (.call 81 [(LT 47),(LT 48)]),LQ 50 (.lit [(.bool false),(.slice none 0 0),(.slice none 0 0)] 1 [(0,(LT 49))]),LO 51 (.app 3 56 (LT 40) (LT 50)),LM 8 51])) (.dC [LM 38 9,LO 39 (.bin .add (LT 38) (LI 1)),LM 9 39])))
def vD:aD:=(.seq (LS [LM 27 7,LM 28 0,LO 29 (.len (LT 28)),LO 30 (.bin .lss (LT 27) (LT 29))] (.cond (LT 30) .skip (.exit 2))) (.seq (.block 3 (LS [LO 33 (.lit [(.bool false),(.slice none 0 0),(.slice none 0 0)] 0 []),LM 8 33] (.seq (LS [LO 9 (.mv (LI 0))] (.block 4 (.loop vM))) (LS [LM 52 8,LM 53 7,LO 54 (.call 83 []),LM 55 8,LO 56 (.call 60 [(LT 55)]),LO 57 (.call 82 [(LT 54),(LT 56)]),LO 58 (.iaddr 3 (LT 52) (LT 53)),LN (.store 3 (LT 58) (LT 57))] (.dC [LM 59 6,LM 60 8,LO 61 (.lit [(.slice none 0 0)] 1 [(0,(LT 60))]),LO 62 (.app 1 24 (LT 59) (LT 61)),LM 6 62]))))) (.dC [LM 31 7,LO 32 (.bin .add (LT 31) (LI 1)),LM 7 32])))
def C3:aD:=(LS [LO 2 (.mv (.const (.slice none 0 0)))] (LS [LO 10 (.call 77 []),LO 3 (.new [(.bool false),(.slice none 0 0),(.slice none 0 0)]),LN (.store 3 (LT 3) (LT 10))] (.seq (LS [LO 4 (.mv (LI 0))] (.block 0 (.loop uX))) (LS [LO 26 (.lit [(.slice none 0 0)] 0 []),LM 6 26] (.seq (LS [LO 7 (.mv (LI 0))] (.block 2 (.loop vD))) (LS [LM 63 6,LM 2 63] .ret))))))
def Hi:aR:=⟨64,[(.tmp 2)],C3⟩
theorem L8:fR 62=some Hi:=by kernel_rfl
def rI:aD:=(LS [LO 10 (.new [(.slice none 0 0)]),LO 11 (.mv LF)] (LS [LM 15 0,LM 16 1,LM 17 2,LM 18 3,LM 19 4,LO 20 (.call 105 [(LT 15),(LT 16),(LT 17),(LT 18),(LT 19)]),LM 14 20,LO 21 (LX 14 0),LO 22 (LX 14 1),LM 12 21,LM 13 22] (.seq (LS [LM 23 13,LO 24 (.un .not (LT 23))] (.cond (LT 24) (LS [LO 25 (.build [(.slice none 0 0)] [(0,1)] []),LN (.store 1 (LT 10) (LT 25)),LO 11 (.mv LF)] .ret) .skip)) (LS [LM 26 12,LO 27 (.call 62 [(LT 26)]),LO 28 (.call 61 [(LT 27)]),LO 29 (LX 28 0),LO 30 (LX 28 1),LN (.store 1 (LT 10) (LT 29)),LM 11 30] .ret))))
def vF:aR:=⟨31,[(.cell 10 true 1),(.tmp 11)],rI⟩
theorem Gr:fR 40=some vF:=by kernel_rfl
def Ah:aD:=(LS [LO 7 (.box (LT 3))] (LS [LM 8 1,LM 9 2,LO 10 (.bin .neq (LT 8) (LT 9))] (.cond (LT 10) (.dC [LM 11 0,LM 12 1,LO 13 (.iaddr 1 (LT 11) (LT 12)),LO 14 (LL 13),LM 15 2,LM 16 0,LM 17 1,LO 18 (.iaddr 1 (LT 16) (LT 17)),LO 19 (LL 18),LM 20 2,LO 21 (.iaddr 3 (LT 19) (LT 20)),LO 22 (LK 21),LO 23 (LK 7),LQ 24 (.call 79 [(LT 22),(LT 23)]),LO 25 (.iaddr 3 (LT 14) (LT 15)),LN (.store 3 (LT 25) (LT 24))]) .skip)))
def CI:aR:=⟨26,[],Ah⟩
theorem Nt:fR 90=some CI:=by kernel_rfl
def yD:aD:=(.seq (LS [LM 76 20,LM 77 4,LO 78 (.bin .leq (LT 76) (LT 77))] (.cond (LT 78) .skip (.exit 2))) (.seq (.block 3 (LS [LM 81 19,LM 82 4,LO 83 (.bin .add (LT 82) (LI 1)),LO 84 (.bin .mul (LT 81) (LT 83)),LM 85 20,LO 86 (.bin .add (LT 84) (LT 85)),LM 21 86] (.seq (LS [LM 87 19,LM 88 3,LO 89 (.bin .lss (LT 87) (LT 88))] (.cond (LT 89) (.dC [LM 90 18,LM 91 21,LM 92 21,LM 93 4,LO 94 (.bin .add (LT 92) (LT 93)),LO 95 (.bin .add (LT 94) (LI 1)),LO 96 (LK 12),LO 97 (.call 90 [(LT 90),(LT 91),(LT 95),(LT 96)])]) .skip)) (.seq (LS [LM 98 20,LM 99 4,LO 100 (.bin .lss (LT 98) (LT 99))] (.cond (LT 100) (.dC [LM 101 18,LM 102 21,LM 103 21,LO 104 (.bin .add (LT 103) (LI 1)),LO 105 (LK 14),LO 106 (.call 90 [(LT 101),(LT 102),(LT 104),(LT 105)])]) .skip)) (LS [LM 107 19,LO 108 (.bin .gtr (LT 107) (LI 0))] (.cond (LT 108) (.dC [LM 109 18,LM 110 21,LM 111 21,LM 112 4,LO 113 (.bin .sub (LT 111) (LT 112)),LO 114 (.bin .sub (LT 113) (LI 1)),LO 115 (LK 16),LO 116 (.call 90 [(LT 109),(LT 110),(LT 114),(LT 115)])]) (LS [LM 117 20,LO 118 (.bin .gtr (LT 117) (LI 0))] (.cond (LT 118) (.dC [LM 119 18,LM 120 21,LM 121 21,LO 122 (.bin .sub (LT 121) (LI 1)),LO 123 (LK 16),LO 124 (.call 90 [(LT 119),(LT 120),(LT 122),(LT 123)])]) .skip)))))))) (.dC [LM 79 20,LO 80 (.bin .add (LT 79) (LI 1)),LM 20 80])))
def xY:aD:=(.seq (LS [LM 71 19,LM 72 3,LO 73 (.bin .leq (LT 71) (LT 72))] (.cond (LT 73) .skip (.exit 0))) (.seq (.block 1 (LS [LO 20 (.mv (LI 0))] (.block 2 (.loop yD)))) (.dC [LM 74 19,LO 75 (.bin .add (LT 74) (LI 1)),LM 19 75])))
def jG:aD:=(LS [LO 10 (.mv (.const (.slice none 0 0))),LO 11 (.mv LF)] (LS [LM 23 0,LO 24 (.call 87 [(LT 23)]),LM 22 24,LO 25 (LX 22 0),LO 26 (LX 22 1),LO 12 (.new [(.bool false),(.slice none 0 0),(.slice none 0 0)]),LN (.store 3 (LT 12) (LT 25)),LM 13 26] (LS [LM 28 1,LO 29 (.call 87 [(LT 28)]),LM 27 29,LO 30 (LX 27 0),LO 31 (LX 27 1),LO 14 (.new [(.bool false),(.slice none 0 0),(.slice none 0 0)]),LN (.store 3 (LT 14) (LT 30)),LM 15 31] (LS [LM 33 2,LO 34 (.call 87 [(LT 33)]),LM 32 34,LO 35 (LX 32 0),LO 36 (LX 32 1),LO 16 (.new [(.bool false),(.slice none 0 0),(.slice none 0 0)]),LN (.store 3 (LT 16) (LT 35)),LM 17 36] (.seq (LS [LM 37 13,LO 38 (.un .not (LT 37)),LM 39 38,LZ 39 40 (.mv (LT 15)),LZ 39 41 (.un .not (LT 40)),LO 42 (.pick (LT 39) LG (LT 41)),LM 43 42,LZ 43 44 (.mv (LT 17)),LZ 43 45 (.un .not (LT 44)),LO 46 (.pick (LT 43) LG (LT 45)),LM 47 46,LZ 47 48 (.mv (LT 3)),LZ 47 49 (.call 88 [(LT 48),(LI 1),(LI 12)]),LZ 47 50 (.un .not (LT 49)),LO 51 (.pick (LT 47) LG (LT 50)),LM 52 51,LZ 52 53 (.mv (LT 4)),LZ 52 54 (.call 88 [(LT 53),(LI 1),(LI 12)]),LZ 52 55 (.un .not (LT 54)),LO 56 (.pick (LT 52) LG (LT 55)),LM 57 56,LZ 57 58 (.mv (LT 3)),LZ 57 59 (.bin .add (LT 58) (LI 1)),LZ 57 60 (.mv (LT 4)),LZ 57 61 (.bin .add (LT 60) (LI 1)),LZ 57 62 (.bin .mul (LT 59) (LT 61)),LZ 57 63 (.bin .gtr (LT 62) (LI 12)),LO 64 (.pick (LT 57) LG (LT 63))] (.cond (LT 64) (LS [LO 10 (.mv (.const (.slice none 0 0))),LO 11 (.mv LF)] .ret) .skip)) (LS [LM 65 3,LO 66 (.bin .add (LT 65) (LI 1)),LM 67 4,LO 68 (.bin .add (LT 67) (LI 1)),LO 69 (.bin .mul (LT 66) (LT 68)),LO 70 (.call 76 [(LT 69)]),LM 18 70] (.seq (LS [LO 19 (.mv (LI 0))] (.block 0 (.loop xY))) (LS [LM 125 18,LM 10 125,LO 11 (.mv LG)] .ret))))))))
def lY:aR:=⟨126,[(.tmp 10),(.tmp 11)],jG⟩
theorem Nk:fR 105=some lY:=by kernel_rfl
end Go.PM
namespace Go.PM
open Go.Lib
theorem aoJ {b g j o e:Nat} {H:aA} {es:List VV} {w:Bool} {x x':VV} (h:aI H b g=some (es,e,w)) (hx:es[j]? = some x) (hf:PM.fz 7 H x=some x'):PM.fz depth H (.ptr b g j o)=some (x'.cN o):=by
 show PM.fz (7+1) H _=_
 unfold PM.fz
 have:aN (.ptr b g j o)=false:=rfl
 simp[this,h,hx,hf]
end Go.PM
namespace Go.PM
open Go.Lib
set_option maxHeartbeats 1000000 in
theorem Hm (qs:List Rat) (hn:qs.length≤1000000) (hb:∀q∈qs,aU q≤1099511627776):FC 181 [aT bC qs] (Vn (Y5 sV 1 (Cm qs)) (Cm qs).isSome):=by
 refine FC.I1 ⟨true,false⟩ Gm (Nat.le_of_ble_eq_true rfl) fun n => ?_
 have e0:∀K,jC false [.string ⟨#[]⟩] 0 [] K=some (.ref K.length 0 0 0 0,K++[.row 0 [] 1 true]):=fun K=>iE rfl
 simp only[Cg,zF,e0,List.length_replicate,dX,VX,Nat.reduceEqDiff,Nat.reduceAdd,Nat.reduceLeDiff,Nat.reduceLT,Nat.reduceSub]
 refine aS (fun(i:Nat) ρ H=>i≤qs.length∧(∀q∈qs.take i,vX q=true)∧H=List.replicate n cO.dead++[cO.row i (((qs.take i).map JW).map sV) 1 true]∧ρ 4 = .ref n i 0 i i∧ρ 0=aT bC qs∧ρ 10=VI qs.length∧ρ 11=VI i) (fun i=>qs.length-i) 0 ⟨Nat.zero_le _,by simp,rfl,rfl,rfl,rfl,rfl⟩ ?_
 rintro i ρ H ⟨hi,sZ,rfl,g4,g0,g10,g11⟩
 have kC:aI (List.replicate n cO.dead++[cO.row i (((qs.take i).map JW).map sV) 1 true]) n i=some (((qs.take i).map JW).map sV,1,true):=by rw[Bz,bA]
 by_cases dB:(i:Int)<(qs.length:Int)
 ·obtain⟨q,hq⟩:∃q,qs[i]? = some q:=⟨_,List.getElem?_eq_getElem (by omega)⟩
  have hqm:=List.mem_of_getElem? hq
  have a1:=fun H=>aK (f:=bC) (t := .op) (H:=H) (size:=3) (k := .i64) hq rfl
  have wi:IntKind.i64.wrap ((i:Int)+1)=((i+1:Nat):Int):=wrapN (i+1) (by omega) (by omega)
  have e2:=Mm q (hb q hqm)
  unfold SZ at e2
  cases hf:vX q with
  |
   false =>
   rw[if_neg (by simp[hf])] at e2
   rw[RX hqm hf]
   simp only[mN,g4,g0,g10,g11,dB,a1,e2,fE,dX,VX,Nat.reduceEqDiff,Nat.reduceAdd,Nat.reduceLeDiff,Nat.reduceLT,Nat.reduceSub]
   exact⟨_,Az (by simp),rfl,AK,.tree [] .nil,rfl,rfl⟩
  |
   true =>
   rw[if_pos hf] at e2
   have eL:∀H,jC false [.string ⟨#[]⟩] 1 [(0,bB (EW q))] H=some (.tree [sV (JW q)] (.cl 1),H):=fun H=>gE rfl rfl rfl
   have eS:∀H,cU 1 (.tree [sV (JW q)] (.cl 1)) H=some [sV (JW q)]:=fun H=>dQ rfl rfl
   have eP:eW n 1 16 (.ref n i 0 i i) [sV (JW q)] (List.replicate n cO.dead++[cO.row i (((qs.take i).map JW).map sV) 1 true])=some (.ref n (i+1) 0 (i+1) (i+1),List.replicate n cO.dead++[cO.row (i+1) (((qs.take (i+1)).map JW).map sV) 1 true]):=by
    rw[iC (f:=sV) (xs:=(qs.take i).map JW) kC (by simp;omega) (Nat.le_refl _) (by decide) (by decide) (by omega),gU hq]
    simp only[List.map_append,BI]
    rfl
   simp only[mN,g4,g0,g10,g11,dB,a1,e2,eL,eS,eP,wi,fE,dX,VX,Nat.reduceEqDiff,Nat.reduceAdd,Nat.reduceLeDiff,Nat.reduceLT,Nat.reduceSub]
   refine⟨i+1,by omega,by omega,fun p hp => ?_,by (repeat' apply And.intro)<;>first | rfl | trivial | assumption⟩
   rw[gU hq] at hp
   rcases List.mem_append.1 hp with h | h
   ·exact sZ p h
   ·rw[List.mem_singleton] at h;subst h;exact hf
 ·have nY:i=qs.length:=by omega
  subst nY
  rw[List.take_length] at sZ kC
  rw[N8 sZ]
  simp only[mN,g4,g10,g11,dB,List.take_length,dX,VX,Nat.reduceEqDiff,Nat.reduceAdd,Nat.reduceLeDiff,Nat.reduceLT,Nat.reduceSub]
  refine⟨_,⟨rfl,fun _ _ _ _ _ h=>h⟩,by simp[fB,nX,kB],by simp only[eV,List.all_cons,List.all_nil,Bool.and_true];exact Rn (fun _=>rfl) _,.ref n qs.length 0 qs.length qs.length,rfl,⟨n,qs.length,qs.length,Nat.le_refl _,by simp,by simp,by simp,kC⟩⟩
set_option maxHeartbeats 2000000 in
theorem Kw (m:List (List Rat)) (hn:m.length≤1000000) (hb:∀r∈m,r.length≤1000000∧∀q∈r,aU q≤1099511627776):FC 138 [(Ni (aT (aT bC) m)).cN 0] (Vn (CG ((vP m).getD [])) (vP m).isSome):=by
 refine FC.I1 ⟨true,false⟩ MF (Nat.le_of_ble_eq_true rfl) fun n => ?_
 have s0:bR n 1 (.ptr (n+1) 0 0 0) (.agg [.tree [] .nil]) (List.replicate n cO.dead++[cO.row 0 [.tree [] .nil] 1 true,.row 0 [.tree [] .nil] 1 true])=some (List.replicate n cO.dead++[cO.row 0 [.tree [] .nil] 1 true,.row 0 [.agg [.tree [] .nil]] 1 true]):=by
  rw[bU (e:=1) (g:=0) (j:=0) (by rw[DJ,lL,bA]) (by exact Nat.zero_lt_one) (by omega) rfl rfl,Us]
  rfl
 simp only[Hh,CM,s0,VH,Es,List.length_replicate,List.length_cons,List.length_nil,List.append_assoc,List.cons_append,List.nil_append,gH,dX,VX,Nat.reduceEqDiff,Nat.reduceAdd,Nat.reduceLeDiff,Nat.reduceLT,Nat.reduceSub]
 refine aS (fun(i:Nat) ρ H=>i≤m.length∧BA n H∧(∃x v bJ,aI H n 0=some ([.tree [] .nil],1,true)∧aI H (n+1) 0=some ([x],1,true)∧aB x=[v]∧vP (m.take i)=some bJ∧NS sV 1 bJ (n+2) H.length H v)∧ρ 2 = .ptr n 0 0 0∧ρ 4 = .ptr (n+1) 0 0 0∧ρ 0=(Ni (aT (aT bC) m)).cN 0∧ρ 13=VI m.length∧ρ 14=VI i) (fun i=>m.length-i) 0
  ⟨Nat.zero_le _,⟨[.row 0 [.tree [] .nil] 1 true,.row 0 [.agg [.tree [] .nil]] 1 true],rfl,rfl⟩,⟨.agg [.tree [] .nil],.tree [] .nil,[],by rw[Bz,bA],by rw[DJ,lL,bA],rfl,rfl,.inl ⟨rfl,rfl⟩⟩,rfl,rfl,rfl,rfl,rfl⟩ ?_
 rintro i ρ H ⟨hi,hO,⟨x,v,bJ,Cv,FQ,hx,F7,hv⟩,g2,g4,g0,g13,g14⟩
 have Cz:=gN FQ
 by_cases dB:(i:Int)<(m.length:Int)
 ·obtain⟨r,hr⟩:∃r,m[i]? = some r:=⟨_,List.getElem?_eq_getElem (by omega)⟩
  have CC:=hb r (List.mem_of_getElem? hr)
  have a1:=fun H=>aK (f:=aT bC) (t := .op) (H:=H) (size:=1) (k := .i64) hr rfl
  have wi:IntKind.i64.wrap ((i:Int)+1)=((i+1:Nat):Int):=wrapN (i+1) (by omega) (by omega)
  simp only[vH,g2,g4,g0,g13,g14,dB,a1,VH,dX,VX,Nat.reduceEqDiff,Nat.reduceAdd,Nat.reduceLeDiff,Nat.reduceLT,Nat.reduceSub]
  refine OT (n:=n) (Hm r CC.1 CC.2) rfl (fz1 (aF (Li _))) hO Y5.cJ fun u H2 p2 hO2 _ hu => ?_
  cases ht:Cm r with
  |
   none =>
   rw[ht] at hu
   have hu:u = .tree [] .nil:=hu
   subst hu
   have anI:vP m=none:=mapM_none ht (List.mem_of_getElem? hr)
   rw[anI]
   have s1:bR n 1 (.ptr n 0 0 0) (.agg [.tree [] .nil]) H2=some (H2.set n (.row 0 [.agg [.tree [] .nil]] 1 true)):=by
    rw[bU (cT p2 Cv) (by exact Nat.zero_lt_one) (Nat.le_refl _) rfl rfl]
    rfl
   have s2:bT true 1 (.ptr n 0 0 0) (H2.set n (.row 0 [.agg [.tree [] .nil]] 1 true))=some (.agg [.tree [] .nil]):=by
    rw[bQ,bZ (cT p2 Cv)]
    rfl
   simp only[g2,g4,s1,s2,Option.isSome_none,dX,VX,Nat.reduceEqDiff,Nat.reduceAdd,Nat.reduceLeDiff,Nat.reduceLT,Nat.reduceSub]
   exact⟨_,Az (by rw[List.length_set];have:=p2.length_le;omega),rfl,AK,.agg [.tree [] .nil],rfl,_,rfl,.inl ⟨rfl,rfl⟩⟩
  |
   some ys =>
   rw[ht] at hu
   obtain⟨b,g,c,k1,k2,rfl,k3,k4⟩:=hu
   have eL:∀K,jC false [.slice none 0 0] 1 [(0,.ref b g 0 ys.length c)] K=some (.tree [.ref b g 0 ys.length c] (.cl 1),K):=fun K=>gE rfl rfl rfl
   have eS:∀K,cU 1 (.tree [.ref b g 0 ys.length c] (.cl 1)) K=some [.ref b g 0 ys.length c]:=fun K=>dQ rfl rfl
   obtain⟨v',H3,ap,YR,cJ,hlen,Ny,yQ,_⟩:=(hv.cJ (dH.pre p2)).snoc (gO:=n) (by omega) (by rw[sX F7,List.length_take];omega) ⟨b,g,c,ys⟩ k1 (by simp only;omega) k3 k4
   have UR:=cJ _ _ _ (by omega) (cT p2 FQ)
   have l1:bT false 1 (.ptr (n+1) 0 0 0) H2=some v:=by
    rw[bQ,cT p2 FQ]
    simp[dD,hx]
   have l2:aI H2 (n+1) 0=some ([x],1,true):=cT p2 FQ
   have uW:=YR.fS
   have s1:bR n 1 (.ptr (n+1) 0 0 0) v' H3=some (H3.set (n+1) (.row 0 [v'] 1 true)):=by
    rw[bU UR (by exact Nat.zero_lt_one) (by omega) (by rw[uW.2.1];rfl) (by rw[uW.2.1];simp[uW.1])]
    rfl
   have hO3:=(Ny n (by omega) hO2).set (b:=n+1) (g:=0) (e:=1) (es:=[v']) (w:=true) (by omega) (by
    rcases YR with⟨rfl,_⟩ | ⟨b',g',Wx,q1,q2,rfl,_⟩
    ·rfl
    ·simp[nX,fB];omega)
   simp only[g4,g14,wi,eL,eS,l1,ap,s1,UR,l2,yT,Nat.add_zero,Option.isSome_some,dX,VX,Nat.reduceEqDiff,Nat.reduceAdd,Nat.reduceLeDiff,Nat.reduceLT,Nat.reduceSub]
   refine⟨i+1,by omega,by omega,hO3,⟨v',v',bJ++[ys],cD (by omega) (cJ _ _ _ (by omega) (cT p2 Cv)),bZ UR,uW.2.1,?_,?_⟩,by (repeat' apply And.intro)<;>first | rfl | trivial | assumption⟩
   ·rw[gU hr]
    exact HK F7 ht
   ·rw[List.length_set]
    exact YR.cJ (dH.set (by omega))
 ·have nY:i=m.length:=by omega
  subst nY
  rw[List.take_length] at F7
  rw[F7]
  have uW:=hv.fS
  have l1:bT true 1 (.ptr (n+1) 0 0 0) H=some (.agg [v]):=by
   rw[bQ,FQ]
   simp[dD,hx]
  have s1:bR n 1 (.ptr n 0 0 0) (.agg [v]) H=some (H.set n (.row 0 [.agg [v]] 1 true)):=by
   rw[bU Cv (by exact Nat.zero_lt_one) (Nat.le_refl _) rfl (by simp[aB,uW.1])]
   rfl
  have s2:bT true 1 (.ptr n 0 0 0) (H.set n (.row 0 [.agg [v]] 1 true))=some (.agg [v]):=by
   rw[bQ,bZ Cv]
   rfl
  simp only[vH,g2,g4,g13,g14,dB,l1,s1,s2,Option.isSome_some,dX,VX,Nat.reduceEqDiff,Nat.reduceAdd,Nat.reduceLeDiff,Nat.reduceLT,Nat.reduceSub]
  have Ny:fB n v=true:=by
   rcases hv with⟨rfl,_⟩ | ⟨b',g',Wx,q1,q2,rfl,_⟩
   ·rfl
   ·simp[fB];omega
  obtain⟨L,rfl,hL⟩:=hO
  refine⟨L.set 0 (.row 0 [.agg [v]] 1 true),⟨by simp,fun _ _ _ _ _ h=>by rw[BI];exact h⟩,by simp[fB,nX,Ny,kB],?_,.agg [v],rfl,v,rfl,?_⟩
  ·have:=(BA.set (n:=n) (b:=n) (g:=0) (e:=1) (es:=[.agg [v]]) (w:=true) ⟨L,rfl,hL⟩ (Nat.le_refl _) (by simp[nX,fB,Ny]))
   rw[BI] at this
   obtain⟨L',h1,h2⟩:=this
   rw[List.append_cancel_left h1]
   exact h2
  ·rw[←BI,List.length_set]
   have:=hv.rg.cJ (H':=(List.replicate n cO.dead++L).set n (.row 0 [.agg [v]] 1 true)) (dH.set (by omega))
   rw[Es] at this
   exact this.wide (by omega) (Nat.le_refl _)
set_option maxHeartbeats 1000000 in
theorem JV (m:List (List Rat)) (hn:m.length≤1000000) (hb:∀r∈m,r.length≤1000000∧∀q∈r,aU q≤1099511627776):FC 61 [aT (aT bC) m] (Vn (CG ((vP m).getD [])) (vP m).isSome):=by
 refine FC.I1 ⟨true,false⟩ JU (Nat.le_of_ble_eq_true rfl) fun n => ?_
 have s0:bR n 1 (.ptr (n+1) 0 0 0) (.agg [aT (aT bC) m]) (List.replicate n cO.dead++[cO.row 0 [.tree [] .nil] 1 true,.row 0 [.tree [] .nil] 1 true])=some (List.replicate n cO.dead++[cO.row 0 [.tree [] .nil] 1 true,.row 0 [Ni (aT (aT bC) m)] 1 true]):=by
  rw[bU (e:=1) (g:=0) (j:=0) (by rw[DJ,lL,bA]) (by exact Nat.zero_lt_one) (by omega) rfl rfl,Us]
  rfl
 have hf:PM.fz depth (List.replicate n cO.dead++[cO.row 0 [.tree [] .nil] 1 true,.row 0 [Ni (aT (aT bC) m)] 1 true]) (.ptr (n+1) 0 0 0)=some ((Ni (aT (aT bC) m)).cN 0):=aoJ (es:=[Ni (aT (aT bC) m)]) (e:=1) (w:=true) (by rw[DJ,lL,bA]) rfl (aJ (adR (XZ _)))
 simp only[EK,B5,s0,Es,List.length_replicate,List.length_cons,List.length_nil,List.append_assoc,List.cons_append,List.nil_append,gH,dX,VX,Nat.reduceEqDiff,Nat.reduceAdd,Nat.reduceLeDiff,Nat.reduceLT,Nat.reduceSub]
 refine(Kw m hn hb).Z2 rfl (fz1 hf) ?_
 rintro r L ⟨v,rfl,hv⟩ hr hL
 have hv:=hv.cJ dH.move
 have hlen:(List.replicate n cO.dead++[cO.row 0 [.tree [] .nil] 1 true,.row 0 [Ni (aT (aT bC) m)] 1 true]).length=n+2:=by simp
 rw[hlen] at hv
 obtain⟨c,rfl,hc1,hc2,hc3⟩:=hv.own (n:=n) (by omega)
 have hT:BM n (n+2) (List.replicate n cO.dead++[cO.row 0 [.tree [] .nil] 1 true,.row 0 [Ni (aT (aT bC) m)] 1 true]++L):=by
  refine BM.app (fun b g es e w hb hr => ?_) (by simp) hL
  rw[List.getElem?_eq_none (by rw[hlen];exact hb)] at hr
  cases hr
 generalize hH:List.replicate n cO.dead++[cO.row 0 [.tree [] .nil] 1 true,.row 0 [Ni (aT (aT bC) m)] 1 true]++L=H2 at *
 have Cv:aI H2 n 0=some ([.tree [] .nil],1,true):=by rw[←hH,List.append_assoc,Bz,List.cons_append,bA]
 have E4:n+2≤H2.length:=by rw[←hH];simp
 have hll:n+2+L.length=H2.length:=by rw[←hH];simp;omega
 rw[hll] at hv
 have s1:bR n 1 (.ptr H2.length 0 0 0) (.agg [c]) (H2++[cO.row 0 [.tree [] .nil] 1 true])=some (H2++[cO.row 0 [.agg [c]] 1 true]):=by
  rw[bU (e:=1) (g:=0) (j:=0) fN (by exact Nat.zero_lt_one) (by omega) rfl (by simp[aB,hc1]),Gp]
  rfl
 cases ht:vP m with
 |
  none =>
  have s2:bR n 1 (.ptr n 0 0 0) (.agg [.tree [] .nil]) (H2++[cO.row 0 [.agg [c]] 1 true])=some ((H2++[cO.row 0 [.agg [c]] 1 true]).set n (.row 0 [.agg [.tree [] .nil]] 1 true)):=by
   rw[bU (cF Cv) (by exact Nat.zero_lt_one) (Nat.le_refl _) rfl rfl]
   rfl
  have s3:bT true 1 (.ptr n 0 0 0) ((H2++[cO.row 0 [.agg [c]] 1 true]).set n (.row 0 [.agg [.tree [] .nil]] 1 true))=some (.agg [.tree [] .nil]):=by
   rw[bQ,bZ (cF Cv)]
   rfl
  simp only[s1,s2,s3,Option.isSome_none,gH,dX,VX,Nat.reduceEqDiff,Nat.reduceAdd,Nat.reduceLeDiff,Nat.reduceLT,Nat.reduceSub]
  exact⟨_,Az (by rw[List.length_set,List.length_append];omega),rfl,AK,.agg [.tree [] .nil],rfl,_,rfl,.inl ⟨rfl,rfl⟩⟩
 |
  some bJ =>
  rw[ht] at hv
  have l1:bT true 1 (.ptr H2.length 0 0 0) (H2++[cO.row 0 [.agg [c]] 1 true])=some (.agg [c]):=by
   rw[bQ,fN]
   rfl
  have s2:bR n 1 (.ptr n 0 0 0) (.agg [c]) (H2++[cO.row 0 [.agg [c]] 1 true])=some ((H2++[cO.row 0 [.agg [c]] 1 true]).set n (.row 0 [.agg [c]] 1 true)):=by
   rw[bU (cF Cv) (by exact Nat.zero_lt_one) (Nat.le_refl _) rfl (by simp[aB,hc1])]
   rfl
  have s3:bT true 1 (.ptr n 0 0 0) ((H2++[cO.row 0 [.agg [c]] 1 true]).set n (.row 0 [.agg [c]] 1 true))=some (.agg [c]):=by
   rw[bQ,bZ (cF Cv)]
   rfl
  simp only[s1,s2,s3,l1,Option.isSome_some,gH,dX,VX,Nat.reduceEqDiff,Nat.reduceAdd,Nat.reduceLeDiff,Nat.reduceLT,Nat.reduceSub]
  have Pp:BM n (n+2) ((H2++[cO.row 0 [.agg [c]] 1 true]).set n (.row 0 [.agg [c]] 1 true)):=BM.set (BM.arE hT (by simp[eV,nX,fB,hc3])) (by omega)
  obtain⟨L2,k1,k2,k3⟩:=Q4 (n:=n) (k:=n+2) (by omega) (by rw[List.length_set,List.length_append];omega) Pp
  refine⟨L2,k1,by simp[fB,nX,hc3,kB],k2,.agg [c],rfl,?_⟩
  obtain⟨c',T1,hv⟩:=hv
  cases T1
  have hl3:=k1.1
  rw[List.length_set,List.length_append,List.length_append,List.length_replicate] at hl3
  simp only[Option.getD_some] at hv
  exact⟨c,rfl,(hv.cJ (H':=List.replicate n cO.dead++L2) fun b g x h1 h2 h3=>k3 b g x (by omega) (cD (by omega) (cF h3))).wide (by omega) (by simp only[List.length_cons,List.length_nil] at hl3;omega)⟩
end Go.PM
namespace Go.PM
end Go.PM
namespace Go.PM
open Go.Lib
set_option maxHeartbeats 1000000 in
theorem JL {lo:Nat} {H:aA} (N:Nat) (hN:N≤1000) (dK:lo≤H.length):gV 76 [VI N] lo H (F1 (TabIs bC 3 (List.replicate N (List.replicate N (0:Rat)))) H):=by
 refine gV.walk ⟨true,false⟩ J5 (Nat.le_of_ble_eq_true rfl) ?_
 have e0:∀K,jC false [.slice none 0 0] 0 [] K=some (.ref K.length 0 0 0 0,K++[.row 0 [] 1 true]):=fun K=>iE rfl
 have e0':∀K,jC false [.bool false,.slice none 0 0,.slice none 0 0] 0 [] K=some (.ref K.length 0 0 0 0,K++[.row 0 [] 3 true]):=fun K=>iE rfl
 have e1:=xI
 have eL:∀H,jC false [.bool false,.slice none 0 0,.slice none 0 0] 1 [(0,bC 0)] H=some (.tree [bC 0] (.cl 3),H):=fun H=>gE rfl rfl rfl
 have eS:∀H,cU 3 (.tree [bC 0] (.cl 3)) H=some [bC 0]:=fun H=>dQ rfl rfl
 simp only[ES,BZ,e0,dX,VX,Nat.reduceEqDiff,Nat.reduceAdd,Nat.reduceLeDiff,Nat.reduceLT,Nat.reduceSub]
 refine aS (fun(i:Nat) ρ H1=>i≤N∧H <+: H1∧(∃rs,rs.length=i∧rs.map (·.xs)=List.replicate i (List.replicate N (0:Rat))∧MG bC 3 H.length H1.length H.length i H1 rs)∧ρ 0=VI N∧ρ 3 = .ref H.length i 0 i i∧ρ 4=VI i) (fun i=>N-i) 0
  ⟨Nat.zero_le _,List.prefix_append _ _,⟨[],rfl,rfl,fN,Nat.le_refl _,by simp,by simp,by simp⟩,rfl,rfl,rfl⟩ ?_
 rintro i ρ H1 ⟨hi,hp,⟨rs,yS,KA,hM⟩,g0,g3,g4⟩
 by_cases dB:(i:Int)<(N:Int)
 ·have wi:IntKind.i64.wrap ((i:Int)+1)=((i+1:Nat):Int):=wrapN (i+1) (by omega) (by omega)
  simp only[tM,g0,g3,g4,dB,e0',dX,VX,Nat.reduceEqDiff,Nat.reduceAdd,Nat.reduceLeDiff,Nat.reduceLT,Nat.reduceSub]
  have Cz:=hp.length_le
  refine aS (fun(k:Nat) ρ H2=>k≤N∧H1 <+: H2∧aI H2 H1.length k=some ((List.replicate k (0:Rat)).map bC,3,true)∧ρ 0=VI N∧ρ 3 = .ref H.length i 0 i i∧ρ 4=VI i∧ρ 5 = .ref H1.length k 0 k k∧ρ 6=VI k) (fun k=>N-k) 0 ⟨Nat.zero_le _,List.prefix_append _ _,fN,g0,g3,g4,rfl,rfl⟩ ?_
  clear g0 g3 g4
  rintro k ρ H2 ⟨hk,Kq,kC,g0,g3,g4,g5,g6⟩
  by_cases Yi:(k:Int)<(N:Int)
  ·have wk:IntKind.i64.wrap ((k:Int)+1)=((k+1:Nat):Int):=wrapN (k+1) (by omega) (by omega)
   have eP:=KV (lo:=lo) (bytes:=56) (x:=(0:Rat)) kC (by simp) (by omega) (by decide) (by decide) (by omega)
   simp only[tJ,g0,g5,g6,Yi,e1,eL,eS,eP,wk,dX,VX,Nat.reduceEqDiff,Nat.reduceAdd,Nat.reduceLeDiff,Nat.reduceLT,Nat.reduceSub]
   exact⟨k+1,by omega,by omega,kW Kq (Nat.le_refl _),by rw[List.replicate_succ'];exact bZ kC,by (repeat' apply And.intro)<;>first | rfl | trivial | assumption⟩
  ·have hke:k=N:=by omega
   subst hke
   have hA:NS bC 3 (List.replicate i (List.replicate k (0:Rat))) H.length H1.length H2 (.ref H.length i 0 i i) := .inr ⟨H.length,i,rs,Nat.le_refl _,hM.bhi,by simp,cT Kq hM.out,KA,(hM.pre Kq).rows⟩
   have E4:=gN kC
   obtain⟨v',H3,ap,YR,cJ,hlen,Ny,yQ,_⟩:=hA.snoc (gO:=lo) dK (by simp;omega) ⟨H1.length,k,k,List.replicate k 0⟩ (Nat.le_refl _) Cz (by simp) kC
   rw[List.length_replicate] at ap
   have eL2:∀K,jC false [.slice none 0 0] 1 [(0,.ref H1.length k 0 k k)] K=some (.tree [.ref H1.length k 0 k k] (.cl 1),K):=fun K=>gE rfl rfl rfl
   have eS2:∀K,cU 1 (.tree [.ref H1.length k 0 k k] (.cl 1)) K=some [.ref H1.length k 0 k k]:=fun K=>dQ rfl rfl
   simp only[tJ,g0,g3,g4,g5,g6,Yi,eL2,eS2,ap,wi,dX,VX,Nat.reduceEqDiff,Nat.reduceAdd,Nat.reduceLeDiff,Nat.reduceLT,Nat.reduceSub]
   rw[←List.replicate_succ'] at YR
   rcases YR with⟨_,h⟩ | ⟨b,g,Wx,k1,k2,rfl,k3,k4,k5⟩
   ·simp at h
   ·have rL:=KV (f:=nB) (lo:=lo) (bytes:=24) (x:=⟨H1.length,k,k,List.replicate k (0:Rat)⟩) (cT Kq hM.out) yS.symm dK (by decide) (by decide) (by omega)
    simp only[nB,List.length_replicate] at rL
    rw[rL] at ap
    injection ap with ap
    injection ap with ap1 ap2
    injection ap1 with q1 q2 q3 q4 q5
    subst q1 q2
    refine⟨i+1,by omega,by omega,yQ H (Nat.le_refl _) (hp.trans Kq),⟨Wx,by have:=congrArg List.length k4;simpa using this,k4,k3,Nat.le_refl _,k2,k5.nd,k5.row⟩,by (repeat' apply And.intro)<;>first | rfl | trivial | assumption | rw[List.length_replicate]⟩
 ·have nY:i=N:=by omega
  subst nY
  simp only[tM,g0,g3,g4,dB,dX,VX,Nat.reduceEqDiff,Nat.reduceAdd,Nat.reduceLeDiff,Nat.reduceLT,Nat.reduceSub]
  exact⟨hp,H.length,i,i,rs,by rw[List.length_replicate],by simp,hM,KA⟩
def SvS (s:Kn) (lo hi:Nat) (H:aA) (v:VV):Prop:=(∃a b c,v = .agg [a,b,c]∧bP a=true∧bP b=true∧bP c=true∧∀n,n≤lo→fB n a=true∧fB n b=true∧fB n c=true)∧Hl (svV s) lo hi H v
theorem SvS.cJ {s:Kn}:∀ {lo hi H H' v},SvS s lo hi H v→dH lo hi H H'→SvS s lo hi H' v:=fun h hk=>⟨h.1,h.2.cJ hk⟩
theorem SvS.wide {s:Kn}:∀ {lo hi gO kX:Nat} {H:aA} {v:VV},SvS s lo hi H v→gO≤lo→hi≤kX→SvS s gO kX H v:=fun h hl hh=>by
 obtain⟨⟨a,b,c,h1,h2,h3,h4,h5⟩,h6⟩:=h
 exact⟨⟨a,b,c,h1,h2,h3,h4,fun n hn=>h5 n (by omega)⟩,fun H' hk=>h6 H' (hk.sub hl hh)⟩
theorem SvS.ag {s:Kn} {lo hi:Nat} {H:aA} {v:VV} (h:SvS s lo hi H v) (n:Nat) (hn:n≤lo):∃a b c,v = .agg [a,b,c]∧bP a=true∧bP b=true∧bP c=true∧fB n a=true∧fB n b=true∧fB n c=true:=by
 obtain⟨⟨a,b,c,h1,h2,h3,h4,h5⟩,_⟩:=h
 exact⟨a,b,c,h1,h2,h3,h4,h5 n hn⟩
end Go.PM
namespace Go.PM
open Go.Lib
theorem X4 {qs:List Rat} {x:List ByteArray} (h:Cm qs=some x):x.length=qs.length:=by
 unfold Cm at h
 split at h
 ·cases h
  rw[List.length_map]
 ·cases h
theorem Y5.own {α:Type} {f:α→VV} {e lo hi n:Nat} {H:aA} {v:VV} {o:Option (List α)} (h:Y5 f e o lo hi H v) (hn:n≤lo):fB n v=true:=by
 cases o with
 |
  none =>
  have h:v = .tree [] .nil:=h
  subst h
  rfl
 |
  some ys =>
  obtain⟨b,g,c,h1,h2,rfl,h3⟩:=h
  simp[fB];omega
theorem NS.own {α:Type} {f:α→VV} {e lo hi n:Nat} {H:aA} {v:VV} {bJ:List (List α)} (h:NS f e bJ lo hi H v) (hn:n≤lo):fB n v=true:=by
 rcases h with⟨rfl,_⟩ | ⟨b,g,rs,q1,q2,rfl,_⟩
 ·rfl
 ·simp[fB];omega
end Go.PM
namespace Go.PM
open Go.Lib
end Go.PM
namespace Go.PM
open Go.Lib
set_option maxHeartbeats 4000000 in
theorem KB {lo:Nat} {H:aA} {v:VV} (m:List (List Rat)) {n B:Nat} (hv:Y3 bC 3 m H v) (dK:lo≤H.length) (hm:m.length=n) (hn:n≤100) (hB:B≤1000000) (hb:∀r∈m,r.length=n∧∀q∈r,aU q≤B) (hd:cL m≠0) :
  gV 62 [v] lo H (F1 (TabIs bC 3 (nA m)) H):=by
 have hmul:n*(B+1)≤100*(B+1):=Nat.mul_le_mul_right _ hn
 have uC:∀r∈m,r.length≤n∧∀q∈r,aU q≤B:=fun r hr=>⟨Nat.le_of_eq (hb r hr).1,(hb r hr).2⟩
 refine gV.walk ⟨true,false⟩ L8 (Nat.le_of_ble_eq_true rfl) ?_
 have e1:=xI
 have s0:=It (lo:=lo) (H:=H) (q:=0) dK
 simp only[Hi,C3,e1,s0,dX,VX,Nat.reduceEqDiff,Nat.reduceAdd,Nat.reduceLeDiff,Nat.reduceLT,Nat.reduceSub]
 refine aS (fun(i:Nat) ρ H1=>i≤m.length∧H <+: H1∧aI H1 H.length 0=some ([bC (iS m i)],3,true)∧ρ 0=v∧ρ 3 = .ptr H.length 0 0 0∧ρ 4=VI i) (fun i=>m.length-i) 0 ⟨Nat.zero_le _,List.prefix_append _ _,fN,rfl,rfl,rfl⟩ ?_
 rintro i ρ H1 ⟨hi,hp,Wo,g0,g3,g4⟩
 have Cz:=gN Wo
 have el:=hv.len H1 hp
 by_cases dB:(i:Int)<(m.length:Int)
 ·obtain⟨r,hr⟩:∃r,m[i]? = some r:=⟨_,List.getElem?_eq_getElem (by omega)⟩
  have CC:=hb r (List.mem_of_getElem? hr)
  obtain⟨p,w,a1,a2,hw⟩:=hv.get H1 hp i r hr
  have wi:IntKind.i64.wrap ((i:Int)+1)=((i+1:Nat):Int):=wrapN (i+1) (by omega) (by omega)
  have yS:r.length*(B+1)≤100*(B+1):=Nat.mul_le_mul_right _ (by omega)
  simp only[uX,g0,g3,g4,dB,el,a1,a2,dX,VX,Nat.reduceEqDiff,Nat.reduceAdd,Nat.reduceLeDiff,Nat.reduceLT,Nat.reduceSub]
  refine lC rfl (Cd (H:=H1) r hw (by omega) CC.2 (by omega) (by omega) (by omega)) fun x L hx => ?_
  subst hx
  have FB:=cF (L:=L) Wo
  have Kq:=jN (L:=L) hp
  have E4:H1.length≤(H1++L).length:=by rw[List.length_append];omega
  generalize H1++L=H2 at *
  have s1:=It (lo:=lo) (H:=H2) (q:=dZ r) (by omega)
  have s2:=aaK (H:=H2) (K:=[]) (q:=dZ r)
  have s3:bT true 3 (.ptr H.length 0 0 0) (H2++[cO.row 0 [bC (dZ r)] 3 true])=some (bC (iS m i)):=by
   rw[bQ,cF FB]
   exact fE _
  have b1:=tX CC.2 (Nat.le_of_eq CC.1)
  have b2:=tR uC i
  have e3:=KX (iS m i) (dZ r) (by omega) (by omega)
  have E5:=zE hr
  by_cases hc:iS m i<dZ r
  ·rw[decide_eq_true hc] at e3
   rw[if_pos hc] at E5
   have s4:=bU (lo:=lo) (v:=bC (dZ r)) (j:=0) (cF (L:=[.row 0 [bC (dZ r)] 3 true]) FB) (by exact Nat.zero_lt_one) dK rfl rfl
   rw[List.set_cons_zero] at s4
   simp only[g0,g3,g4,s1,s2,s3,s4,e3,wi,dX,VX,Nat.reduceEqDiff,Nat.reduceAdd,Nat.reduceLeDiff,Nat.reduceLT,Nat.reduceSub]
   exact⟨i+1,by omega,by omega,kW (jN Kq) (Nat.le_refl _),by rw[E5];exact bZ (cF FB),by (repeat' apply And.intro)<;>first | rfl | trivial | assumption⟩
  ·rw[decide_eq_false hc] at e3
   rw[if_neg hc] at E5
   simp only[g0,g3,g4,s1,s2,s3,e3,wi,dX,VX,Nat.reduceEqDiff,Nat.reduceAdd,Nat.reduceLeDiff,Nat.reduceLT,Nat.reduceSub]
   exact⟨i+1,by omega,by omega,jN Kq,by rw[E5];exact cF FB,by (repeat' apply And.intro)<;>first | rfl | trivial | assumption⟩
 ·have nY:i=m.length:=by omega
  subst nY
  have e0:∀K,jC false [.slice none 0 0] 0 [] K=some (.ref K.length 0 0 0 0,K++[.row 0 [] 1 true]):=fun K=>iE rfl
  simp only[uX,g0,g3,g4,dB,el,e0,dX,VX,Nat.reduceEqDiff,Nat.reduceAdd,Nat.reduceLeDiff,Nat.reduceLT,Nat.reduceSub]
  have Wo:aI H1 H.length 0=some ([bC (cL m)],3,true):=Wo
  have bm:=tR uC m.length
  rw[←cL] at bm
  refine aS (fun(i:Nat) ρ H2=>i≤m.length∧H <+: H2∧aI H2 H.length 0=some ([bC (cL m)],3,true)∧(∃rs,rs.length=i∧rs.map (·.xs)=(nA m).take i∧MG bC 3 H1.length H2.length H1.length i H2 rs)∧ρ 0=v∧ρ 3 = .ptr H.length 0 0 0∧ρ 6 = .ref H1.length i 0 i i∧ρ 7=VI i) (fun i=>m.length-i) 0
   ⟨Nat.zero_le _,jN hp,cF Wo,⟨[],rfl,rfl,fN,Nat.le_refl _,by simp,by simp,by simp⟩,by (repeat' apply And.intro)<;>first | rfl | trivial | assumption⟩ ?_
  clear g0 g3 g4 dB el
  rintro i ρ H2 ⟨hi,Kq,FB,⟨rs,yS,KA,hM⟩,g0,g3,g6,g7⟩
  have el:=hv.len H2 Kq
  by_cases dB:(i:Int)<(m.length:Int)
  ·obtain⟨r,hr⟩:∃r,m[i]? = some r:=⟨_,List.getElem?_eq_getElem (by omega)⟩
   have CC:=hb r (List.mem_of_getElem? hr)
   have wi:IntKind.i64.wrap ((i:Int)+1)=((i+1:Nat):Int):=wrapN (i+1) (by omega) (by omega)
   have hbh:=hM.bhi
   have e0':∀K,jC false [.bool false,.slice none 0 0,.slice none 0 0] 0 [] K=some (.ref K.length 0 0 0 0,K++[.row 0 [] 3 true]):=fun K=>iE rfl
   simp only[vD,g0,g3,g6,g7,dB,el,e0',dX,VX,Nat.reduceEqDiff,Nat.reduceAdd,Nat.reduceLeDiff,Nat.reduceLT,Nat.reduceSub]
   have E4:=Kq.length_le
   refine aS (fun(k:Nat) ρ H3=>k≤n∧H2 <+: H3∧aI H3 H2.length k=some (((r.take k).map (· / cL m)).map bC,3,true)∧ρ 0=v∧ρ 3 = .ptr H.length 0 0 0∧ρ 6 = .ref H1.length i 0 i i∧ρ 7=VI i∧ρ 8 = .ref H2.length k 0 k k∧ρ 9=VI k) (fun k=>n-k) 0 ⟨Nat.zero_le _,List.prefix_append _ _,fN,by (repeat' apply And.intro)<;>first | rfl | trivial | assumption⟩ ?_
   clear g0 g3 g6 g7
   rintro k ρ H3 ⟨hk,hp3,kC,g0,g3,g6,g7,g8,g9⟩
   have amT:=Kq.trans hp3
   have el3:=hv.len H3 amT
   have hl3:=gN kC
   by_cases Yi:(k:Int)<(m.length:Int)
   ·obtain⟨q,hq⟩:∃q,r[k]? = some q:=⟨_,List.getElem?_eq_getElem (by omega)⟩
    obtain⟨p,w,a1,a2,hw⟩:=hv.get H3 amT i r hr
    obtain⟨p2,a3,a4⟩:=hw.get H3 (List.prefix_refl _) k q hq
    have a4':=(a4 true).trans (fE _)
    have wk:IntKind.i64.wrap ((k:Int)+1)=((k+1:Nat):Int):=wrapN (k+1) (by omega) (by omega)
    have s3:bT true 3 (.ptr H.length 0 0 0) H3=some (bC (cL m)):=by
     rw[bQ,cT hp3 FB]
     exact fE _
    have e4:=Ls q (cL m) hd (by have:=CC.2 q (List.mem_of_getElem? hq);omega) (by omega)
    have eL:∀H,jC false [.bool false,.slice none 0 0,.slice none 0 0] 1 [(0,bC (q / cL m))] H=some (.tree [bC (q / cL m)] (.cl 3),H):=fun H=>gE rfl rfl rfl
    have eS:∀H,cU 3 (.tree [bC (q / cL m)] (.cl 3)) H=some [bC (q / cL m)]:=fun H=>dQ rfl rfl
    have eP:=KV (lo:=lo) (bytes:=56) (x:=q / cL m) kC (by simp;omega) (by omega) (by decide) (by decide) (by omega)
    simp only[vM,g0,g3,g7,g8,g9,Yi,el3,a1,a2,a3,a4',s3,e4,eL,eS,eP,wk,dX,VX,Nat.reduceEqDiff,Nat.reduceAdd,Nat.reduceLeDiff,Nat.reduceLT,Nat.reduceSub]
    exact⟨k+1,by omega,by omega,kW hp3 (Nat.le_refl _),by rw[gU hq,List.map_append (l₁:=r.take k)];exact bZ kC,by (repeat' apply And.intro)<;>first | rfl | trivial | assumption⟩
   ·have hke:k=n:=by omega
    subst hke
    rw[List.take_of_length_le (by omega)] at kC
    have e4:=Nl
    simp only[vM,g0,g3,g6,g7,g8,g9,Yi,el3,e4,dX,VX,Nat.reduceEqDiff,Nat.reduceAdd,Nat.reduceLeDiff,Nat.reduceLT,Nat.reduceSub]
    have qb:=Iu CC.2 bm
    have Z1:(r.map (· / cL m)).length*(B+(k*(B+1)+1)+1+1)≤100*(B+(k*(B+1)+1)+1+1):=Nat.mul_le_mul_right _ (by rw[List.length_map];omega)
    have Ga:(r.map (· / cL m)).length=k:=by rw[List.length_map];omega
    refine lC rfl (Cd (H:=H3) (v := .ref H2.length k 0 k k) (r.map (· / cL m)) (Rd.row kC Ga.symm) (by omega) qb (by omega) (by omega) (by omega)) fun x L4 hx => ?_
    subst hx
    have hM4:=hM.pre (hp3.trans (List.prefix_append H3 L4))
    have alP:=cT (hp3.trans (List.prefix_append H3 L4)) FB
    have hp4:=jN (L:=L4) amT
    have hl4:H3.length≤(H3++L4).length:=by rw[List.length_append];omega
    have k5:=cF (L:=L4) kC
    generalize H3++L4=H4 at *
    have b3:=tX (n:=k) qb (Nat.le_of_eq Ga)
    have arY:k*(B+(k*(B+1)+1)+1+1)≤100*(B+(k*(B+1)+1)+1+1):=Nat.mul_le_mul_right _ hn
    have e5:=J2 1 (dZ (r.map (· / cL m))) (by rw[Ih];omega) (by omega)
    have a3:=bE (o:=0) (n:=k) (c:=k) (i:=i) (k := .i64) k5 (by omega)
    rw[Nat.zero_add] at a3
    have s5:bR lo 3 (.ptr H2.length k i 0) (bC (1-dZ (r.map (· / cL m)))) H4=some (H4.set H2.length (.row k ((kA (cL m) i r).map bC) 3 true)):=fK (lo:=lo) (f:=bC) (x:=1-dZ (r.map (· / cL m))) (j:=i) k5 (by omega) (by omega) rfl rfl
    have hM5:=hM4.cJ (H':=H4.set H2.length (.row k ((kA (cL m) i r).map bC) 3 true)) (dH.set (by omega))
    have k6:=bZ (g:=k) (e:=3) (w:=true) (es:=(kA (cL m) i r).map bC) k5
    have VC:(kA (cL m) i r).length=k:=by rw[kA,List.length_set];exact Ga
    obtain⟨ap,hM6⟩:=hM5.snoc (gO:=lo) yS.symm (by omega) (by omega) ⟨H2.length,k,k,kA (cL m) i r⟩ (Nat.le_refl _) (by simp only[VC];exact Nat.le_refl _) k6
    simp only[VC] at ap
    have eL:∀K,jC false [.slice none 0 0] 1 [(0,.ref H2.length k 0 k k)] K=some (.tree [.ref H2.length k 0 k k] (.cl 1),K):=fun K=>gE rfl rfl rfl
    have eS:∀K,cU 1 (.tree [.ref H2.length k 0 k k] (.cl 1)) K=some [.ref H2.length k 0 k k]:=fun K=>dQ rfl rfl
    simp only[g6,g7,g8,e5,a3,s5,eL,eS,ap,wi,dX,VX,Nat.reduceEqDiff,Nat.reduceAdd,Nat.reduceLeDiff,Nat.reduceLT,Nat.reduceSub]
    refine⟨i+1,by omega,by omega,kW (kW hp4 (by omega)) (by omega),cD (by omega) (cD (by omega) alP),⟨rs++[⟨H2.length,k,k,kA (cL m) i r⟩],by rw[List.length_append,yS];rfl,?_,?_⟩,by (repeat' apply And.intro)<;>first | rfl | trivial | assumption⟩
    ·have rG:(nA m)[i]? = some (kA (cL m) i r):=by
      rw[nA,BT (by omega),List.getD_eq_getElem?_getD,hr]
      rfl
     rw[gU rG,List.map_append,KA]
     rfl
    ·exact hM6.wide (Nat.le_refl _) (by simp)
  ·have nY:i=m.length:=by omega
   subst nY
   rw[List.take_of_length_le (by rw[nA,uA];exact Nat.le_refl _)] at KA
   simp only[vD,g0,g3,g6,g7,dB,el,dX,VX,Nat.reduceEqDiff,Nat.reduceAdd,Nat.reduceLeDiff,Nat.reduceLT,Nat.reduceSub]
   have VC:(nA m).length=m.length:=by rw[nA,uA]
   exact⟨Kq,H1.length,m.length,m.length,rs,by rw[VC],by rw[VC];exact Nat.le_refl _,hM.wide hp.length_le (Nat.le_refl _),KA⟩
end Go.PM
namespace Go.PM
open Go.Lib
end Go.PM
namespace Go.PM
open Go.Lib
section
variable {b:List Rat} {g:List (List Rat)} {e row:List Rat} {n i:Nat} {st:List Bool}
end
end Go.PM
namespace Go.PM
open Go.Lib
end Go.PM
namespace Go.PM
end Go.PM
namespace Go.PM
theorem sE (q:Rat):(aB (bC q)).all bP=true:=rfl
theorem aaB {lo k:Nat} {H K:aA} {x:VV} {q:Rat} (h:lo≤H.length) (hK:K[k]? = some (.row 0 [x] 3 true)):bR lo 3 (.ptr (H.length+k) 0 0 0) (bC q) (H++K)=some (H++K.set k (.row 0 [bC q] 3 true)):=by
 have hr:aI (H++K) (H.length+k) 0=some ([x],3,true):=by
  rw[cG,List.getElem?_append_right (by omega),Nat.add_sub_cancel_left]
  exact hK
 rw[bU (e:=3) hr (by exact Nat.zero_lt_one) (by omega) (nD q) (sE q),List.set_append_right _ _ (by omega),Nat.add_sub_cancel_left]
 rfl
theorem ahP {k:Nat} {H K:aA} {q:Rat} (hK:K[k]? = some (.row 0 [bC q] 3 true)):bT true 3 (.ptr (H.length+k) 0 0 0) (H++K)=some (bC q):=by
 have hr:aI (H++K) (H.length+k) 0=some ([bC q],3,true):=by
  rw[cG,List.getElem?_append_right (by omega),Nat.add_sub_cancel_left]
  exact hK
 rw[bQ,hr]
 exact fE q
theorem asA {H:aA} {b:Nat} {q:Rat} (h:aI H b 0=some ([bC q],3,true)):bT true 3 (.ptr b 0 0 0) H=some (bC q):=by
 rw[bQ,h]
 exact fE q
end Go.PM
namespace Go.PM
open Go.Lib
section
variable {lo gO hi N b g c:Nat} {H:aA} {L:List Am}
theorem Sf (hT:Tb aQ gO hi N N b g (fH L) H) (i j:Nat) (q:Rat) (kX:i<N) (hj:j<N) (dK:lo≤gO) (hF:aU (fH L i j)≤1000000) (hq:aU q≤1000000) :
  gV 95 [.ref b g 0 N c,VI i,VI j,aQ q] lo H fun _ H'=>M9 gO hi H H'∧Tb aQ gO hi N N b g (fH (L++[(i,j,q)])) H':=by
 refine gV.walk ⟨true,false⟩ DC (Nat.le_of_ble_eq_true rfl) ?_
 have lq:∀K,bT true 3 (.cN (aQ q) 0) K=some (aQ q):=fun K=>dF q
 by_cases h:i=j
 ·subst h
  simp only[qY,oB,KU,ne_eq,not_true_eq_false,decide_false,if_true,dX,VX,Nat.reduceEqDiff,Nat.reduceAdd,Nat.reduceLeDiff,Nat.reduceLT,Nat.reduceSub]
  exact⟨M9.refl,by rw[E7];exact hT⟩
 ·have fC:¬(i:Int)=(j:Int):=by omega
  obtain⟨rb,rg,rc,c1,c2,c3,c4⟩:=hT.spot kX hj HF KU
  obtain⟨H2,c5,c6,Pp,_⟩:=c4 lo (fH L i j+q) dK
  have a1:=hT.addr (c:=c) kX
  have a2:=(c3 true).trans (dF _)
  have e1:=wS (fH L i j) q (by omega) (by omega)
  simp only[qY,oB,KU,fC,a1,a2,c1,c2,c5,e1,lq,ne_eq,not_false_eq_true,decide_true,if_true,dX,VX,Nat.reduceEqDiff,Nat.reduceAdd,Nat.reduceLeDiff,Nat.reduceLT,Nat.reduceSub]
  exact⟨c6,by rw[Fm,Q7 h];exact Pp⟩
theorem M8 (hT:Tb bC gO hi N N b g (fH L) H) (i j:Nat) (q:Rat) (kX:i<N) (hj:j<N) (dK:lo≤gO) (hF:aU (fH L i j)≤1000000) (hq:aU q≤1000000) :
  gV 90 [.ref b g 0 N c,VI i,VI j,bC q] lo H fun _ H'=>M9 gO hi H H'∧Tb bC gO hi N N b g (fH (L++[(i,j,q)])) H':=by
 refine gV.walk ⟨true,false⟩ Nt (Nat.le_of_ble_eq_true rfl) ?_
 have lq:∀K,bT true 3 (.cN (bC q) 0) K=some (bC q):=fun K=>fE q
 by_cases h:i=j
 ·subst h
  simp only[CI,Ah,sE,ne_eq,not_true_eq_false,decide_false,if_true,dX,VX,Nat.reduceEqDiff,Nat.reduceAdd,Nat.reduceLeDiff,Nat.reduceLT,Nat.reduceSub]
  exact⟨M9.refl,by rw[E7];exact hT⟩
 ·have fC:¬(i:Int)=(j:Int):=by omega
  obtain⟨rb,rg,rc,c1,c2,c3,c4⟩:=hT.spot kX hj nD sE
  obtain⟨H2,c5,c6,Pp,_⟩:=c4 lo (fH L i j+q) dK
  have a1:=hT.addr (c:=c) kX
  have a2:=(c3 true).trans (fE _)
  have e1:=zX (fH L i j) q (by omega) (by omega)
  simp only[CI,Ah,sE,fC,a1,a2,c1,c2,c5,e1,lq,ne_eq,not_false_eq_true,decide_true,if_true,dX,VX,Nat.reduceEqDiff,Nat.reduceAdd,Nat.reduceLeDiff,Nat.reduceLT,Nat.reduceSub]
  exact⟨c6,by rw[Fm,Q7 h];exact Pp⟩
structure Tq (f:Rat→VV) (lo hi N b g:Nat) (L:List Am) (H:aA):Prop where
 t:Tb f lo hi N N b g (fH L) H
 b:∀t∈L,aU t.2.2≤1331
 l:L.length≤400
theorem Tq.bits {f:Rat→VV} (h:Tq f lo hi N b g L H) (i j:Nat):aU (fH L i j)≤1000000:=by
 have h1:=Lb h.b i j
 have h2:L.length*(1331+1)≤400*(1331+1):=Nat.mul_le_mul_right _ h.l
 omega
theorem Tq.cJ {f:Rat→VV} {H':aA} (h:Tq f lo hi N b g L H) (hk:dH lo hi H H'):Tq f lo hi N b g L H':=⟨h.t.cJ hk,h.b,h.l⟩
theorem Tq.pre {f:Rat→VV} {H':aA} (h:Tq f lo hi N b g L H) (hh:H <+: H'):Tq f lo hi N b g L H':=h.cJ (dH.pre hh)
theorem Tq.snoc {f:Rat→VV} {H':aA} {i j:Nat} {q:Rat} (h:Tq f lo hi N b g L H) (hT:Tb f lo hi N N b g (fH (L++[(i,j,q)])) H') (hq:aU q≤1331) (hl:L.length<400):Tq f lo hi N b g (L++[(i,j,q)]) H' :=
 ⟨hT,fun t ht=>by
  rcases List.mem_append.1 ht with ht | ht
  ·exact h.b t ht
  ·rw[List.mem_singleton] at ht
   subst ht
   exact hq,by rw[List.length_append];exact hl⟩
theorem Tq.same {f:Rat→VV} {i:Nat} {q:Rat} (h:Tq f lo hi N b g L H) (hq:aU q≤1331) (hl:L.length<400):Tq f lo hi N b g (L++[(i,i,q)]) H:=h.snoc (by rw[E7];exact h.t) hq hl
theorem DM {K:VV→aA→Prop} (hT:Tq aQ gO hi N b g L H) (i j:Nat) (q:Rat) (kX:i<N) (hj:j<N) (dK:lo≤gO) (hq:aU q≤1331) (hl:L.length<400)
  (hk:∀r H',M9 gO hi H H'→Tq aQ gO hi N b g (L++[(i,j,q)]) H'→K r H'):cS 95 [.ref b g 0 N c,VI i,VI j,aQ q] lo H K :=
 gI rfl ((Sf hT.t i j q kX hj dK (hT.bits i j) (by omega)).mono fun r H' h=>hk r H' h.1 (hT.snoc h.2 hq hl))
theorem GX {K:VV→aA→Prop} (hT:Tq bC gO hi N b g L H) (i j:Nat) (q:Rat) (kX:i<N) (hj:j<N) (dK:lo≤gO) (hq:aU q≤1331) (hl:L.length<400)
  (hk:∀r H',M9 gO hi H H'→Tq bC gO hi N b g (L++[(i,j,q)]) H'→K r H'):cS 90 [.ref b g 0 N c,VI i,VI j,bC q] lo H K :=
 gI rfl ((M8 hT.t i j q kX hj dK (hT.bits i j) (by omega)).mono fun r H' h=>hk r H' h.1 (hT.snoc h.2 hq hl))
end
theorem S9 {lo N:Nat} {H:aA} {K:VV→aA→Prop} (hN:N≤1000) (dK:lo≤H.length) (hk:∀b g c L,N≤c→Tq aQ H.length (H++L).length N b g [] (H++L)→K (.ref b g 0 N c) (H++L)):cS 94 [VI N] lo H K:=by
 refine lC rfl (gV.walk ⟨true,false⟩ HZ (Nat.le_of_ble_eq_true rfl) (K:=F1 (TabIs aQ 3 (Nv N N fun _ _=>0)) H) ?_) fun r L hr => ?_
 ·simp only[Dv,A5,dX,VX,Nat.reduceEqDiff,Nat.reduceAdd,Nat.reduceLeDiff,Nat.reduceLT,Nat.reduceSub]
  refine lC rfl (PT N hN dK) fun r L hr => ?_
  rw[Rt] at hr
  simp only[dX,VX,Nat.reduceEqDiff,Nat.reduceAdd,Nat.reduceLeDiff,Nat.reduceLT,Nat.reduceSub]
  exact⟨List.prefix_append _ _,hr⟩
 ·obtain⟨b,g,c,rfl,h1,h2⟩:=hr.tb
  exact hk b g c L h1 ⟨h2,(fun t ht=>by cases ht),by decide⟩
theorem SO {lo N:Nat} {H:aA} {K:VV→aA→Prop} (hN:N≤1000) (dK:lo≤H.length) (hk:∀b g c L,N≤c→Tq bC H.length (H++L).length N b g [] (H++L)→K (.ref b g 0 N c) (H++L)):cS 76 [VI N] lo H K:=by
 refine lC rfl (JL N hN dK) fun r L hr => ?_
 rw[Rt] at hr
 obtain⟨b,g,c,rfl,h1,h2⟩:=hr.tb
 exact hk b g c L h1 ⟨h2,(fun t ht=>by cases ht),by decide⟩
theorem amV {H:aA} {es:List VV} {k:Nat} (hp:aM es=true):PM.fz depth H (.tree es (.cl k))=some (.tree es .op):=by
 have h0:aN (.tree es (.cl k))=false:=by simp[aN]
 show PM.fz (7+1) H _=_
 unfold PM.fz
 simp only[h0,Bool.false_eq_true,if_false]
 rw[mapM_pure (n:=6) hp]
 rfl
theorem XY {H:aA} {es:List VV} {k:Nat} (hp:aM es=true):hJ depth H (.tree es (.cl k))=[]:=by
 have h0:aN (.tree es (.cl k))=false:=by simp[aN]
 show hJ (7+1) H _=_
 unfold hJ
 simp only[h0,Bool.false_eq_true,if_false]
 exact wI hp
theorem TC.cl {f lo k:Nat} {H:aA} {es:List VV} {r:VV} {K:VV→aA→Prop} (h:TC f [.tree es .op] r) (hr:Cy.contains f=false) (hp:aM es=true) (Cu:aN (.tree es .op)=true):cS f [.tree es (.cl k)] lo H K=K r H:=by
 have h0:aN (.tree es (.cl k))=false:=by simp[aN]
 rw[h.Dr (H:=H) (lo:=lo) (k:=K) hr (alG Cu) (fz1 (amV hp)) (by simp[aM,h0]),List.flatMap_cons,XY hp]
 split<;>rfl
def CT (o:Option Rat):VV:=match o with
 | some q => .dT [bC q,VB (decide (0<q))]
 | none => .dT [Fw,VB false]
set_option maxHeartbeats 1000000 in
theorem yI (x:ByteArray) (hx:x.size≤1000000000):TC 87 [sV x] (CT (pQ x)):=by
 refine TC.walk ⟨true,false⟩ K7 rfl (Nat.le_of_ble_eq_true rfl) rfl (by unfold CT;split<;>simp[gJ,qB,sK,FY,kB]) ?_
 have e1:=JQ x.data.toList (by rw[Array.length_toList];show x.size≤_;omega)
 rw[←aeE] at e1
 have s2:∀q,bR 0 3 (.ptr 1 0 0 0) (bC q) [cell0,cell0]=some [cell0,.row 0 [bC q] 3 true]:=fun q=>aaB (lo:=0) (H:=[]) (k:=1) (Nat.zero_le _) rfl
 have l2:∀q,bT true 3 (.ptr 1 0 0 0) [cell0,.row 0 [bC q] 3 true]=some (bC q):=fun q=>ahP (H:=[]) (k:=1) rfl
 cases hp:pQ x with
 |
  none =>
  rw[SG hp] at e1
  simp only[rH,oC,e1,CT,Di,Fj,Ld,aV,aY,aP,iU,Nat.reduceLeDiff,Nat.reduceLT,Nat.reduceSub,Eo,lB,nH,tD,AZ,AO,bne_iff_ne,ne_eq,not_false_eq_true,not_true_eq_false,dX,VX,Nat.reduceEqDiff,Nat.reduceAdd,Nat.reduceLeDiff,Nat.reduceLT,Nat.reduceSub]
  exact aF (tL OF rfl)
 |
  some q =>
  rw[Rg hp] at e1
  have e2:=Mv q
  have e3:=Nc q
  by_cases hz:q=0
  ·rw[decide_eq_true hz] at e2
   have h0:¬0<q:=by rw[hz];exact Rat.lt_irrefl
   simp only[rH,oC,e1,e2,e3,s2,l2,CT,h0,decide_false,Bool.not_true,nD,sE,fE,iU,Nat.reduceLeDiff,Nat.reduceLT,Nat.reduceSub,Eo,lB,nH,tD,AZ,AO,bne_iff_ne,ne_eq,not_false_eq_true,not_true_eq_false,dX,VX,Nat.reduceEqDiff,Nat.reduceAdd,Nat.reduceLeDiff,Nat.reduceLT,Nat.reduceSub]
   exact aF (tL (jJ _) rfl)
  ·rw[decide_eq_false hz] at e2
   by_cases oU:q.num<0
   ·rw[decide_eq_true oU] at e3
    have h0:¬0<q:=fun h=>by have:=V7.1 oU;grind
    simp only[rH,oC,e1,e2,e3,s2,l2,CT,h0,decide_false,Bool.not_true,Bool.not_false,nD,sE,fE,iU,Nat.reduceLeDiff,Nat.reduceLT,Nat.reduceSub,Eo,lB,nH,tD,AZ,AO,bne_iff_ne,ne_eq,not_false_eq_true,not_true_eq_false,dX,VX,Nat.reduceEqDiff,Nat.reduceAdd,Nat.reduceLeDiff,Nat.reduceLT,Nat.reduceSub]
    exact aF (tL (jJ _) rfl)
   ·rw[decide_eq_false oU] at e3
    have h0:0<q:=by have:=mt V7.2 oU;grind
    simp only[rH,oC,e1,e2,e3,s2,l2,CT,h0,decide_true,Bool.not_false,nD,sE,fE,iU,Nat.reduceLeDiff,Nat.reduceLT,Nat.reduceSub,Eo,lB,nH,tD,AZ,AO,bne_iff_ne,ne_eq,not_false_eq_true,not_true_eq_false,dX,VX,Nat.reduceEqDiff,Nat.reduceAdd,Nat.reduceLeDiff,Nat.reduceLT,Nat.reduceSub]
    exact aF (tL (jJ _) rfl)
theorem aeJ {n lo hi b g c:Nat} {p:Nat×List Am} {H:aA} {K:VV→aA→Prop} (hp:QOk p) (hT:Tq aQ lo hi p.1 b g p.2 H) (hn:n≤H.length)
  (hk:∀x L,TabIs aQ 3 (nA (qR p)) H.length (H++L).length (H++L) x→K x (H++L)):cS 72 [.ref b g 0 p.1 c] n H K :=
 lC rfl (RU (H:=H) (v := .ref b g 0 p.1 c) (qR p) (n:=p.1) (B:=600000) hT.t.rdT hn BL (by have:=hp.n;omega) (by decide) hp.rows hp.aqA) hk
theorem TabIs.fz {f:Rat→VV} {m:List (List Rat)} {lo hi:Nat} {H:aA} {v:VV} (h:TabIs f 3 m lo hi H v) (hpu:∀x,aN (f x)=true):PM.fz depth H v=some (aT (aT f) m):=by
 obtain⟨b,g,c,rs,rfl,k1,hM,KA⟩:=h
 have yS:rs.length=m.length:=by rw[←KA,List.length_map]
 have T8:=hM.fz (d:=5) (c:=c) (by omega) hpu
 rw[KA,yS] at T8
 exact T8
theorem TabIs.fzd {d:Nat} {f:Rat→VV} {m:List (List Rat)} {lo hi:Nat} {H:aA} {v:VV} (h:TabIs f 3 m lo hi H v) (hpu:∀x,aN (f x)=true):PM.fz (d+3) H v=some (aT (aT f) m):=by
 obtain⟨b,g,c,rs,rfl,k1,hM,KA⟩:=h
 have yS:rs.length=m.length:=by rw[←KA,List.length_map]
 have T8:=hM.fz (d:=d) (c:=c) (by omega) hpu
 rw[KA,yS] at T8
 exact T8
theorem acH:QM none = .dT [.tree [] .op,VB false]:=rfl
theorem wN {x:Int} (k:Nat) (h:x=k) (hk:k≤1000000000):IntKind.i64.wrap x=(k:Int):=by
 subst h
 exact wrapN k (by omega) (by omega)
theorem QOk.told {p:Nat×List Am} (hp:QOk p):(nA (qR p)).length≤1000000∧∀r∈nA (qR p),r.length≤1000000∧∀q∈r,aU q≤1099511627776:=by
 have hn:=hp.n
 obtain⟨el,eb⟩:=NG BL (B:=600000) hp.rows (by omega) (by omega)
 exact⟨by omega,fun r hr=>⟨by have:=(eb r hr).1;omega,fun q hq=>by have:=(eb r hr).2 q hq;omega⟩⟩
end Go.PM
namespace Go.PM
structure WE (s:Kn):Prop where
 b:s.b.length≤100
 g:s.g.length≤100
 r:∀x∈s.g,x.length≤100
 e:s.e.length≤100
theorem Bl {β:Type}:∀ {xs:List (List β)} {n:Nat},(∀x∈xs,x.length≤n)→cW xs≤xs.length*n
 | [],n,_=>by simp[cW]
 |
  x::xs,n,h=>by
  have h1:=h x List.mem_cons_self
  have h2:=Bl (xs:=xs) (n:=n) fun y hy=>h y (List.mem_cons_of_mem _ hy)
  have e:cW (x::xs)=x.length+cW xs:=by simp[cW]
  rw[e,List.length_cons,Nat.add_mul,Nat.one_mul]
  omega
theorem WE.n {s:Kn} (h:WE s):svN s≤10200:=by
 have h1:=Bl h.r
 have h2:s.g.length*100≤100*100:=Nat.mul_le_mul_right _ h.g
 have h3:=h.b
 have h4:=h.e
 unfold svN
 omega
def Ag3 (v:VV):Prop:=∃a b c,v = .agg [a,b,c]∧bP a=true∧bP b=true∧bP c=true
theorem WB.ag3 {s:Kn} {lo hi:Nat} {H:aA} {v:VV} (h:WB s lo hi H v):Ag3 v:=by
 obtain⟨a,b,c,h1,h2,h3,h4,_⟩:=h.own (n:=0) (Nat.zero_le _)
 exact⟨a,b,c,h1,h2,h3,h4⟩
theorem SvS.ag3 {s:Kn} {lo hi:Nat} {H:aA} {v:VV} (h:SvS s lo hi H v):Ag3 v:=by
 obtain⟨⟨a,b,c,h1,h2,h3,h4,_⟩,_⟩:=h
 exact⟨a,b,c,h1,h2,h3,h4⟩
theorem TM {m:List (List Rat)} {y:List (List ByteArray)} {B:Nat} (h:vP m=some y) (hB:∀r∈m,r.length≤B):y.length=m.length∧∀x∈y,x.length≤B :=
 ⟨sX h,fun x hx=>by
  have key:∀ {m:List (List Rat)} {y:List (List ByteArray)},m.mapM Cm=some y→(∀r∈m,r.length≤B)→∀x∈y,x.length≤B:=by
   intro m
   induction m with
   | nil=>intro y h _ x hx;cases h;cases hx
   |
    cons r m ih =>
    intro y h hB x hx
    obtain⟨z,zs,h1,h2,rfl⟩:=lO h
    rcases List.mem_cons.1 hx with rfl | hx
    ·rw[X4 h1];exact hB r List.mem_cons_self
    ·exact ih h2 (fun r hr=>hB r (List.mem_cons_of_mem _ hr)) x hx
  exact key h hB x hx⟩
end Go.PM
namespace Go.PM
open Go.Lib
theorem Y5.wide {α:Type} {f:α→VV} {e:Nat} {o:Option (List α)}:∀ {lo hi gO kX:Nat} {H:aA} {v:VV},Y5 f e o lo hi H v→gO≤lo→hi≤kX→Y5 f e o gO kX H v:=by
 intro lo hi gO kX H v h hl hh
 cases o with
 | none=>exact h
 |
  some ys =>
  obtain⟨b,g,c,h1,h2,h3⟩:=h
  exact⟨b,g,c,by omega,by omega,h3⟩
end Go.PM
namespace Go.PM
structure yV (s:List (List ByteArray)):Prop where
 g:s.length≤100
 r:∀x∈s,x.length≤100
theorem yV.n {s:List (List ByteArray)} (h:yV s):cW s≤10000:=by
 have h1:=Bl h.r
 have h2:s.length*100≤100*100:=Nat.mul_le_mul_right _ h.g
 omega
theorem ajG {lo:Nat} {s:List (List ByteArray)} {H:aA} {v w:VV} {K:VV→aA→Prop} (hs:yV s) (hv:PM.fz depth H v=some (chV s)) (hw:PM.fz depth H w=some (chV s)):cS 19 [v,w] lo H K=K (VB true) H:=by
 have h:=Lt s s (by have:=hs.g;omega) (fun x hx=>by have:=hs.r x hx;omega)
 rw[decide_eq_true rfl] at h
 exact TC.flat h rfl (HI (AQ _) (AQ _)) (fz2 hv hw) rfl _ _
theorem Wi {lo:Nat} {s:List (List ByteArray)} {H:aA} {v:VV} {K:VV→aA→Prop} (hs:yV s) (hv:PM.fz depth H v=some (chV (qO 101 s))):cS 23 [v,VI 101] lo H K=K (VI (101+cW s)) H:=by
 have h:=IN 101 s (by omega) (by have:=hs.g;omega) (by have:=hs.n;omega)
 exact TC.flat h rfl (HI (AQ _) rfl) (fz2 hv (aF rfl)) rfl _ _
def Ag1 (v:VV):Prop:=∃a,v = .agg [a]∧bP a=true
theorem CG.ag3 {s:List (List ByteArray)} {lo hi:Nat} {H:aA} {v:VV} (h:CG s lo hi H v):Ag1 v:=by
 obtain⟨c,h1,h2,_,_⟩:=h.own (n:=0) (Nat.zero_le _)
 exact⟨c,h1,h2⟩
theorem Uy {lo:Nat} {H:aA} {v:VV} (h:Ag1 v) (dK:lo≤H.length):bR lo 1 (.ptr H.length 0 0 0) v (H++[.row 0 [.tree [] .nil] 1 true])=some (H++[.row 0 [v] 1 true]):=by
 obtain⟨a,rfl,h1⟩:=h
 rw[bU (e:=1) (g:=0) (j:=0) fN (by exact Nat.zero_lt_one) dK rfl (by simp[aB,h1]),Gp]
 rfl
theorem Ok {b:Nat} {H:aA} {v:VV} (h:Ag1 v) (hr:aI H b 0=some ([v],1,true)):bT true 1 (.ptr b 0 0 0) H=some v:=by
 obtain⟨a,rfl,_⟩:=h
 rw[bQ,hr]
 rfl
end Go.PM
namespace Go.PM
theorem PE {a b c d e:VV} (ha:aN a=true) (hb:aN b=true) (hc:aN c=true) (hd:aN d=true) (he:aN e=true):aM [a,b,c,d,e]=true:=by simp[aM,ha,hb,hc,hd,he]
theorem fz5 {d:Nat} {H:aA} {a b c e f a' b' c' e' f':VV} (ha:fz d H a=some a') (hb:fz d H b=some b') (hc:fz d H c=some c') (he:fz d H e=some e') (hf:fz d H f=some f'):[a,b,c,e,f].mapM (fz d H)=some [a',b',c',e',f']:=by
 rw[List.mapM_cons,ha,List.mapM_cons,hb,List.mapM_cons,hc,List.mapM_cons,he,List.mapM_cons,hf]
 rfl
theorem PF {o:Option (Nat×List Am)} (h:∀p,o=some p→QOk p):yV ((Fc o).getD []):=by
 have h0:yV []:=⟨by decide,fun x hx=>by cases hx⟩
 cases o with
 | none=>exact h0
 |
  some p =>
  have hp:=h p rfl
  show yV ((vP (nA (qR p))).getD [])
  cases ht:vP (nA (qR p)) with
  | none=>exact h0
  |
   some y =>
   have hn:=hp.n
   obtain⟨e1,e2⟩:=NG BL hp.rows (by omega) (by omega)
   obtain⟨j1,j2⟩:=TM (B:=100) ht fun r hr=>by have:=(e2 r hr).1;omega
   exact⟨by rw[Option.getD_some,j1,e1];omega,j2⟩
def Kx (f s v:ByteArray) (a b:Int):=Fc (rD f s v a b)
theorem TP (f s v:ByteArray) (a b:Int):yV ((Kx f s v a b).getD []):=PF fun _=>Km
end Go.PM
namespace Go.PM
open Go.Lib
def Nr (o:Option (Nat×List Am)):VV:=match o with
 | some p => .dT [aT (aT aQ) (nA (qR p)),VB true]
 | none => .dT [.tree [] .op,VB false]
theorem abL (o:Option (Nat×List Am)):gJ (Nr o)=true:=by
 unfold Nr
 split
 ·exact Au (ahJ _) rfl
 ·exact Au (by decide) rfl
set_option maxHeartbeats 1000000 in
theorem F9 (o:Option (Nat×List Am)) (ho:∀p,o=some p→QOk p) (v:VV) (ok:Bool) (h:Nr o = .dT [v,VB ok]):FC 103 [v,VB ok] (Vn (CG ((Fc o).getD [])) (Fc o).isSome):=by
 refine FC.I1 ⟨true,false⟩ Gq (Nat.le_of_ble_eq_true rfl) fun n => ?_
 cases o with
 |
  none =>
  unfold Nr at h
  injection h with h
  injection h with h1 h2
  injection h2 with h2 _
  injection h2 with h2
  injection h2 with h2
  subst h1 h2
  obtain⟨f1,f2,f3⟩:=adP (n:=n) (bJ:=Fc none) (AF (n:=n) (K:=[])) (Nat.le_refl _) rfl
  simp only[vL,sJ,f1,f2,gH,Es,List.length_replicate,Bool.not_false,dX,VX,Nat.reduceEqDiff,Nat.reduceAdd,Nat.reduceLeDiff,Nat.reduceLT,Nat.reduceSub]
  exact f3
 |
  some p =>
  unfold Nr at h
  injection h with h
  injection h with h1 h2
  injection h2 with h2 _
  injection h2 with h2
  injection h2 with h2
  subst h1 h2
  have hQ:=ho p rfl
  simp only[vL,sJ,gH,Es,List.length_replicate,Bool.not_true,dX,VX,Nat.reduceEqDiff,Nat.reduceAdd,Nat.reduceLeDiff,Nat.reduceLT,Nat.reduceSub]
  refine Pe (HP _ hQ.told.1 hQ.told.2) rfl (fz1 (aF (SC _))) (AF (n:=n) (K:=[])) (Nat.le_refl _) fun v H2 H3 t1 t2 t3 => ?_
  simp only[t1,t2,dX,VX,Nat.reduceEqDiff,Nat.reduceAdd,Nat.reduceLeDiff,Nat.reduceLT,Nat.reduceSub]
  exact t3
end Go.PM
namespace Go.PM
open Go.Lib
theorem GG {i j A B:Nat} (hi:i≤A) (hj:j≤B):i*(B+1)+j<(A+1)*(B+1):=by
 have h1:(i+1)*(B+1)≤(A+1)*(B+1):=Nat.mul_le_mul_right _ (by omega)
 rw[Nat.add_mul] at h1
 omega
theorem CL (i j b:Nat) (hi:i≤1000) (hj:j≤1000) (hb:b≤1000):TC 163 [VI i,VI j,.cN (VI b) 0] (VI (i*(b+1)+j:Nat)):=by
 refine TC.walk ⟨true,false⟩ Eh rfl (Nat.le_of_ble_eq_true rfl) rfl rfl ?_
 have h1:i*(b+1)≤1000*1001:=Nat.mul_le_mul hi (by omega)
 have w1:IntKind.i64.wrap ((b:Int)+1)=((b+1:Nat):Int):=wN _ (by omega) (by omega)
 have w2:IntKind.i64.wrap ((i:Int)*((b+1:Nat):Int))=((i*(b+1):Nat):Int):=wN _ (by rw[Int.natCast_mul]) (by omega)
 have w3:IntKind.i64.wrap (((i*(b+1):Nat):Int)+(j:Int))=((i*(b+1)+j:Nat):Int):=wN _ (by omega) (by omega)
 have ld:∀K,bT false 1 (.cN (VI b) 0) K=some (VI b):=fun K=>rfl
 simp only[zU,vN,ld,w1,w2,w3,dX,VX,Nat.reduceEqDiff,Nat.reduceAdd,Nat.reduceLeDiff,Nat.reduceLT,Nat.reduceSub]
 exact aF rfl
theorem HA {x y z:Rat} {A B i j:Nat} {L:List Am} {k l m n:Nat} (h1:k=i*(B+1)+j) (h2:l=min (i+1) A*(B+1)+j) (h3:m=i*(B+1)+min (j+1) B) (h4:n=if 0<i then (i-1)*(B+1)+j else i*(B+1)+(j-1)) :
  ((L++[(k,l,x)])++[(k,m,y)])++[(k,n,z)]=L++Pr x y z A B i j:=by
 subst h1 h2 h3 h4
 unfold Pr
 simp only[List.append_assoc,List.cons_append,List.nil_append]
set_option maxHeartbeats 8000000 in
set_option maxRecDepth 20000 in
theorem Gl (f s v:ByteArray) (a b:Int) (hf:f.size≤1000000000) (hs:s.size≤1000000000) (hv:v.size≤1000000000):TC 106 [sV f,sV s,sV v,VI a,VI b] (Nr (rD f s v a b)):=by
 refine TC.walk ⟨true,false⟩ G5 rfl (Nat.le_of_ble_eq_true rfl) (PE rfl rfl rfl rfl rfl) (abL _) ?_
 have eL:∀K,jC false [.string ⟨#[]⟩] 3 [(0,sV f),(1,sV s),(2,sV v)] K=some (.tree [sV f,sV s,sV v] (.cl 1),K):=fun K=>Tw (α:=Nat) rfl rfl rfl rfl rfl rfl rfl
 have e1:∀lo H K,cS 92 [.tree [sV f,sV s,sV v] (.cl 1)] lo H K=K (QM (Yw [f,s,v])) H:=fun lo H K=>TC.cl (Ip [f,s,v] (by simp) (by simp[hf,hs,hv])) rfl rfl (qP [f,s,v])
 have e2:=NI a 1 12
 have e3:=NI b 1 12
 have lb:∀K,bT false 1 (.cN (VI b) 0) K=some (VI b):=fun K=>rfl
 have bad:rD f s v a b=none→∀H,PM.fz depth H (.dT [.tree [] .nil,VB false])=some (Nr (rD f s v a b)):=fun h H=>by rw[h];exact bO (d:=6) Dk (aJ (v:=VB false) rfl)
 cases lF:Yw [f,s,v] with
 |
  none =>
  have hn:rD f s v a b=none:=by
   rw[Fe] at lF
   unfold rD
   split at lF
   ·cases lF
   ·rfl
  simp only[lF] at e1
  simp only[kI,iN,eL,e1,acH,dX,VX,Nat.reduceEqDiff,Nat.reduceAdd,Nat.reduceLeDiff,Nat.reduceLT,Nat.reduceSub]
  exact bad hn _
 | some qs =>
 rw[Fe] at lF
 split at lF
 case h_2=>cases lF
 rename_i x y z hx hy hz
 have e1:∀lo H K,cS 92 [.tree [sV f,sV s,sV v] (.cl 1)] lo H K=K (.dT [aT aQ [x,y,z],VB true]) H:=fun lo H K=>by rw[e1,Fe,hx,hy,hz];rfl
 by_cases h1:1≤a∧a≤12
 case neg =>
  rw[decide_eq_false h1] at e2
  simp only[kI,iN,eL,e1,e2,dX,VX,Nat.reduceEqDiff,Nat.reduceAdd,Nat.reduceLeDiff,Nat.reduceLT,Nat.reduceSub]
  exact bad (by unfold rD;rw[hx,hy,hz];exact if_neg fun h=>h1 h.1.1) _
 rw[decide_eq_true h1] at e2
 by_cases h2:1≤b∧b≤12
 case neg =>
  rw[decide_eq_false h2] at e3
  simp only[kI,iN,eL,e1,e2,e3,lb,dX,VX,Nat.reduceEqDiff,Nat.reduceAdd,Nat.reduceLeDiff,Nat.reduceLT,Nat.reduceSub]
  exact bad (by unfold rD;rw[hx,hy,hz];exact if_neg fun h=>h2 h.1.2) _
 rw[decide_eq_true h2] at e3
 obtain⟨A,rfl⟩:∃A:Nat,a=A:=⟨a.toNat,by omega⟩
 obtain⟨B,rfl⟩:∃B:Nat,b=B:=⟨b.toNat,by omega⟩
 have hmul:(A+1)*(B+1)≤13*13:=Nat.mul_le_mul (by omega) (by omega)
 have w1:IntKind.i64.wrap ((A:Int)+1)=((A+1:Nat):Int):=wN _ (by omega) (by omega)
 have w2:IntKind.i64.wrap ((B:Int)+1)=((B+1:Nat):Int):=wN _ (by omega) (by omega)
 have w3:IntKind.i64.wrap (((A+1:Nat):Int)*((B+1:Nat):Int))=(((A+1)*(B+1):Nat):Int):=wN _ (by rw[Int.natCast_mul]) (by omega)
 have QX:((A:Int)+1)*((B:Int)+1)=(((A+1)*(B+1):Nat):Int):=by rw[Int.natCast_mul];rfl
 by_cases h3:(12:Int)<(((A+1)*(B+1):Nat):Int)
 ·simp only[kI,iN,eL,e1,e2,e3,lb,w1,w2,w3,h3,dX,VX,Nat.reduceEqDiff,Nat.reduceAdd,Nat.reduceLeDiff,Nat.reduceLT,Nat.reduceSub]
  exact bad (by unfold rD;rw[hx,hy,hz];exact if_neg fun h=>by have:=h.2;rw[QX] at this;omega) _
 have hO:rD f s v (A:Int) (B:Int)=some ((A+1)*(B+1),Br x y z A B (A+1)):=by
  unfold rD
  rw[hx,hy,hz]
  exact if_pos ⟨⟨h1,h2⟩,by rw[QX];omega⟩
 have hQ:=Km hO
 rw[hO]
 have h12:(A+1)*(B+1)≤12:=by omega
 obtain⟨hA5,hB5⟩:=Iz (a:=A) (b:=B) (by omega) (by omega) h12
 have bx:=wH hx
 have bby:=wH hy
 have bz:=wH hz
 have a0:∀H,bK 3 (aT aQ [x,y,z]) (VI 0) H=some ((aQ x).cN 0):=fun H=>aK (f:=aQ) (xs:=[x,y,z]) (i:=0) rfl rfl
 have a1:∀H,bK 3 (aT aQ [x,y,z]) (VI 1) H=some ((aQ y).cN 0):=fun H=>aK (f:=aQ) (xs:=[x,y,z]) (i:=1) rfl rfl
 have a2:∀H,bK 3 (aT aQ [x,y,z]) (VI 2) H=some ((aQ z).cN 0):=fun H=>aK (f:=aQ) (xs:=[x,y,z]) (i:=2) rfl rfl
 simp only[kI,iN,eL,e1,e2,e3,lb,w1,w2,w3,h3,dX,VX,Nat.reduceEqDiff,Nat.reduceAdd,Nat.reduceLeDiff,Nat.reduceLT,Nat.reduceSub]
 refine S9 (by omega) (Nat.zero_le _) fun bk g c H hc hT => ?_
 rw[List.nil_append] at hT ⊢
 simp only[w1,dX,VX,Nat.reduceEqDiff,Nat.reduceAdd,Nat.reduceLeDiff,Nat.reduceLT,Nat.reduceSub]
 have hat:∀i j,i≤A→j≤B→i*(B+1)+j<(A+1)*(B+1):=fun i j hi hj=>GG hi hj
 have alH:∀i,i≤A+1→3*(B+1)*i≤36:=fun i hi=>by
  rw[Nat.mul_assoc,Nat.mul_comm (B+1) i]
  have:i*(B+1)≤(A+1)*(B+1):=Nat.mul_le_mul_right _ hi
  omega
 generalize hNN:(A+1)*(B+1)=N at *
 refine aS (fun(i:Nat) ρ H1=>i≤A+1∧Tq aQ 0 H.length N bk g (Br x y z A B i) H1∧ρ 3=VI A∧ρ 9 = .cN (VI B) 0∧ρ 12=aT aQ [x,y,z]∧ρ 14 = .ref bk g 0 N c∧ρ 15 = .uP 163 [.cN (VI B) 0]∧ρ 54=VI (A+1:Nat)∧ρ 55=VI i) (fun i=>A+1-i) 0
  ⟨Nat.zero_le _,hT,by (repeat' apply And.intro)<;>first | rfl | trivial | assumption⟩ ?_
 clear hT
 rintro i ρ H1 ⟨hi,hT,g3,g9,g12,g14,g15,g54,g55⟩
 have YZ:=GM (x:=x) (y:=y) (z:=z) (a:=A) (b:=B) i
 have hm:=alH i hi
 by_cases dB:(i:Int)<((A+1:Nat):Int)
 ·have wi:IntKind.i64.wrap ((i:Int)+1)=((i+1:Nat):Int):=wN _ (by omega) (by omega)
  simp only[qS,g3,g9,g12,g14,g15,g54,g55,dB,lb,w2,dX,VX,Nat.reduceEqDiff,Nat.reduceAdd,Nat.reduceLeDiff,Nat.reduceLT,Nat.reduceSub]
  refine aS (fun(j:Nat) ρ H2=>j≤B+1∧Tq aQ 0 H.length N bk g (Br x y z A B i++Ee x y z A B i j) H2∧ρ 3=VI A∧ρ 9 = .cN (VI B) 0∧ρ 12=aT aQ [x,y,z]∧ρ 14 = .ref bk g 0 N c∧ρ 15 = .uP 163 [.cN (VI B) 0]∧ρ 16=VI i∧ρ 54=VI (A+1:Nat)∧ρ 55=VI i∧ρ 59=VI (B+1:Nat)∧ρ 60=VI j) (fun j=>B+1-j) 0
   ⟨Nat.zero_le _,by rw[Ee,List.append_nil];exact hT,by (repeat' apply And.intro)<;>first | rfl | trivial | assumption⟩ ?_
  clear g3 g9 g12 g14 g15 g54 g55 hT
  rintro j ρ H2 ⟨hj,hT,g3,g9,g12,g14,g15,g16,g54,g55,g59,g60⟩
  have hjl:=G3 (x:=x) (y:=y) (z:=z) (a:=A) (b:=B) (i:=i) j
  have hLl:(Br x y z A B i++Ee x y z A B i j).length≤60:=by rw[List.length_append,YZ,hjl];omega
  by_cases hjn:(j:Int)<((B+1:Nat):Int)
  ·have wj:IntKind.i64.wrap ((j:Int)+1)=((j+1:Nat):Int):=wN _ (by omega) (by omega)
   have u1:min ((i+1:Nat):Int) (A:Int)=((min (i+1) A:Nat):Int):=by omega
   have u2:min ((j+1:Nat):Int) (B:Int)=((min (j+1) B:Nat):Int):=by omega
   have u3:IntKind.i64.wrap ((i:Int)-1)=(i:Int)-1:=wrap64 (by omega) (by omega)
   have u4:IntKind.i64.wrap ((j:Int)-1)=(j:Int)-1:=wrap64 (by omega) (by omega)
   have u5:max ((j:Int)-1) 0=((j-1:Nat):Int):=by omega
   have v1:=CL i j B (by omega) (by omega) (by omega)
   have v2:=CL (min (i+1) A) j B (by omega) (by omega) (by omega)
   have v3:=CL i (min (j+1) B) B (by omega) (by omega) (by omega)
   have k1:=hat i j (by omega) (by omega)
   have k2:=hat (min (i+1) A) j (by omega) (by omega)
   have k3:=hat i (min (j+1) B) (by omega) (by omega)
   simp only[qX,g3,g9,g12,g14,g15,g16,g59,g60,hjn,wi,wj,u1,v1,v2,a0,dF,List.cons_append,List.nil_append,dX,VX,Nat.reduceEqDiff,Nat.reduceAdd,Nat.reduceLeDiff,Nat.reduceLT,Nat.reduceSub]
   refine DM hT (i*(B+1)+j) (min (i+1) A*(B+1)+j) x k1 k2 (by omega) bx.1 (by omega) fun _ H3 o3 hT3 => ?_
   simp only[g3,g9,g12,g14,g15,g16,g60,lb,wj,u2,v1,v3,a1,dF,List.cons_append,List.nil_append,dX,VX,Nat.reduceEqDiff,Nat.reduceAdd,Nat.reduceLeDiff,Nat.reduceLT,Nat.reduceSub]
   refine DM hT3 (i*(B+1)+j) (i*(B+1)+min (j+1) B) y k1 k3 (by omega) bby.1 (by rw[List.length_append];simp only[List.length_cons,List.length_nil];omega) fun _ H4 o4 hT4 => ?_
   have hl4:(Br x y z A B i++Ee x y z A B i j++[(i*(B+1)+j,min (i+1) A*(B+1)+j,x)]++[(i*(B+1)+j,i*(B+1)+min (j+1) B,y)]).length<400:=by
    rw[List.length_append,List.length_append]
    simp only[List.length_cons,List.length_nil]
    omega
   by_cases h0:(0:Int)<(i:Int)
   ·obtain⟨k,rfl⟩:∃k,i=k+1:=⟨i-1,by omega⟩
    have u6:IntKind.i64.wrap (((k+1:Nat):Int)-1)=(k:Int):=wN _ (by omega) (by omega)
    have v4:=CL k j B (by omega) (by omega) (by omega)
    have k4:=hat k j (by omega) (by omega)
    simp only[g3,g9,g12,g14,g15,g16,g60,h0,u6,v1,v4,a2,dF,List.cons_append,List.nil_append,dX,VX,Nat.reduceEqDiff,Nat.reduceAdd,Nat.reduceLeDiff,Nat.reduceLT,Nat.reduceSub]
    refine DM hT4 ((k+1)*(B+1)+j) (k*(B+1)+j) z k1 k4 (by omega) bz.1 hl4 fun _ H5 o5 hT5 => ?_
    simp only[g60,wj,dX,VX,Nat.reduceEqDiff,Nat.reduceAdd,Nat.reduceLeDiff,Nat.reduceLT,Nat.reduceSub]
    exact⟨j+1,by omega,by omega,by rw[HA (A:=A) (B:=B) (i:=k+1) (j:=j) rfl rfl rfl (by rw[if_pos (by omega)];rfl),List.append_assoc] at hT5;exact hT5,by (repeat' apply And.intro)<;>first | rfl | trivial | assumption⟩
   ·have Y8:i=0:=by omega
    subst Y8
    have v4:=CL 0 (j-1) B (by omega) (by omega) (by omega)
    have k4:=hat 0 (j-1) (by omega) (by omega)
    simp only[g3,g9,g12,g14,g15,g16,g60,h0,u4,u5,v1,v4,a2,dF,List.cons_append,List.nil_append,dX,VX,Nat.reduceEqDiff,Nat.reduceAdd,Nat.reduceLeDiff,Nat.reduceLT,Nat.reduceSub]
    refine DM hT4 (0*(B+1)+j) (0*(B+1)+(j-1)) z k1 k4 (by omega) bz.1 hl4 fun _ H5 o5 hT5 => ?_
    simp only[g60,wj,dX,VX,Nat.reduceEqDiff,Nat.reduceAdd,Nat.reduceLeDiff,Nat.reduceLT,Nat.reduceSub]
    exact⟨j+1,by omega,by omega,by rw[HA (A:=A) (B:=B) (i:=0) (j:=j) rfl rfl rfl (by rw[if_neg (by omega)]),List.append_assoc] at hT5;exact hT5,by (repeat' apply And.intro)<;>first | rfl | trivial | assumption⟩
  ·have hje:j=B+1:=by omega
   subst hje
   simp only[qX,g55,g59,g60,hjn,wi,dX,VX,Nat.reduceEqDiff,Nat.reduceAdd,Nat.reduceLeDiff,Nat.reduceLT,Nat.reduceSub]
   exact⟨i+1,by omega,by omega,hT,by (repeat' apply And.intro)<;>first | rfl | trivial | assumption⟩
 ·have nY:i=A+1:=by omega
  subst nY
  simp only[qS,g14,g54,g55,dB,dX,VX,Nat.reduceEqDiff,Nat.reduceAdd,Nat.reduceLeDiff,Nat.reduceLT,Nat.reduceSub]
  refine aeJ (H:=H1) (p:=(N,Br x y z A B (A+1))) hQ hT (Nat.zero_le _) fun r L2 hr => ?_
  simp only[dX,VX,Nat.reduceEqDiff,Nat.reduceAdd,Nat.reduceLeDiff,Nat.reduceLT,Nat.reduceSub]
  exact bO (d:=6) (hr.fzd (d:=4) gW) (aJ (v:=VB true) rfl)
set_option maxHeartbeats 1000000 in
theorem F4 (f s v:ByteArray) (a b:Int) (hf:f.size≤1000000000) (hs:s.size≤1000000000) (hv:v.size≤1000000000):FC 41 [sV f,sV s,sV v,VI a,VI b] (Vn (CG ((Kx f s v a b).getD [])) (Kx f s v a b).isSome):=by
 refine FC.I1 ⟨true,false⟩ Hg (Nat.le_of_ble_eq_true rfl) fun n => ?_
 have e1:=Gl f s v a b hf hs hv
 obtain⟨w,ok,hw⟩:∃v' ok,Nr (rD f s v a b) = .dT [v',VB ok]:=by unfold Nr;split<;>exact⟨_,_,rfl⟩
 have hp:aN w=true:=by
  unfold Nr at hw
  split at hw<;>(injection hw with hw;injection hw with h1 h2;subst h1)
  ·exact SC _
  ·rfl
 have eS:=F9 (rD f s v a b) (fun _=>Km) w ok hw
 rw[hw] at e1
 simp only[B8,zD,e1,gH,Es,List.length_replicate,dX,VX,Nat.reduceEqDiff,Nat.reduceAdd,Nat.reduceLeDiff,Nat.reduceLT,Nat.reduceSub]
 refine Pe eS rfl (fz2 (aF hp) (aF rfl)) (AF (n:=n) (K:=[])) (Nat.le_refl _) fun v H2 H3 t1 t2 t3 => ?_
 simp only[t1,t2,dX,VX,Nat.reduceEqDiff,Nat.reduceAdd,Nat.reduceLeDiff,Nat.reduceLT,Nat.reduceSub]
 exact t3
end Go.PM
namespace Go.PM
open Go.Lib
theorem Xt {x:ByteArray} {q:Rat} (h:tU x=some q):CT (pQ x) = .dT [bC q,VB true]:=by
 obtain⟨h1,h2⟩:=IU h
 rw[h1]
 unfold CT
 simp only[h2,decide_true]
theorem Z0 {x:ByteArray} (h:tU x=none):∃z,CT (pQ x) = .dT [z,VB false]∧(aB z).length=3∧(aB z).all bP=true:=by
 unfold tU at h
 cases hp:pQ x with
 | none=>exact⟨_,rfl,rfl,rfl⟩
 |
  some q =>
  rw[hp] at h
  by_cases h0:0<q
  ·simp only[h0,if_true] at h
   cases h
  ·exact⟨bC q,by unfold CT;simp only[h0,decide_false],nD q,sE q⟩
end Go.PM
namespace Go.PM
open Go.Lib
theorem Dn (a:ByteArray):∃z b,CT (pQ a) = .dT [z,VB b]∧(aB z).length=3∧(aB z).all bP=true∧b=(tU a).isSome∧∀q,tU a=some q→z=bC q:=by
 cases hx:tU a with
 | none=>obtain⟨z,h1,h2,h3⟩:=Z0 hx;exact⟨z,false,h1,h2,h3,rfl,fun q h=>by cases h⟩
 | some q=>exact⟨bC q,true,Xt hx,nD q,sE q,rfl,fun p h=>by cases h;rfl⟩
theorem Mn {k:Nat} {K:aA} {x y:VV} (hK:K[k]? = some (.row 0 [x] 3 true)) (hy:(aB y).length=3) (hs:(aB y).all bP=true):bR 0 3 (.ptr k 0 0 0) y K=some (K.set k (.row 0 [y] 3 true)):=by
 have hr:aI K k 0=some ([x],3,true):=by rw[cG];exact hK
 rw[bU (e:=3) hr (by exact Nat.zero_lt_one) (by omega) hy hs]
 rfl
def A8 (n:Nat) (qs:List Rat) (H:aA):Prop:=∀k q,qs[k]? = some q→aI H (n+k) 0=some ([bC q],3,true)
theorem A8.out {n lo hi:Nat} {qs:List Rat} {H H':aA} (h:A8 n qs H) (o:M9 lo hi H H') (hl:n+qs.length≤lo):A8 n qs H':=fun k q hk=>by
 have:=(List.getElem?_eq_some_iff.1 hk).1
 exact o.2 _ _ _ (by omega) (h k q hk)
theorem A8.app {n:Nat} {qs:List Rat} {H L:aA} (h:A8 n qs H):A8 n qs (H++L):=fun k q hk=>cF (h k q hk)
theorem A8.ld {n k:Nat} {q:Rat} {qs:List Rat} {H:aA} (h:A8 n qs H) (hk:qs[k]? = some q):bT true 3 (.ptr (n+k) 0 0 0) H=some (bC q):=asA (h k q hk)
def agQ (o:Option (Nat×List Am)):VV:=match o with
 | some p => .dT [aT (aT bC) (qR p),VB true]
 | none => .dT [.tree [] .op,VB false]
theorem Zv (o:Option (Nat×List Am)):gJ (agQ o)=true:=by
 unfold agQ
 split
 ·exact Au (Zd _) rfl
 ·exact Au (by decide) rfl
end Go.PM
namespace Go.PM
open Go.Lib
def afJ:aD:=(LS [LM 87 19,LM 88 3,LO 89 (.bin .lss (LT 87) (LT 88))] (.cond (LT 89) (.dC [LM 90 18,LM 91 21,LM 92 21,LM 93 4,LO 94 (.bin .add (LT 92) (LT 93)),LO 95 (.bin .add (LT 94) (LI 1)),LO 96 (LK 12),LO 97 (.call 90 [(LT 90),(LT 91),(LT 95),(LT 96)])]) .skip))
def ahT:aD:=(LS [LM 98 20,LM 99 4,LO 100 (.bin .lss (LT 98) (LT 99))] (.cond (LT 100) (.dC [LM 101 18,LM 102 21,LM 103 21,LO 104 (.bin .add (LT 103) (LI 1)),LO 105 (LK 14),LO 106 (.call 90 [(LT 101),(LT 102),(LT 104),(LT 105)])]) .skip))
def abZ:aD:=(LS [LM 107 19,LO 108 (.bin .gtr (LT 107) (LI 0))] (.cond (LT 108) (.dC [LM 109 18,LM 110 21,LM 111 21,LM 112 4,LO 113 (.bin .sub (LT 111) (LT 112)),LO 114 (.bin .sub (LT 113) (LI 1)),LO 115 (LK 16),LO 116 (.call 90 [(LT 109),(LT 110),(LT 114),(LT 115)])]) (LS [LM 117 20,LO 118 (.bin .gtr (LT 117) (LI 0))] (.cond (LT 118) (.dC [LM 119 18,LM 120 21,LM 121 21,LO 122 (.bin .sub (LT 121) (LI 1)),LO 123 (LK 16),LO 124 (.call 90 [(LT 119),(LT 120),(LT 122),(LT 123)])]) .skip))))
theorem Xm:yD=(.seq (LS [LM 76 20,LM 77 4,LO 78 (.bin .leq (LT 76) (LT 77))] (.cond (LT 78) .skip (.exit 2))) (.seq (.block 3 (LS [LM 81 19,LM 82 4,LO 83 (.bin .add (LT 82) (LI 1)),LO 84 (.bin .mul (LT 81) (LT 83)),LM 85 20,LO 86 (.bin .add (LT 84) (LT 85)),LM 21 86] (.seq afJ (.seq ahT abZ)))) (.dC [LM 79 20,LO 80 (.bin .add (LT 79) (LI 1)),LM 20 80]))):=rfl
def TwR (A B N b g c i j:Nat) (ρ:dM):Prop:=ρ 3=VI A∧ρ 4=VI B∧ρ 12 = .ptr 0 0 0 0∧ρ 14 = .ptr 1 0 0 0∧ρ 16 = .ptr 2 0 0 0∧ρ 18 = .ref b g 0 N c∧ρ 19=VI i∧ρ 20=VI j∧ρ 21=VI (i*(B+1)+j:Nat)
structure TwS (hi A B N b g c i j:Nat) (x y z:Rat) (L:List Am) (ρ:dM) (H:aA):Prop where
 r:TwR A B N b g c i j ρ
 q:A8 0 [x,y,z] H
 t:Tq bC 3 hi N b g L H
theorem alN {x y z:Rat} {K:aA} (h:A8 0 [x,y,z] K):bT true 3 (.ptr 0 0 0 0) K=some (bC x)∧bT true 3 (.ptr 1 0 0 0) K=some (bC y)∧bT true 3 (.ptr 2 0 0 0) K=some (bC z):=⟨h.ld (k:=0) rfl,h.ld (k:=1) rfl,h.ld (k:=2) rfl⟩
section
variable {hi A B N b g c i j:Nat} {x y z:Rat} {L:List Am} {ρ:dM} {H:aA} {Q:VQ}
theorem akY (h:TwS hi A B N b g c i j x y z L ρ H) (hN:(A+1)*(B+1)=N) (h12:N≤12) (hA:A≤5) (hB:B≤5) (kX:i≤A) (hj:j≤B) (bx:aU x≤1331) (hl:L.length<400)
  (hQ:∀bI H',TwS hi A B N b g c i j x y z (L++[(i*(B+1)+j,min (i+1) A*(B+1)+j,x)]) bI H'→Q .normal bI H'):VW ⟨true,false⟩ 0 afJ Q ρ H:=by
 obtain⟨⟨g3,g4,g12,g14,g16,g18,g19,g20,g21⟩,hR,hT⟩:=h
 obtain⟨q1,q2,q3⟩:=alN hR
 have k1:=GG kX hj
 rw[hN] at k1
 by_cases bF:(i:Int)<(A:Int)
 ·have k2:=GG (i:=i+1) (A:=A) (B:=B) (by omega) hj
  rw[hN] at k2
  have e:(i+1)*(B+1)+j=i*(B+1)+j+B+1:=by rw[Nat.add_mul];omega
  have u1:IntKind.i64.wrap (((i*(B+1)+j:Nat):Int)+(B:Int))=((i*(B+1)+j+B:Nat):Int):=wN _ (by omega) (by omega)
  have u2:IntKind.i64.wrap (((i*(B+1)+j+B:Nat):Int)+1)=(((i+1)*(B+1)+j:Nat):Int):=wN _ (by omega) (by omega)
  have JZ:min (i+1) A=i+1:=by omega
  rw[JZ] at hQ
  simp only[afJ,g3,g4,g12,g14,g16,g18,g19,g20,g21,bF,u1,u2,q1,dX,VX,Nat.reduceEqDiff,Nat.reduceAdd,Nat.reduceLeDiff,Nat.reduceLT,Nat.reduceSub]
  refine GX hT (i*(B+1)+j) ((i+1)*(B+1)+j) x k1 k2 (by omega) bx hl fun _ H2 o2 Pp => ?_
  simp only[dX,VX,Nat.reduceEqDiff,Nat.reduceAdd,Nat.reduceLeDiff,Nat.reduceLT,Nat.reduceSub]
  exact hQ _ _ ⟨by (repeat' apply And.intro)<;>first | rfl | trivial | assumption,hR.out o2 (by simp),Pp⟩
 ·have JZ:min (i+1) A=i:=by omega
  rw[JZ] at hQ
  simp only[afJ,g3,g4,g12,g14,g16,g18,g19,g20,g21,bF,dX,VX,Nat.reduceEqDiff,Nat.reduceAdd,Nat.reduceLeDiff,Nat.reduceLT,Nat.reduceSub]
  exact hQ _ _ ⟨by (repeat' apply And.intro)<;>first | rfl | trivial | assumption,hR,hT.same bx hl⟩
theorem anQ (h:TwS hi A B N b g c i j x y z L ρ H) (hN:(A+1)*(B+1)=N) (h12:N≤12) (hA:A≤5) (hB:B≤5) (kX:i≤A) (hj:j≤B) (bx:aU y≤1331) (hl:L.length<400)
  (hQ:∀bI H',TwS hi A B N b g c i j x y z (L++[(i*(B+1)+j,i*(B+1)+min (j+1) B,y)]) bI H'→Q .normal bI H'):VW ⟨true,false⟩ 0 ahT Q ρ H:=by
 obtain⟨⟨g3,g4,g12,g14,g16,g18,g19,g20,g21⟩,hR,hT⟩:=h
 obtain⟨q1,q2,q3⟩:=alN hR
 have k1:=GG kX hj
 rw[hN] at k1
 by_cases bF:(j:Int)<(B:Int)
 ·have k2:=GG (i:=i) (j:=j+1) (A:=A) (B:=B) kX (by omega)
  rw[hN] at k2
  have u1:IntKind.i64.wrap (((i*(B+1)+j:Nat):Int)+1)=((i*(B+1)+(j+1):Nat):Int):=wN _ (by omega) (by omega)
  have JZ:min (j+1) B=j+1:=by omega
  rw[JZ] at hQ
  simp only[ahT,g3,g4,g12,g14,g16,g18,g19,g20,g21,bF,u1,q2,dX,VX,Nat.reduceEqDiff,Nat.reduceAdd,Nat.reduceLeDiff,Nat.reduceLT,Nat.reduceSub]
  refine GX hT (i*(B+1)+j) (i*(B+1)+(j+1)) y k1 k2 (by omega) bx hl fun _ H2 o2 Pp => ?_
  simp only[dX,VX,Nat.reduceEqDiff,Nat.reduceAdd,Nat.reduceLeDiff,Nat.reduceLT,Nat.reduceSub]
  exact hQ _ _ ⟨by (repeat' apply And.intro)<;>first | rfl | trivial | assumption,hR.out o2 (by simp),Pp⟩
 ·have JZ:min (j+1) B=j:=by omega
  rw[JZ] at hQ
  simp only[ahT,g3,g4,g12,g14,g16,g18,g19,g20,g21,bF,dX,VX,Nat.reduceEqDiff,Nat.reduceAdd,Nat.reduceLeDiff,Nat.reduceLT,Nat.reduceSub]
  exact hQ _ _ ⟨by (repeat' apply And.intro)<;>first | rfl | trivial | assumption,hR,hT.same bx hl⟩
theorem akW (h:TwS hi A B N b g c i j x y z L ρ H) (hN:(A+1)*(B+1)=N) (h12:N≤12) (hA:A≤5) (hB:B≤5) (kX:i≤A) (hj:j≤B) (bx:aU z≤1331) (hl:L.length<400)
  (hQ:∀bI H',TwS hi A B N b g c i j x y z (L++[(i*(B+1)+j,if 0<i then (i-1)*(B+1)+j else i*(B+1)+(j-1),z)]) bI H'→Q .normal bI H'):VW ⟨true,false⟩ 0 abZ Q ρ H:=by
 obtain⟨⟨g3,g4,g12,g14,g16,g18,g19,g20,g21⟩,hR,hT⟩:=h
 obtain⟨q1,q2,q3⟩:=alN hR
 have k1:=GG kX hj
 rw[hN] at k1
 by_cases h0:(0:Int)<(i:Int)
 ·obtain⟨k,rfl⟩:∃k,i=k+1:=⟨i-1,by omega⟩
  have k2:=GG (i:=k) (j:=j) (A:=A) (B:=B) (by omega) hj
  rw[hN] at k2
  have e:(k+1)*(B+1)+j=k*(B+1)+j+B+1:=by rw[Nat.add_mul];omega
  have u1:IntKind.i64.wrap ((((k+1)*(B+1)+j:Nat):Int)-(B:Int))=((k*(B+1)+j+1:Nat):Int):=wN _ (by omega) (by omega)
  have u2:IntKind.i64.wrap (((k*(B+1)+j+1:Nat):Int)-1)=((k*(B+1)+j:Nat):Int):=wN _ (by omega) (by omega)
  rw[if_pos (by omega)] at hQ
  simp only[abZ,g3,g4,g12,g14,g16,g18,g19,g20,g21,h0,u1,u2,q3,dX,VX,Nat.reduceEqDiff,Nat.reduceAdd,Nat.reduceLeDiff,Nat.reduceLT,Nat.reduceSub]
  refine GX hT ((k+1)*(B+1)+j) (k*(B+1)+j) z k1 k2 (by omega) bx hl fun _ H2 o2 Pp => ?_
  simp only[dX,VX,Nat.reduceEqDiff,Nat.reduceAdd,Nat.reduceLeDiff,Nat.reduceLT,Nat.reduceSub]
  exact hQ _ _ ⟨by (repeat' apply And.intro)<;>first | rfl | trivial | assumption,hR.out o2 (by simp),Pp⟩
 ·have Y8:i=0:=by omega
  subst Y8
  rw[if_neg (by omega)] at hQ
  by_cases QA:(0:Int)<(j:Int)
  ·obtain⟨k,rfl⟩:∃k,j=k+1:=⟨j-1,by omega⟩
   have k2:=GG (i:=0) (j:=k) (A:=A) (B:=B) (by omega) (by omega)
   rw[hN] at k2
   have u1:IntKind.i64.wrap (((0*(B+1)+(k+1):Nat):Int)-1)=((0*(B+1)+k:Nat):Int):=wN _ (by omega) (by omega)
   simp only[abZ,g3,g4,g12,g14,g16,g18,g19,g20,g21,h0,QA,u1,q3,dX,VX,Nat.reduceEqDiff,Nat.reduceAdd,Nat.reduceLeDiff,Nat.reduceLT,Nat.reduceSub]
   refine GX hT (0*(B+1)+(k+1)) (0*(B+1)+k) z k1 k2 (by omega) bx hl fun _ H2 o2 Pp => ?_
   simp only[dX,VX,Nat.reduceEqDiff,Nat.reduceAdd,Nat.reduceLeDiff,Nat.reduceLT,Nat.reduceSub]
   exact hQ _ _ ⟨by (repeat' apply And.intro)<;>first | rfl | trivial | assumption,hR.out o2 (by simp),Pp⟩
  ·have hjz:j=0:=by omega
   subst hjz
   simp only[abZ,g3,g4,g12,g14,g16,g18,g19,g20,g21,h0,QA,dX,VX,Nat.reduceEqDiff,Nat.reduceAdd,Nat.reduceLeDiff,Nat.reduceLT,Nat.reduceSub]
   exact hQ _ _ ⟨by (repeat' apply And.intro)<;>first | rfl | trivial | assumption,hR,hT.same bx hl⟩
end
set_option maxHeartbeats 8000000 in
set_option maxRecDepth 20000 in
theorem Na (f s v:ByteArray) (a b:Int) (hf:f.size≤1000000000) (hs:s.size≤1000000000) (hv:v.size≤1000000000):TC 105 [sV f,sV s,sV v,VI a,VI b] (agQ (rD f s v a b)):=by
 refine TC.walk ⟨true,false⟩ Nk rfl (Nat.le_of_ble_eq_true rfl) (PE rfl rfl rfl rfl rfl) (Zv _) ?_
 have e1:=yI f hf
 have e2:=yI s hs
 have e3:=yI v hv
 have e4:=Gk a 1 12
 have e5:=Gk b 1 12
 have bad:rD f s v a b=none→∀H,PM.fz depth H (.dT [.tree [] .nil,VB false])=some (agQ (rD f s v a b)):=fun h H=>by rw[h];exact bO (d:=6) Dk (aJ (v:=VB false) rfl)
 obtain⟨z1,b1,k1,k2,k3,k4,k5⟩:=Dn f
 obtain⟨z2,b2,l1,l2,l3,l4,l5⟩:=Dn s
 obtain⟨z3,b3,m1,m2,m3,m4,m5⟩:=Dn v
 rw[k1] at e1
 rw[l1] at e2
 rw[m1] at e3
 have t1:bR 0 3 (.ptr 0 0 0 0) z1 [cell0]=some [.row 0 [z1] 3 true]:=Mn (k:=0) rfl k2 k3
 have t2:bR 0 3 (.ptr 1 0 0 0) z2 [.row 0 [z1] 3 true,cell0]=some [.row 0 [z1] 3 true,.row 0 [z2] 3 true]:=Mn (k:=1) rfl l2 l3
 have t3:bR 0 3 (.ptr 2 0 0 0) z3 [.row 0 [z1] 3 true,.row 0 [z2] 3 true,cell0]=some [.row 0 [z1] 3 true,.row 0 [z2] 3 true,.row 0 [z3] 3 true]:=Mn (k:=2) rfl m2 m3
 have akZ:∀ {bb:Bool} (o:Option Rat),bb=false→bb=o.isSome→o=none:=fun o h1 h2=>by
  rw[h1] at h2
  cases o with
  | none=>rfl
  | some q=>cases h2
 cases CB:b1 with
 |
  false =>
  subst CB
  have hn:rD f s v a b=none:=by unfold rD;rw[akZ _ rfl k4]
  simp only[lY,jG,e1,e2,e3,t1,t2,t3,Bool.not_true,Bool.not_false,List.length_cons,List.length_nil,List.cons_append,List.nil_append,Nat.zero_add,dX,VX,Nat.reduceEqDiff,Nat.reduceAdd,Nat.reduceLeDiff,Nat.reduceLT,Nat.reduceSub]
  exact bad hn _
 | true =>
 subst CB
 obtain⟨x,hx⟩:=Option.isSome_iff_exists.1 k4.symm
 obtain rfl:=k5 x hx
 cases Yr:b2 with
 |
  false =>
  subst Yr
  have hn:rD f s v a b=none:=by unfold rD;rw[hx,akZ _ rfl l4]
  simp only[lY,jG,e1,e2,e3,t1,t2,t3,Bool.not_true,Bool.not_false,List.length_cons,List.length_nil,List.cons_append,List.nil_append,Nat.zero_add,dX,VX,Nat.reduceEqDiff,Nat.reduceAdd,Nat.reduceLeDiff,Nat.reduceLT,Nat.reduceSub]
  exact bad hn _
 | true =>
 subst Yr
 obtain⟨y,hy⟩:=Option.isSome_iff_exists.1 l4.symm
 obtain rfl:=l5 y hy
 cases hb3:b3 with
 |
  false =>
  subst hb3
  have hn:rD f s v a b=none:=by unfold rD;rw[hx,hy,akZ _ rfl m4]
  simp only[lY,jG,e1,e2,e3,t1,t2,t3,Bool.not_true,Bool.not_false,List.length_cons,List.length_nil,List.cons_append,List.nil_append,Nat.zero_add,dX,VX,Nat.reduceEqDiff,Nat.reduceAdd,Nat.reduceLeDiff,Nat.reduceLT,Nat.reduceSub]
  exact bad hn _
 | true =>
 subst hb3
 obtain⟨z,hz⟩:=Option.isSome_iff_exists.1 m4.symm
 obtain rfl:=m5 z hz
 by_cases h1:1≤a∧a≤12
 case neg =>
  rw[decide_eq_false h1] at e4
  simp only[lY,jG,e1,e2,e3,e4,t1,t2,t3,Bool.not_true,Bool.not_false,List.length_cons,List.length_nil,List.cons_append,List.nil_append,Nat.zero_add,dX,VX,Nat.reduceEqDiff,Nat.reduceAdd,Nat.reduceLeDiff,Nat.reduceLT,Nat.reduceSub]
  exact bad (by unfold rD;rw[hx,hy,hz];exact if_neg fun h=>h1 h.1.1) _
 rw[decide_eq_true h1] at e4
 by_cases h2:1≤b∧b≤12
 case neg =>
  rw[decide_eq_false h2] at e5
  simp only[lY,jG,e1,e2,e3,e4,e5,t1,t2,t3,Bool.not_true,Bool.not_false,List.length_cons,List.length_nil,List.cons_append,List.nil_append,Nat.zero_add,dX,VX,Nat.reduceEqDiff,Nat.reduceAdd,Nat.reduceLeDiff,Nat.reduceLT,Nat.reduceSub]
  exact bad (by unfold rD;rw[hx,hy,hz];exact if_neg fun h=>h2 h.1.2) _
 rw[decide_eq_true h2] at e5
 obtain⟨A,rfl⟩:∃A:Nat,a=A:=⟨a.toNat,by omega⟩
 obtain⟨B,rfl⟩:∃B:Nat,b=B:=⟨b.toNat,by omega⟩
 have hmul:(A+1)*(B+1)≤13*13:=Nat.mul_le_mul (by omega) (by omega)
 have w1:IntKind.i64.wrap ((A:Int)+1)=((A+1:Nat):Int):=wN _ (by omega) (by omega)
 have w2:IntKind.i64.wrap ((B:Int)+1)=((B+1:Nat):Int):=wN _ (by omega) (by omega)
 have w3:IntKind.i64.wrap (((A+1:Nat):Int)*((B+1:Nat):Int))=(((A+1)*(B+1):Nat):Int):=wN _ (by rw[Int.natCast_mul]) (by omega)
 have QX:((A:Int)+1)*((B:Int)+1)=(((A+1)*(B+1):Nat):Int):=by rw[Int.natCast_mul];rfl
 by_cases h3:(12:Int)<(((A+1)*(B+1):Nat):Int)
 ·simp only[lY,jG,e1,e2,e3,e4,e5,t1,t2,t3,w1,w2,w3,h3,Bool.not_true,Bool.not_false,List.length_cons,List.length_nil,List.cons_append,List.nil_append,Nat.zero_add,dX,VX,Nat.reduceEqDiff,Nat.reduceAdd,Nat.reduceLeDiff,Nat.reduceLT,Nat.reduceSub]
  exact bad (by unfold rD;rw[hx,hy,hz];exact if_neg fun h=>by have:=h.2;rw[QX] at this;omega) _
 have hO:rD f s v (A:Int) (B:Int)=some ((A+1)*(B+1),Br x y z A B (A+1)):=by
  unfold rD
  rw[hx,hy,hz]
  exact if_pos ⟨⟨h1,h2⟩,by rw[QX];omega⟩
 rw[hO]
 have h12:(A+1)*(B+1)≤12:=by omega
 obtain⟨hA5,hB5⟩:=Iz (a:=A) (b:=B) (by omega) (by omega) h12
 have bx:=wH hx
 have bby:=wH hy
 have bz:=wH hz
 simp only[lY,jG,e1,e2,e3,e4,e5,t1,t2,t3,w1,w2,w3,h3,Bool.not_true,Bool.not_false,List.length_cons,List.length_nil,List.cons_append,List.nil_append,Nat.zero_add,dX,VX,Nat.reduceEqDiff,Nat.reduceAdd,Nat.reduceLeDiff,Nat.reduceLT,Nat.reduceSub]
 have hR:A8 0 [x,y,z] [.row 0 [bC x] 3 true,.row 0 [bC y] 3 true,.row 0 [bC z] 3 true]:=fun k q hk=>by
  match k,hk with
  | 0,hk=>cases hk;rfl
  | 1,hk=>cases hk;rfl
  | 2,hk=>cases hk;rfl
 refine SO (by omega) (Nat.zero_le _) fun bk g c L hc hT => ?_
 have hR:=hR.app (L:=L)
 simp only[List.length_cons,List.length_nil,Nat.reduceAdd] at hT
 generalize [cO.row 0 [bC x] 3 true,.row 0 [bC y] 3 true,.row 0 [bC z] 3 true]++L=H at *
 simp only[dX,VX,Nat.reduceEqDiff,Nat.reduceAdd,Nat.reduceLeDiff,Nat.reduceLT,Nat.reduceSub]
 have alH:∀i,i≤A+1→3*(B+1)*i≤36:=fun i hi=>by
  rw[Nat.mul_assoc,Nat.mul_comm (B+1) i]
  have:i*(B+1)≤(A+1)*(B+1):=Nat.mul_le_mul_right _ hi
  omega
 have hat:∀i j,i≤A→j≤B→i*(B+1)+j<(A+1)*(B+1):=fun i j hi hj=>GG hi hj
 generalize hNN:(A+1)*(B+1)=N at *
 refine aS (fun(i:Nat) ρ H1=>i≤A+1∧A8 0 [x,y,z] H1∧Tq bC 3 H.length N bk g (Br x y z A B i) H1∧ρ 3=VI A∧ρ 4=VI B∧ρ 12 = .ptr 0 0 0 0∧ρ 14 = .ptr 1 0 0 0∧ρ 16 = .ptr 2 0 0 0∧ρ 18 = .ref bk g 0 N c∧ρ 19=VI i) (fun i=>A+1-i) 0
  ⟨Nat.zero_le _,hR,hT,by (repeat' apply And.intro)<;>first | rfl | trivial | assumption⟩ ?_
 clear hR hT
 rintro i ρ H1 ⟨hi,hR,hT,g3,g4,g12,g14,g16,g18,g19⟩
 have YZ:=GM (x:=x) (y:=y) (z:=z) (a:=A) (b:=B) i
 have hm:=alH i hi
 by_cases dB:(i:Int)≤(A:Int)
 ·have wi:IntKind.i64.wrap ((i:Int)+1)=((i+1:Nat):Int):=wN _ (by omega) (by omega)
  simp only[xY,g3,g4,g12,g14,g16,g18,g19,dB,dX,VX,Nat.reduceEqDiff,Nat.reduceAdd,Nat.reduceLeDiff,Nat.reduceLT,Nat.reduceSub]
  refine aS (fun(j:Nat) ρ H2=>j≤B+1∧A8 0 [x,y,z] H2∧Tq bC 3 H.length N bk g (Br x y z A B i++Ee x y z A B i j) H2∧ρ 3=VI A∧ρ 4=VI B∧ρ 12 = .ptr 0 0 0 0∧ρ 14 = .ptr 1 0 0 0∧ρ 16 = .ptr 2 0 0 0∧ρ 18 = .ref bk g 0 N c∧ρ 19=VI i∧ρ 20=VI j) (fun j=>B+1-j) 0
   ⟨Nat.zero_le _,hR,by rw[Ee,List.append_nil];exact hT,by (repeat' apply And.intro)<;>first | rfl | trivial | assumption⟩ ?_
  clear g3 g4 g12 g14 g16 g18 g19 hR hT
  rintro j ρ H2 ⟨hj,hR,hT,g3,g4,g12,g14,g16,g18,g19,g20⟩
  have hjl:=G3 (x:=x) (y:=y) (z:=z) (a:=A) (b:=B) (i:=i) j
  have hLl:(Br x y z A B i++Ee x y z A B i j).length≤60:=by rw[List.length_append,YZ,hjl];omega
  by_cases hjn:(j:Int)≤(B:Int)
  ·have wj:IntKind.i64.wrap ((j:Int)+1)=((j+1:Nat):Int):=wN _ (by omega) (by omega)
   have aDm:=hat i j (by omega) (by omega)
   have u1:IntKind.i64.wrap ((i:Int)*((B+1:Nat):Int))=((i*(B+1):Nat):Int):=wN _ (by rw[Int.natCast_mul]) (by omega)
   have u2:IntKind.i64.wrap (((i*(B+1):Nat):Int)+(j:Int))=((i*(B+1)+j:Nat):Int):=wN _ (by omega) (by omega)
   simp only[Xm,g3,g4,g12,g14,g16,g18,g19,g20,hjn,w2,u1,u2,dX,VX,Nat.reduceEqDiff,Nat.reduceAdd,Nat.reduceLeDiff,Nat.reduceLT,Nat.reduceSub]
   refine akY (hi:=H.length) (A:=A) (B:=B) (N:=N) (b:=bk) (g:=g) (c:=c) (i:=i) (j:=j) (x:=x) (y:=y) (z:=z) (L:=Br x y z A B i++Ee x y z A B i j) ⟨by (repeat' apply And.intro)<;>first | rfl | trivial | assumption,hR,hT⟩ hNN (by omega) hA5 hB5 (by omega) (by omega) bx.1 (by omega) fun Tv H3 S3 => ?_
   simp only[dX,VX,Nat.reduceEqDiff,Nat.reduceAdd,Nat.reduceLeDiff,Nat.reduceLT,Nat.reduceSub]
   refine anQ S3 hNN (by omega) hA5 hB5 (by omega) (by omega) bby.1 (by rw[List.length_append];simp only[List.length_cons,List.length_nil];omega) fun ρ4 H4 S4 => ?_
   simp only[dX,VX,Nat.reduceEqDiff,Nat.reduceAdd,Nat.reduceLeDiff,Nat.reduceLT,Nat.reduceSub]
   refine akW S4 hNN (by omega) hA5 hB5 (by omega) (by omega) bz.1 (by rw[List.length_append,List.length_append];simp only[List.length_cons,List.length_nil];omega) fun ρ5 H5 S5 => ?_
   obtain⟨⟨g3,g4,g12,g14,g16,g18,g19,g20,g21⟩,hR5,hT5⟩:=S5
   simp only[g20,wj,dX,VX,Nat.reduceEqDiff,Nat.reduceAdd,Nat.reduceLeDiff,Nat.reduceLT,Nat.reduceSub]
   exact⟨j+1,by omega,by omega,hR5,by rw[HA (A:=A) (B:=B) (i:=i) (j:=j) rfl rfl rfl rfl,List.append_assoc] at hT5;exact hT5,by (repeat' apply And.intro)<;>first | rfl | trivial | assumption⟩
  ·have hje:j=B+1:=by omega
   subst hje
   simp only[yD,g4,g19,g20,hjn,wi,dX,VX,Nat.reduceEqDiff,Nat.reduceAdd,Nat.reduceLeDiff,Nat.reduceLT,Nat.reduceSub]
   exact⟨i+1,by omega,by omega,hR,hT,by (repeat' apply And.intro)<;>first | rfl | trivial | assumption⟩
 ·have nY:i=A+1:=by omega
  subst nY
  simp only[xY,g3,g18,g19,dB,dX,VX,Nat.reduceEqDiff,Nat.reduceAdd,Nat.reduceLeDiff,Nat.reduceLT,Nat.reduceSub]
  exact bO (d:=6) (hT.t.fz (d:=4) hc Bm) (aJ (v:=VB true) rfl)
set_option maxHeartbeats 4000000 in
theorem GR (f s v:ByteArray) (a b:Int) (hf:f.size≤1000000000) (hs:s.size≤1000000000) (hv:v.size≤1000000000):FC 40 [sV f,sV s,sV v,VI a,VI b] (Vn (CG ((Kx f s v a b).getD [])) (Kx f s v a b).isSome):=by
 refine FC.I1 ⟨true,false⟩ Gr (Nat.le_of_ble_eq_true rfl) fun n => ?_
 have e1:=Na f s v a b hf hs hv
 cases hO:rD f s v a b with
 |
  none =>
  rw[hO] at e1
  have e1:TC 105 [sV f,sV s,sV v,VI a,VI b] (.dT [.tree [] .op,VB false]):=e1
  obtain⟨f1,f2,f3⟩:=adP (n:=n) (bJ:=Kx f s v a b) (AF (n:=n) (K:=[])) (Nat.le_refl _) (by unfold Kx Fc;rw[hO];rfl)
  simp only[vF,rI,e1,f1,f2,Bool.not_false,gH,Es,List.length_replicate,dX,VX,Nat.reduceEqDiff,Nat.reduceAdd,Nat.reduceLeDiff,Nat.reduceLT,Nat.reduceSub]
  exact f3
 |
  some p =>
  have hQ:=Km hO
  have Dx:Kx f s v a b=vP (nA (qR p)):=by unfold Kx Fc;rw[hO];rfl
  rw[Dx]
  rw[hO] at e1
  have e1:TC 105 [sV f,sV s,sV v,VI a,VI b] (.dT [aT (aT bC) (qR p),VB true]):=e1
  simp only[vF,rI,e1,Bool.not_true,gH,Es,List.length_replicate,dX,VX,Nat.reduceEqDiff,Nat.reduceAdd,Nat.reduceLeDiff,Nat.reduceLT,Nat.reduceSub]
  refine lC rfl (KB (H:=List.replicate n cO.dead++[ajD]) (v:=aT (aT bC) (qR p)) (qR p) (n:=p.1) (B:=600000) (Y3.tree nD) (by simp) BL (by have:=hQ.n;omega) (by decide) hQ.rows hQ.aqA) fun x L hx => ?_
  simp only[dX,VX,Nat.reduceEqDiff,Nat.reduceAdd,Nat.reduceLeDiff,Nat.reduceLT,Nat.reduceSub]
  refine Pe (JV _ hQ.told.1 hQ.told.2) rfl (fz1 (hx.fz Bm)) (cF (AF (n:=n) (K:=[]))) (Nat.le_refl _) fun v H2 H3 t1 t2 t3 => ?_
  simp only[t1,t2,dX,VX,Nat.reduceEqDiff,Nat.reduceAdd,Nat.reduceLeDiff,Nat.reduceLT,Nat.reduceSub]
  exact t3
end Go.PM
namespace Go.PM
def lD:aD:=(LS [LO 10 (.mv LF)] (.seq (LS [LM 19 0,LO 20 (.slen (LT 19)),LM 21 1,LO 22 (.slen (LT 21)),LO 23 (.bin .add (LT 20) (LT 22)),LM 24 2,LO 25 (.slen (LT 24)),LO 26 (.bin .add (LT 23) (LT 25)),LO 27 (.bin .gtr (LT 26) (LI 1000000))] (.cond (LT 27) (LS [LO 10 (.mv LG)] .ret) .skip)) (LS [LM 29 0,LM 30 1,LM 31 2,LM 32 3,LM 33 4,LO 34 (.call 40 [(LT 29),(LT 30),(LT 31),(LT 32),(LT 33)]),LM 28 34,LO 35 (LX 28 0),LO 36 (LX 28 1),LO 11 (.new [(.slice none 0 0)]),LN (.store 1 (LT 11) (LT 35)),LM 12 36] (LS [LM 38 0,LM 39 1,LM 40 2,LM 41 3,LM 42 4,LO 43 (.call 41 [(LT 38),(LT 39),(LT 40),(LT 41),(LT 42)]),LM 37 43,LO 44 (LX 37 0),LO 45 (LX 37 1),LO 13 (.new [(.slice none 0 0)]),LN (.store 1 (LT 13) (LT 44)),LM 14 45] (.seq (LS [LO 46 (.load true 1 (LT 13)),LO 47 (.load true 1 (LT 11)),LO 48 (.call 19 [(LT 46),(LT 47)]),LO 49 (.un .not (LT 48)),LM 50 49,LZ 50 51 (.mv (LT 14)),LZ 50 52 (.mv (LT 12)),LZ 50 53 (.eqb true (LT 51) (LT 52)),LO 54 (.pick (LT 50) LG (LT 53))] (.cond (LT 54) (LS [LO 10 (.mv LF)] .ret) .skip)) (LS [LO 15 (.mv (LI 101))] (LS [LO 55 (.load true 1 (LT 13)),LM 56 15,LO 57 (.call 22 [(LT 55),(LT 56)]),LM 15 57] (LS [LO 16 (.mv (LI 101))] (LS [LO 58 (.load true 1 (LT 13)),LM 59 16,LO 60 (.call 23 [(LT 58),(LT 59)]),LM 16 60] (.seq (LS [LM 61 16,LO 62 (.bin .lss (LT 61) (LI 0))] (.cond (LT 62) (LS [LO 10 (.mv LF)] .ret) .skip)) (.seq (LS [LM 63 16,LM 64 15,LO 65 (.bin .neq (LT 63) (LT 64))] (.cond (LT 65) (LS [LO 10 (.mv LF)] .ret) .skip)) (LS [LM 67 0,LM 68 1,LM 69 2,LM 70 3,LM 71 4,LO 72 (.call 41 [(LT 67),(LT 68),(LT 69),(LT 70),(LT 71)]),LM 66 72,LO 73 (LX 66 0),LO 74 (LX 66 1),LO 17 (.new [(.slice none 0 0)]),LN (.store 1 (LT 17) (LT 73)),LM 18 74] (.seq (LS [LO 75 (.load true 1 (LT 17)),LO 76 (.load true 1 (LT 11)),LO 77 (.call 19 [(LT 75),(LT 76)]),LO 78 (.un .not (LT 77)),LM 79 78,LZ 79 80 (.mv (LT 18)),LZ 79 81 (.mv (LT 12)),LZ 79 82 (.eqb true (LT 80) (LT 81)),LO 83 (.pick (LT 79) LG (LT 82))] (.cond (LT 83) (LS [LO 10 (.mv LF)] .ret) .skip)) (LS [LO 16 (.mv (LI 101))] (LS [LO 84 (.load true 1 (LT 13)),LM 85 16,LO 86 (.call 23 [(LT 84),(LT 85)]),LM 16 86] (.seq (LS [LM 87 16,LO 88 (.bin .lss (LT 87) (LI 0))] (.cond (LT 88) (LS [LO 10 (.mv LF)] .ret) .skip)) (.seq (LS [LM 89 16,LM 90 15,LO 91 (.bin .neq (LT 89) (LT 90))] (.cond (LT 91) (LS [LO 10 (.mv LF)] .ret) .skip)) (LS [LO 10 (.mv LG)] .ret))))))))))))))))))
def mF:aR:=⟨92,[(.tmp 10)],lD⟩
theorem Aj:fR 8=some mF:=by kernel_rfl
end Go.PM
namespace Go.PM
set_option maxHeartbeats 4000000 in
theorem Ak (s0:ByteArray) (s1:ByteArray) (s2:ByteArray) (t3:Int) (t4:Int) (YT:s0.size≤140737488351232) (hx1:s1.size≤140737488351232) (hx2:s2.size≤140737488351232):TC 8 [sV s0,sV s1,sV s2,VI t3,VI t4] (.sc (.bool true)):=by
 refine TC.walk ⟨true,false⟩ Aj rfl (Nat.le_of_ble_eq_true rfl) (PE rfl rfl rfl rfl rfl) rfl ?_
 have w1:IntKind.i64.wrap ((s0.size:Int)+(s1.size:Int))=(s0.size:Int)+(s1.size:Int):=wrap64 (by omega) (by omega)
 have w2:IntKind.i64.wrap ((s0.size:Int)+(s1.size:Int)+(s2.size:Int))=(s0.size:Int)+(s1.size:Int)+(s2.size:Int):=wrap64 (by omega) (by omega)
 by_cases aiJ:(1000000:Int)<(s0.size:Int)+(s1.size:Int)+(s2.size:Int)
 ·simp only[mF,lD,yU,w1,w2,aiJ,dX,VX,Nat.reduceEqDiff,Nat.reduceAdd,Nat.reduceLeDiff,Nat.reduceLT,Nat.reduceSub]
  exact aF rfl
 have hb0:s0.size≤1000000000:=by omega
 have CB:s1.size≤1000000000:=by omega
 have Yr:s2.size≤1000000000:=by omega
 have cs:=GR s0 s1 s2 t3 t4 hb0 CB Yr
 have ci:=F4 s0 s1 s2 t3 t4 hb0 CB Yr
 have QD:=TP s0 s1 s2 t3 t4
 have hsn:=QD.n
 generalize Dx:(Kx s0 s1 s2 t3 t4).getD []=val at *
 generalize (Kx s0 s1 s2 t3 t4).isSome=ok at *
 simp only[mF,lD,w1,w2,yU,aiJ,dX,VX,Nat.reduceEqDiff,Nat.reduceAdd,Nat.reduceLeDiff,Nat.reduceLT,Nat.reduceSub]
 refine Lx cs rfl (fz5 (aF rfl) (aF rfl) (aF rfl) (aF rfl) (aF rfl)) CG.cJ fun v1 H1 p1 v1' => ?_
 simp only[dX,VX,Nat.reduceEqDiff,Nat.reduceAdd,Nat.reduceLeDiff,Nat.reduceLT,Nat.reduceSub]
 have w1:=Uy (lo:=0) (H:=H1) v1'.ag3 (Nat.zero_le _)
 simp only[w1,dX,VX,Nat.reduceEqDiff,Nat.reduceAdd,Nat.reduceLeDiff,Nat.reduceLT,Nat.reduceSub]
 have p2:=List.prefix_append H1 [.row 0 [v1] 1 true]
 have q1:aI (H1++[.row 0 [v1] 1 true]) H1.length 0=some ([v1],1,true):=fN
 generalize eh2:H1++[.row 0 [v1] 1 true]=H2 at *
 refine Lx ci rfl (fz5 (aF rfl) (aF rfl) (aF rfl) (aF rfl) (aF rfl)) CG.cJ fun v3 H3 p3 v3' => ?_
 simp only[dX,VX,Nat.reduceEqDiff,Nat.reduceAdd,Nat.reduceLeDiff,Nat.reduceLT,Nat.reduceSub]
 have w3:=Uy (lo:=0) (H:=H3) v3'.ag3 (Nat.zero_le _)
 simp only[w3,dX,VX,Nat.reduceEqDiff,Nat.reduceAdd,Nat.reduceLeDiff,Nat.reduceLT,Nat.reduceSub]
 have p4:=List.prefix_append H3 [.row 0 [v3] 1 true]
 have q3:aI (H3++[.row 0 [v3] 1 true]) H3.length 0=some ([v3],1,true):=fN
 generalize eh4:H3++[.row 0 [v3] 1 true]=H4 at *
 have W4:=v1'.cJ (dH.pre ((p2.trans p3).trans p4))
 have G4:=v3'.cJ (dH.pre p4)
 have cW4:=cT (p3.trans p4) q1
 have cG4:=q3
 have aW:=v1'.ag3
 have aG:=v3'.ag3
 have le1:=p1.length_le
 have le2:=p2.length_le
 have le3:=p3.length_le
 have le4:=p4.length_le
 have bW:=gN q1
 have bG:=gN q3
 have kb:Nx true (Value.bool ok) (Value.bool ok)=some (.bool false):=acM ok
 simp only[Ok aG cG4,Ok aW cW4,ajG QD G4.fz W4.fz,kb,dX,VX,Nat.reduceEqDiff,Nat.reduceAdd,Nat.reduceLeDiff,Nat.reduceLT,Nat.reduceSub]
 refine aiM G4 (Nat.zero_le _) (by omega) (by have:=QD.g;omega) (by omega) fun M1 ml mG mk => ?_
 have k0:¬(101+(cW val:Int))<0:=by omega
 have k1:¬((101+(cW val:Int))≠(101+(cW val:Int))):=fun h=>h rfl
 have mW:=W4.cJ (H':=M1) fun b g x h1 h2 h3=>mk b g x (by omega) h3
 have mcW:=mk _ _ _ (by omega) cW4
 have mcG:=mk _ _ _ (by omega) cG4
 simp only[Ok aG mcG,Wi QD mG.fz,k0,ne_eq,not_true_eq_false,decide_false,dX,VX,Nat.reduceEqDiff,Nat.reduceAdd,Nat.reduceLeDiff,Nat.reduceLT,Nat.reduceSub]
 generalize M1=H5 at *
 refine Lx ci rfl (fz5 (aF rfl) (aF rfl) (aF rfl) (aF rfl) (aF rfl)) CG.cJ fun v6 H6 p6 v6' => ?_
 simp only[dX,VX,Nat.reduceEqDiff,Nat.reduceAdd,Nat.reduceLeDiff,Nat.reduceLT,Nat.reduceSub]
 have w6:=Uy (lo:=0) (H:=H6) v6'.ag3 (Nat.zero_le _)
 simp only[w6,dX,VX,Nat.reduceEqDiff,Nat.reduceAdd,Nat.reduceLeDiff,Nat.reduceLT,Nat.reduceSub]
 have p7:=List.prefix_append H6 [.row 0 [v6] 1 true]
 have q6:aI (H6++[.row 0 [v6] 1 true]) H6.length 0=some ([v6],1,true):=fN
 generalize eh7:H6++[.row 0 [v6] 1 true]=H7 at *
 have aX:=v6'.ag3
 have X1:=v6'.cJ (dH.pre p7)
 have cX:=q6
 have nW:=mW.cJ (dH.pre (p6.trans p7))
 have nG:=mG.cJ (dH.pre (p6.trans p7))
 have ncW:=cT (p6.trans p7) mcW
 have ncG:=cT (p6.trans p7) mcG
 simp only[Ok aX cX,Ok aW ncW,Ok aG ncG,ajG QD X1.fz nW.fz,kb,Wi QD nG.fz,k0,ne_eq,not_true_eq_false,decide_false,dX,VX,Nat.reduceEqDiff,Nat.reduceAdd,Nat.reduceLeDiff,Nat.reduceLT,Nat.reduceSub]
 exact aF rfl
end Go.PM
namespace Go.PM
open Go.Proofs
theorem EU {P:Program} {w:World} {name:String} {d:DataW Unit}:∀ {l:List (String×DataW Unit)} {ps:List MemPlace},DataW.LaidVars P w l ps→(name,d)∈l →
  ∃g t cs fuel p,P.globalNamed name=some g∧(P.globals[g]?).map (·.type)=some t∧w.var? P name=some cs∧DataW.trod (fun _=>()) P w 0 (fun _=>true) false fuel t cs.toList=some (d,p)
 | [],_,_,hm=>by cases hm
 |
  (n,e)::r,ps,h,hm=>by
  obtain⟨g,t,cs,fuel,p,q,h1,h2,h3,h4,h5,_⟩:=h
  rcases List.mem_cons.1 hm with he | hm
  ·cases he
   exact⟨g,t,cs,fuel,p,h1,h2,h3,h4⟩
  ·exact EU h5 hm
theorem Mr {W:World} {l:List (String×DataW Unit)} (hl:laidMetH Tryz.prog l W) (hp:(l.all fun x=>x.2.handleName?.isNone)=true) (hm:("internal/strconv.uint64pow10",Lib.tabData .u64 Lib.pow10Tab)∈l)
  {t e:TypeId} {n:Nat} (hty:(Tryz.prog.globals[3]?).map (·.type)=some t) (ht:Tryz.prog.underlying t=some (.array n e)) (he:Tryz.prog.underlying e=some (.int .u64)) (hce:Tryz.prog.cellsOf e=1) (hct:Tryz.prog.cellsOf t=n):Ps W:=by
 rw[MakeChecks.laidMetH_plain _ _ _ hp] at hl
 obtain⟨ps,h1,_⟩:=hl
 obtain⟨g',t',cs,fuel,p,hg',ht',Zm,hd⟩:=EU h1 hm
 have hg:Tryz.prog.globalNamed "internal/strconv.uint64pow10"=some 3:=by kernel_rfl
 obtain rfl:=Option.some.inj (hg.symm.trans hg')
 obtain rfl:=Option.some.inj (hty.symm.trans ht')
 have X3:=Lib.cells_of_tab ht he hce hct hd
 intro x hx
 have U8:x=(3,(Lib.pow10Tab.map fun z=>Value.int .u64 z).toArray):=by simpa[agO] using hx
 subst U8
 unfold World.var? at Zm
 rw[hg,Option.bind_some] at Zm
 split at Zm
 ·rename_i Aw e' fz' hh
  cases Zm
  refine⟨e',fz',?_⟩
  rw[←X3]
  simpa using hh
 ·cases Zm
end Go.PM