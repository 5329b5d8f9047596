/- Texts of a claim, in one: part 7. -/
import Derived.KernelRfl
import Derived.Lib.ItoaNum
import Derived.Lib.Join
import Derived.Test.YtjmflicajplclaaGreatDoorKGf
set_option linter.unusedSimpArgs false
set_option linter.unusedVariables false
namespace Go.PM
def Da:aD:=(LS [LO 0 (.new [(.bool false),(.slice none 0 0),(.slice none 0 0)])] (LS [LO 1 (.call 130 [(LI 0)]),LN (.store 3 (LT 0) (LT 1))] .ret))
def FG:aR:=⟨2,[(.cell 0 true 3)],Da⟩
theorem Mk:gD 77=some FG:=by kernel_rfl
def tZ:aD:=(LS [LO 2 (.box (LT 0)),LO 3 (.box (LT 1)),LO 4 (.new [(.bool false),(.slice none 0 0),(.slice none 0 0)])] (LS [LO 8 (LA 1 2),LO 9 (LL 8),LO 10 (LA 2 3),LO 11 (LL 10),LO 12 (.call 152 [(LT 9),(LT 11)]),LM 5 12] (LS [LO 13 (LA 1 3),LO 14 (LL 13),LO 15 (LA 2 2),LO 16 (LL 15),LO 17 (.call 152 [(LT 14),(LT 16)]),LM 6 17] (LS [LO 18 (LA 2 2),LO 19 (LL 18),LO 20 (LA 2 3),LO 21 (LL 20),LO 22 (.call 152 [(LT 19),(LT 21)]),LM 7 22] (.seq (LS [LO 23 (LA 0 2),LO 24 (LL 23),LO 25 (LA 0 3),LO 26 (LL 25),LO 27 (.eqb false (LT 24) (LT 26))] (.cond (LT 27) (LS [LO 28 (LA 0 2),LO 29 (LL 28),LM 30 5,LM 31 6,LQ 32 (.call 154 [(LT 30),(LT 31)]),LM 33 7,LQ 34 (.call 153 [(LT 29),(LT 32),(LT 33)]),LN (.store 3 (LT 4) (LT 34))] .ret) .skip)) (.seq (LS [LM 35 5,LM 36 6,LO 37 (.call 155 [(LT 35),(LT 36)]),LO 38 (.bin .geq (LT 37) (LI 0))] (.cond (LT 38) (LS [LO 39 (LA 0 2),LO 40 (LL 39),LM 41 5,LM 42 6,LQ 43 (.call 156 [(LT 41),(LT 42)]),LM 44 7,LQ 45 (.call 153 [(LT 40),(LT 43),(LT 44)]),LN (.store 3 (LT 4) (LT 45))] .ret) .skip)) (LS [LO 46 (LA 0 3),LO 47 (LL 46),LM 48 6,LM 49 5,LQ 50 (.call 156 [(LT 48),(LT 49)]),LM 51 7,LQ 52 (.call 153 [(LT 47),(LT 50),(LT 51)]),LN (.store 3 (LT 4) (LT 52))] .ret)))))))
def yY:aR:=⟨53,[(.cell 4 true 3)],tZ⟩
theorem Mz:gD 79=some yY:=by kernel_rfl
def zP:aD:=(LS [LO 2 (.new [(.bool false),(.slice none 0 0),(.slice none 0 0)])] (.seq (LS [LM 3 0,LO 4 (.bin .lss (LT 3) (LI 0))] (.cond (LT 4) (LS [LM 5 0,LO 6 (.un .neg (LT 5)),LO 7 (.call 178 [(LT 6)]),LO 8 (.lit [(.int .i64 0)] 1 [(0,(LI 1))]),LO 9 (.build [(.bool false),(.slice none 0 0),(.slice none 0 0)] [(0,1),(1,1),(2,1)] [(0,LG),(1,(LT 7)),(2,(LT 8))]),LN (.store 3 (LT 2) (LT 9))] .ret) .skip)) (LS [LM 10 0,LO 11 (.call 178 [(LT 10)]),LO 12 (.lit [(.int .i64 0)] 1 [(0,(LI 1))]),LO 13 (.build [(.bool false),(.slice none 0 0),(.slice none 0 0)] [(0,1),(1,1),(2,1)] [(1,(LT 11)),(2,(LT 12))]),LN (.store 3 (LT 2) (LT 13))] .ret)))
def Cr:aR:=⟨14,[(.cell 2 true 3)],zP⟩
theorem MV:gD 130=some Cr:=by kernel_rfl
def qF:aD:=(LS [LO 2 (.box (LT 0)),LO 3 (.box (LT 1)),LO 4 (.mv LF)] (LS [LO 5 (LA 0 2),LO 6 (LL 5),LO 7 (LA 0 3),LO 8 (LL 7),LO 9 (.eqb false (LT 6) (LT 8)),LM 10 9,LY 10 11 (LA 1 2),LY 10 12 (LL 11),LY 10 13 (LA 2 3),LY 10 14 (LL 13),⟨(some 15),(.call 152 [(LT 12),(LT 14)]),(some (10,true)),true,[]⟩,LY 10 16 (LA 1 3),LY 10 17 (LL 16),LY 10 18 (LA 2 2),LY 10 19 (LL 18),⟨(some 20),(.call 152 [(LT 17),(LT 19)]),(some (10,true)),true,[]⟩,⟨(some 21),(.call 155 [(LT 15),(LT 20)]),(some (10,true)),true,[]⟩,LY 10 22 (.bin .eql (LT 21) (LI 0)),LO 23 (.pick (LT 10) (LT 22) LF),LM 4 23] .ret))
def tU:aR:=⟨24,[(.tmp 4)],qF⟩
theorem Jz:gD 160=some tU:=by kernel_rfl
def lS:aD:=(LS [LO 12 (.bin .lss (LT 11) (LT 10))] (.seq (.cond (LT 12) .skip (.exit 0)) (.seq (.block 1 (LS [LM 13 11,LM 5 13] (LS [LM 15 0,LM 16 5,LO 17 (.iaddr 3 (LT 15) (LT 16)),LO 18 (LK 17),LO 19 (.call 171 [(LT 18)]),LM 14 19,LO 20 (LX 14 0),LO 21 (LX 14 1),LM 6 20,LM 7 21] (.seq (LS [LM 22 7,LO 23 (.un .not (LT 22))] (.cond (LT 23) (LS [LO 2 (.mv (.const (.slice none 0 0))),LO 3 (.mv LF)] .ret) .skip)) (.dH [LM 24 4,LM 25 6,LO 26 (.lit [(.string ⟨#[]⟩)] 1 [(0,(LT 25))]),LO 27 (.app 1 16 (LT 24) (LT 26)),LM 4 27]))))) (.dH [LO 28 (.bin .add (LT 11) (LI 1)),LM 11 28]))))
def zB:aD:=(LS [LO 2 (.mv (.const (.slice none 0 0))),LO 3 (.mv LF)] (LS [LO 8 (.lit [(.string ⟨#[]⟩)] 0 []),LM 4 8] (.seq (LS [LM 9 0,LO 10 (.len (LT 9)),LO 11 (.mv (LI 0))] (.block 0 (.loop lS))) (LS [LM 29 4,LM 2 29,LO 3 (.mv LG)] .ret))))
def BS:aR:=⟨30,[(.tmp 2),(.tmp 3)],zB⟩
theorem Gr:gD 181=some BS:=by kernel_rfl
def pZ:aD:=(LS [LO 15 (.bin .lss (LT 14) (LT 13))] (.seq (.cond (LT 15) .skip (.exit 0)) (.seq (.block 1 (LS [LM 16 14,LM 5 16] (LS [LM 18 0,LM 19 5,LO 20 (.iaddr 1 (LT 18) (LT 19)),LO 21 (LL 20),LO 22 (.call 110 [(LT 21)]),LM 17 22,LO 23 (LX 17 0),LO 24 (LX 17 1),LO 6 (.new [(.bool false),(.slice none 0 0),(.slice none 0 0)]),LN (.store 3 (LT 6) (LT 23)),LM 7 24] (.seq (LS [LM 25 7,LO 26 (.un .not (LT 25))] (.cond (LT 26) (LS [LO 2 (.mv (.const (.slice none 0 0))),LO 3 (.mv LF)] .ret) .skip)) (.dH [LM 27 4,LO 28 (LK 6),LO 29 (.lit [(.bool false),(.slice none 0 0),(.slice none 0 0)] 1 [(0,(LT 28))]),LO 30 (.app 3 56 (LT 27) (LT 29)),LM 4 30]))))) (.dH [LO 31 (.bin .add (LT 14) (LI 1)),LM 14 31]))))
def wU:aD:=(LS [LO 2 (.mv (.const (.slice none 0 0))),LO 3 (.mv LF)] (.seq (LS [LM 8 0,LO 9 (.len (LT 8)),LO 10 (.bin .gtr (LT 9) (LI 300))] (.cond (LT 10) (LS [LO 2 (.mv (.const (.slice none 0 0))),LO 3 (.mv LF)] .ret) .skip)) (LS [LO 11 (.lit [(.bool false),(.slice none 0 0),(.slice none 0 0)] 0 []),LM 4 11] (.seq (LS [LM 12 0,LO 13 (.len (LT 12)),LO 14 (.mv (LI 0))] (.block 0 (.loop pZ))) (LS [LM 32 4,LM 2 32,LO 3 (.mv LG)] .ret)))))
def BL:aR:=⟨33,[(.tmp 2),(.tmp 3)],wU⟩
theorem Lm:gD 57=some BL:=by kernel_rfl
def rI:aD:=(LS [LO 2 (.mv LF)] (LS [LM 3 0,LO 4 (.call 58 [(LT 3)]),LM 5 4,LY 5 6 (.mv (LT 0)),LY 5 7 (.call 60 [(LT 6)]),LY 5 8 (.call 83 []),LY 5 9 (.call 160 [(LT 7),(LT 8)]),LO 10 (.pick (LT 5) (LT 9) LF),LM 2 10] .ret))
def uS:aR:=⟨11,[(.tmp 2)],rI⟩
theorem Gn:gD 96=some uS:=by kernel_rfl
def yI:aD:=(LS [LO 1 (.box (LT 0)),LO 2 (.mv (.const (.string ⟨#[]⟩))),LO 3 (.mv LF)] (.seq (LS [LO 4 (LK 1),LO 5 (.call 188 [(LT 4)]),LO 6 (.un .not (LT 5))] (.cond (LT 6) (LS [LO 2 (.mv (.const (.string ⟨#[]⟩))),LO 3 (.mv LF)] .ret) .skip)) (LS [LO 7 (LK 1),LO 8 (.call 189 [(LT 7)]),LM 2 8,LO 3 (.mv LG)] .ret)))
def Bp:aR:=⟨9,[(.tmp 2),(.tmp 3)],yI⟩
theorem J4:gD 171=some Bp:=by kernel_rfl
def Ew:aD:=(LS [LO 0 (.new [(.bool false),(.slice none 0 0),(.slice none 0 0)])] (LS [LO 1 (.call 130 [(LI 1)]),LN (.store 3 (LT 0) (LT 1))] .ret))
def IG:aR:=⟨2,[(.cell 0 true 3)],Ew⟩
theorem ML:gD 83=some IG:=by kernel_rfl
def kO:aD:=(LS [LO 7 (.bin .lss (LT 6) (LT 5))] (.seq (.cond (LT 7) .skip (.exit 0)) (.seq (.block 1 (LS [LM 8 6,LM 3 8] (LS [LM 9 0,LM 10 3,LO 11 (.iaddr 3 (LT 9) (LT 10)),LO 12 (LA 0 11),LO 13 (LL 12)] (.cond (LT 13) (LS [LO 2 (.mv LF)] .ret) .skip)))) (.dH [LO 14 (.bin .add (LT 6) (LI 1)),LM 6 14]))))
def xO:aD:=(LS [LO 2 (.mv LF)] (.seq (LS [LM 4 0,LO 5 (.len (LT 4)),LO 6 (.mv (LI 0))] (.block 0 (.loop kO))) (LS [LO 2 (.mv LG)] .ret)))
def AV:aR:=⟨15,[(.tmp 2)],xO⟩
theorem Fv:gD 58=some AV:=by kernel_rfl
def sU:aD:=(LS [LO 9 (.bin .lss (LT 8) (LT 7))] (.seq (.cond (LT 9) .skip (.exit 0)) (.seq (.block 1 (LS [LM 10 8,LM 4 10] (.dH [LO 11 (LK 3),LM 12 0,LM 13 4,LO 14 (.iaddr 3 (LT 12) (LT 13)),LO 15 (LK 14),LQ 16 (.call 79 [(LT 11),(LT 15)]),LN (.store 3 (LT 3) (LT 16))]))) (.dH [LO 17 (.bin .add (LT 8) (LI 1)),LM 8 17]))))
def Cc:aD:=(LS [LO 2 (.new [(.bool false),(.slice none 0 0),(.slice none 0 0)])] (LS [LO 5 (.call 77 []),LO 3 (.new [(.bool false),(.slice none 0 0),(.slice none 0 0)]),LN (.store 3 (LT 3) (LT 5))] (.seq (LS [LM 6 0,LO 7 (.len (LT 6)),LO 8 (.mv (LI 0))] (.block 0 (.loop sU))) (LS [LO 18 (LK 3),LN (.store 3 (LT 2) (LT 18))] .ret))))
def ED:aR:=⟨19,[(.cell 2 true 3)],Cc⟩
theorem Jl:gD 60=some ED:=by kernel_rfl
def jL:aD:=(LS [LO 6 (.new [(.bool false),(.slice none 0 0),(.slice none 0 0)])] (LS [LM 8 1,LM 9 2,LO 10 (.call 170 [(LT 8),(LT 9)]),LM 7 10] (.seq (LS [LM 11 7,LO 12 (.lit [(.int .i64 0)] 1 [(0,(LI 1))]),LO 13 (.call 155 [(LT 11),(LT 12)]),LO 14 (.bin .neq (LT 13) (LI 0))] (.cond (LT 14) (LS [LM 16 1,LM 17 7,LO 18 (.call 185 [(LT 16),(LT 17)]),LM 15 18,LO 19 (LX 15 0),LO 20 (LX 15 1),LM 1 19] (.dH [LM 22 2,LM 23 7,LO 24 (.call 185 [(LT 22),(LT 23)]),LM 21 24,LO 25 (LX 21 0),LO 26 (LX 21 1),LM 2 25])) .skip)) (LS [LM 27 0,LM 28 27,LY 28 29 (.mv (LT 1)),LY 28 30 (.len (LT 29)),LY 28 31 (.bin .gtr (LT 30) (LI 0)),LO 32 (.pick (LT 28) (LT 31) LF),LM 33 1,LM 34 2,LO 35 (.build [(.bool false),(.slice none 0 0),(.slice none 0 0)] [(0,1),(1,1),(2,1)] [(0,(LT 32)),(1,(LT 33)),(2,(LT 34))]),LN (.store 3 (LT 6) (LT 35))] .ret))))
def mE:aR:=⟨36,[(.cell 6 true 3)],jL⟩
theorem K7:gD 153=some mE:=by kernel_rfl
def nZ:aD:=(.seq (LS [LM 19 5,LO 20 (.bin .geq (LT 19) (LI 0))] (.cond (LT 20) .skip (.exit 0))) (.seq (.block 1 (LS [LM 23 0,LM 24 5,LO 25 (.iaddr 1 (LT 23) (LT 24)),LO 26 (LL 25),LM 27 1,LM 28 5,LO 29 (.iaddr 1 (LT 27) (LT 28)),LO 30 (LL 29),LO 31 (.bin .neq (LT 26) (LT 30))] (.cond (LT 31) (.seq (LS [LM 32 0,LM 33 5,LO 34 (.iaddr 1 (LT 32) (LT 33)),LO 35 (LL 34),LM 36 1,LM 37 5,LO 38 (.iaddr 1 (LT 36) (LT 37)),LO 39 (LL 38),LO 40 (.bin .lss (LT 35) (LT 39))] (.cond (LT 40) (LS [LO 4 (.mv (LI (-1)))] .ret) .skip)) (LS [LO 4 (.mv (LI 1))] .ret)) .skip))) (.dH [LM 21 5,LO 22 (.bin .sub (LT 21) (LI 1)),LM 5 22])))
def tX:aD:=(LS [LO 4 (.mv (LI 0))] (.seq (LS [LM 6 0,LO 7 (.len (LT 6)),LM 8 1,LO 9 (.len (LT 8)),LO 10 (.bin .neq (LT 7) (LT 9))] (.cond (LT 10) (.seq (LS [LM 11 0,LO 12 (.len (LT 11)),LM 13 1,LO 14 (.len (LT 13)),LO 15 (.bin .lss (LT 12) (LT 14))] (.cond (LT 15) (LS [LO 4 (.mv (LI (-1)))] .ret) .skip)) (LS [LO 4 (.mv (LI 1))] .ret)) .skip)) (.seq (LS [LM 16 0,LO 17 (.len (LT 16)),LO 18 (.bin .sub (LT 17) (LI 1)),LM 5 18] (.block 0 (.loop nZ))) (LS [LO 4 (.mv (LI 0))] .ret))))
def yV:aR:=⟨41,[(.tmp 4)],tX⟩
theorem MT:gD 155=some yV:=by kernel_rfl
def rG:aD:=(LS [LO 24 (.bin .lss (LT 23) (LT 22))] (.seq (.cond (LT 24) .skip (.exit 2)) (.seq (.block 3 (LS [LM 25 23,LM 8 25] (LS [LM 26 5,LM 27 6,LM 28 8,LO 29 (.bin .add (LT 27) (LT 28)),LO 30 (.iaddr 1 (LT 26) (LT 29)),LO 31 (LL 30),LM 32 0,LM 33 6,LO 34 (.iaddr 1 (LT 32) (LT 33)),LO 35 (LL 34),LM 36 1,LM 37 8,LO 38 (.iaddr 1 (LT 36) (LT 37)),LO 39 (LL 38),LO 40 (.bin .mul (LT 35) (LT 39)),LO 41 (.bin .add (LT 31) (LT 40)),LM 42 7,LO 43 (.bin .add (LT 41) (LT 42)),LM 9 43] (LS [LM 44 5,LM 45 6,LM 46 8,LO 47 (.bin .add (LT 45) (LT 46)),LM 48 9,LO 49 (.bin .rem (LT 48) (LI 1000000000)),LO 50 (.iaddr 1 (LT 44) (LT 47)),LN (.store 1 (LT 50) (LT 49))] (.dH [LM 51 9,LO 52 (.bin .quo (LT 51) (LI 1000000000)),LM 7 52]))))) (.dH [LO 53 (.bin .add (LT 23) (LI 1)),LM 23 53]))))
def sC:aD:=(LS [LO 19 (.bin .lss (LT 18) (LT 17))] (.seq (.cond (LT 19) .skip (.exit 0)) (.seq (.block 1 (LS [LM 20 18,LM 6 20] (LS [LO 7 (.mv (LI 0))] (.seq (LS [LM 21 1,LO 22 (.len (LT 21)),LO 23 (.mv (LI 0))] (.block 2 (.loop rG))) (.dH [LM 54 5,LM 55 6,LM 56 1,LO 57 (.len (LT 56)),LO 58 (.bin .add (LT 55) (LT 57)),LO 59 (.iaddr 1 (LT 54) (LT 58)),LO 60 (LL 59),LM 61 7,LO 62 (.bin .add (LT 60) (LT 61)),LO 63 (.iaddr 1 (LT 54) (LT 58)),LN (.store 1 (LT 63) (LT 62))]))))) (.dH [LO 64 (.bin .add (LT 18) (LI 1)),LM 18 64]))))
def A5:aD:=(LS [LO 4 (.mv (.const (.slice none 0 0)))] (LS [LM 10 0,LO 11 (.len (LT 10)),LM 12 1,LO 13 (.len (LT 12)),LO 14 (.bin .add (LT 11) (LT 13)),LO 15 (.make [(.int .i64 0)] 8 (LT 14) (LT 14)),LM 5 15] (.seq (LS [LM 16 0,LO 17 (.len (LT 16)),LO 18 (.mv (LI 0))] (.block 0 (.loop sC))) (LS [LM 65 5,LO 66 (.call 184 [(LT 65)]),LM 4 66] .ret))))
def Dp:aR:=⟨67,[(.tmp 4)],A5⟩
theorem Hj:gD 152=some Dp:=by kernel_rfl
def jV:aD:=(.seq (LS [LM 10 7,LM 11 0,LO 12 (.len (LT 11)),LO 13 (.bin .lss (LT 10) (LT 12)),LM 14 13,LZ 14 15 (.mv (LT 7)),LZ 14 16 (.mv (LT 1)),LZ 14 17 (.len (LT 16)),LZ 14 18 (.bin .lss (LT 15) (LT 17)),LO 19 (.pick (LT 14) LG (LT 18)),LM 20 19,LZ 20 21 (.mv (LT 6)),LZ 20 22 (.bin .gtr (LT 21) (LI 0)),LO 23 (.pick (LT 20) LG (LT 22))] (.cond (LT 23) .skip (.exit 0))) (.seq (.block 1 (LS [LM 26 0,LM 27 7,LO 28 (.call 186 [(LT 26),(LT 27)]),LM 29 1,LM 30 7,LO 31 (.call 186 [(LT 29),(LT 30)]),LO 32 (.bin .add (LT 28) (LT 31)),LM 33 6,LO 34 (.bin .add (LT 32) (LT 33)),LM 8 34] (LS [LM 35 5,LM 36 8,LO 37 (.bin .rem (LT 36) (LI 1000000000)),LO 38 (.lit [(.int .i64 0)] 1 [(0,(LT 37))]),LO 39 (.app 1 8 (LT 35) (LT 38)),LM 5 39] (.dH [LM 40 8,LO 41 (.bin .quo (LT 40) (LI 1000000000)),LM 6 41])))) (.dH [LM 24 7,LO 25 (.bin .add (LT 24) (LI 1)),LM 7 25])))
def AI:aD:=(LS [LO 4 (.mv (.const (.slice none 0 0)))] (LS [LO 9 (.lit [(.int .i64 0)] 0 []),LM 5 9] (LS [LO 6 (.mv (LI 0))] (.seq (LS [LO 7 (.mv (LI 0))] (.block 0 (.loop jV))) (LS [LM 42 5,LM 4 42] .ret)))))
def Du:aR:=⟨43,[(.tmp 4)],AI⟩
theorem HO:gD 154=some Du:=by kernel_rfl
def lT:aD:=(LS [LO 13 (.bin .lss (LT 12) (LT 11))] (.seq (.cond (LT 13) .skip (.exit 0)) (.seq (.block 1 (LS [LM 14 12,LM 7 14] (LS [LM 15 0,LM 16 7,LO 17 (.iaddr 1 (LT 15) (LT 16)),LO 18 (LL 17),LM 19 1,LM 20 7,LQ 21 (.call 186 [(LT 19),(LT 20)]),LO 22 (.bin .sub (LT 18) (LT 21)),LM 23 6,LO 24 (.bin .sub (LT 22) (LT 23)),LM 8 24] (LS [LO 6 (.mv (LI 0))] (.seq (LS [LM 25 8,LO 26 (.bin .lss (LT 25) (LI 0))] (.cond (LT 26) (LS [LM 27 8,LO 28 (.bin .add (LT 27) (LI 1000000000)),LM 8 28] (.dH [LO 6 (.mv (LI 1))])) .skip)) (.dH [LM 29 5,LM 30 8,LO 31 (.lit [(.int .i64 0)] 1 [(0,(LT 30))]),LO 32 (.app 1 8 (LT 29) (LT 31)),LM 5 32])))))) (.dH [LO 33 (.bin .add (LT 12) (LI 1)),LM 12 33]))))
def zO:aD:=(LS [LO 4 (.mv (.const (.slice none 0 0)))] (LS [LO 9 (.lit [(.int .i64 0)] 0 []),LM 5 9] (LS [LO 6 (.mv (LI 0))] (.seq (LS [LM 10 0,LO 11 (.len (LT 10)),LO 12 (.mv (LI 0))] (.block 0 (.loop lT))) (LS [LM 34 5,LO 35 (.call 184 [(LT 34)]),LM 4 35] .ret)))))
def B2:aR:=⟨36,[(.tmp 4)],zO⟩
theorem FH:gD 156=some B2:=by kernel_rfl
def xE:aD:=(.seq (LS [LM 5 0,LO 6 (.bin .gtr (LT 5) (LI 0))] (.cond (LT 6) .skip (.exit 0))) (.block 1 (LS [LM 7 3,LM 8 0,LO 9 (.bin .rem (LT 8) (LI 1000000000)),LO 10 (.lit [(.int .i64 0)] 1 [(0,(LT 9))]),LO 11 (.app 1 8 (LT 7) (LT 10)),LM 3 11] (.dH [LM 12 0,LO 13 (.bin .quo (LT 12) (LI 1000000000)),LM 0 13]))))
def EA:aD:=(LS [LO 2 (.mv (.const (.slice none 0 0)))] (LS [LO 4 (.lit [(.int .i64 0)] 0 []),LM 3 4] (.seq (.block 0 (.loop xE)) (LS [LM 14 3,LM 2 14] .ret))))
def I6:aR:=⟨15,[(.tmp 2)],EA⟩
theorem MC:gD 178=some I6:=by kernel_rfl
def bI:aD:=(LS [LO 2 (.new [(.bool false),(.slice none 0 0),(.slice none 0 0)]),LO 3 (.mv LF)] (LS [LM 8 0,LO 9 (.slen (LT 8)),LO 10 (.bin .gtr (LT 9) (LI 0)),LM 11 10,LY 11 12 (.mv (LT 0)),LY 11 13 (.sidx (LT 12) (LI 0)),LY 11 14 (.bin .eql (LT 13) (.const (.int .u8 45))),LO 15 (.pick (LT 11) (LT 14) LF),LM 4 15] (.seq (LS [LM 16 4] (.cond (LT 16) (.dH [LM 17 0,LO 18 (.ssub (LT 17) (some (LI 1)) none),LM 0 18]) .skip)) (LS [LM 19 0,LO 20 (.call 167 [(LT 19),(.const (.int .u8 47))]),LM 5 20] (.seq (LS [LM 21 5,LO 22 (.len (LT 21)),LO 23 (.bin .gtr (LT 22) (LI 2)),LM 24 23,LZ 24 25 (.mv (LT 5)),LZ 24 26 (.iaddr 1 (LT 25) (LI 0)),LZ 24 27 (LL 26),LZ 24 28 (.call 168 [(LT 27)]),LZ 24 29 (.un .not (LT 28)),LO 30 (.pick (LT 24) LG (LT 29))] (.cond (LT 30) (LS [LO 31 (.build [(.bool false),(.slice none 0 0),(.slice none 0 0)] [(0,1),(1,1),(2,1)] []),LN (.store 3 (LT 2) (LT 31)),LO 3 (.mv LF)] .ret) .skip)) (LS [LM 32 5,LO 33 (.iaddr 1 (LT 32) (LI 0)),LO 34 (LL 33),LO 35 (.call 169 [(LT 34)]),LM 6 35] (.seq (LS [LM 36 4,LM 37 36,LY 37 38 (.mv (LT 6)),LY 37 39 (.len (LT 38)),LY 37 40 (.bin .eql (LT 39) (LI 0)),LO 41 (.pick (LT 37) (LT 40) LF)] (.cond (LT 41) (LS [LO 42 (.build [(.bool false),(.slice none 0 0),(.slice none 0 0)] [(0,1),(1,1),(2,1)] []),LN (.store 3 (LT 2) (LT 42)),LO 3 (.mv LF)] .ret) .skip)) (.seq (LS [LM 43 5,LO 44 (.len (LT 43)),LO 45 (.bin .eql (LT 44) (LI 1))] (.cond (LT 45) (LS [LM 46 4,LM 47 6,LO 48 (.lit [(.int .i64 0)] 1 [(0,(LI 1))]),LO 49 (.build [(.bool false),(.slice none 0 0),(.slice none 0 0)] [(0,1),(1,1),(2,1)] [(0,(LT 46)),(1,(LT 47)),(2,(LT 48))]),LN (.store 3 (LT 2) (LT 49)),LO 3 (.mv LG)] .ret) .skip)) (.seq (LS [LM 50 5,LO 51 (.iaddr 1 (LT 50) (LI 1)),LO 52 (LL 51),LO 53 (.call 168 [(LT 52)]),LO 54 (.un .not (LT 53))] (.cond (LT 54) (LS [LO 55 (.build [(.bool false),(.slice none 0 0),(.slice none 0 0)] [(0,1),(1,1),(2,1)] []),LN (.store 3 (LT 2) (LT 55)),LO 3 (.mv LF)] .ret) .skip)) (LS [LM 56 5,LO 57 (.iaddr 1 (LT 56) (LI 1)),LO 58 (LL 57),LO 59 (.call 169 [(LT 58)]),LM 7 59] (.seq (LS [LM 60 7,LO 61 (.lit [(.int .i64 0)] 1 [(0,(LI 1))]),LO 62 (.call 155 [(LT 60),(LT 61)]),LO 63 (.bin .leq (LT 62) (LI 0)),LM 64 63,LZ 64 65 (.mv (LT 6)),LZ 64 66 (.mv (LT 7)),LZ 64 67 (.call 170 [(LT 65),(LT 66)]),LZ 64 68 (.lit [(.int .i64 0)] 1 [(0,(LI 1))]),LZ 64 69 (.call 155 [(LT 67),(LT 68)]),LZ 64 70 (.bin .neq (LT 69) (LI 0)),LO 71 (.pick (LT 64) LG (LT 70))] (.cond (LT 71) (LS [LO 72 (.build [(.bool false),(.slice none 0 0),(.slice none 0 0)] [(0,1),(1,1),(2,1)] []),LN (.store 3 (LT 2) (LT 72)),LO 3 (.mv LF)] .ret) .skip)) (LS [LM 73 4,LM 74 6,LM 75 7,LO 76 (.build [(.bool false),(.slice none 0 0),(.slice none 0 0)] [(0,1),(1,1),(2,1)] [(0,(LT 73)),(1,(LT 74)),(2,(LT 75))]),LN (.store 3 (LT 2) (LT 76)),LO 3 (.mv LG)] .ret))))))))))))
def bU:aR:=⟨77,[(.cell 2 true 3),(.tmp 3)],bI⟩
theorem Jr:gD 110=some bU:=by kernel_rfl
def xT:aD:=(LS [LO 1 (.box (LT 0)),LO 2 (.mv LF)] (LS [LO 3 (LA 1 1),LO 4 (LL 3),LO 5 (.call 208 [(LT 4)]),LO 6 (.slen (LT 5)),LO 7 (.bin .leq (LT 6) (LI 200)),LM 8 7,LY 8 9 (LA 2 1),LY 8 10 (LL 9),LY 8 11 (.call 208 [(LT 10)]),LY 8 12 (.slen (LT 11)),LY 8 13 (.bin .leq (LT 12) (LI 200)),LO 14 (.pick (LT 8) (LT 13) LF),LM 2 14] .ret))
def BI:aR:=⟨15,[(.tmp 2)],xT⟩
theorem L3:gD 188=some BI:=by kernel_rfl
def wL:aD:=(LS [LO 1 (.box (LT 0)),LO 2 (.mv (.const (.string ⟨#[]⟩)))] (LS [LO 4 (LA 1 1),LO 5 (LL 4),LO 6 (.call 208 [(LT 5)]),LM 3 6] (.seq (LS [LO 7 (LA 0 1),LO 8 (LL 7)] (.cond (LT 8) (.dH [LM 9 3,LO 10 (.bin .add (.const (.string ⟨#[45]⟩)) (LT 9)),LM 3 10]) .skip)) (.seq (LS [LO 11 (LA 2 1),LO 12 (LL 11),LO 13 (.lit [(.int .i64 0)] 1 [(0,(LI 1))]),LO 14 (.call 155 [(LT 12),(LT 13)]),LO 15 (.bin .neq (LT 14) (LI 0))] (.cond (LT 15) (.dH [LM 16 3,LO 17 (LA 2 1),LO 18 (LL 17),LO 19 (.call 208 [(LT 18)]),LO 20 (.bin .add (.const (.string ⟨#[47]⟩)) (LT 19)),LO 21 (.bin .add (LT 16) (LT 20)),LM 3 21]) .skip)) (LS [LM 22 3,LM 2 22] .ret)))))
def Bb:aR:=⟨23,[(.tmp 2)],wL⟩
theorem K2:gD 189=some Bb:=by kernel_rfl
def yF:aD:=(.seq (LS [LM 7 1,LO 8 (.len (LT 7)),LO 9 (.bin .gtr (LT 8) (LI 0))] (.cond (LT 9) .skip (.exit 0))) (.block 1 (LS [LM 11 0,LM 12 1,LO 13 (.call 185 [(LT 11),(LT 12)]),LM 10 13,LO 14 (LX 10 0),LO 15 (LX 10 1),LM 5 14,LM 6 15] (LS [LM 16 1,LM 0 16] (.dH [LM 17 6,LM 1 17])))))
def EK:aD:=(LS [LO 4 (.mv (.const (.slice none 0 0)))] (.seq (.block 0 (.loop yF)) (LS [LM 18 0,LM 4 18] .ret)))
def Jb:aR:=⟨19,[(.tmp 4)],EK⟩
theorem MY:gD 170=some Jb:=by kernel_rfl
def fZ:aD:=(.seq (LS [LM 132 19,LO 133 (.bin .geq (LT 132) (LI 1000000000)),LM 134 133,LZ 134 135 (.mv (LT 19)),LZ 134 136 (.mv (LT 14)),LZ 134 137 (.mv (LT 15)),LZ 134 138 (.bin .sub (LT 137) (LI 2)),LZ 134 139 (.iaddr 1 (LT 136) (LT 138)),LZ 134 140 (LL 139),LZ 134 141 (.bin .mul (LT 135) (LT 140)),LZ 134 142 (.mv (LT 20)),LZ 134 143 (.bin .mul (LT 142) (LI 1000000000)),LZ 134 144 (.mv (LT 13)),LZ 134 145 (.mv (LT 17)),LZ 134 146 (.mv (LT 15)),LZ 134 147 (.bin .add (LT 145) (LT 146)),LZ 134 148 (.bin .sub (LT 147) (LI 2)),LZ 134 149 (.iaddr 1 (LT 144) (LT 148)),LZ 134 150 (LL 149),LZ 134 151 (.bin .add (LT 143) (LT 150)),LZ 134 152 (.bin .gtr (LT 141) (LT 151)),LO 153 (.pick (LT 134) LG (LT 152))] (.cond (LT 153) .skip (.exit 2))) (.block 3 (LS [LM 154 19,LO 155 (.bin .sub (LT 154) (LI 1)),LM 19 155] (LS [LM 156 20,LM 157 14,LM 158 15,LO 159 (.bin .sub (LT 158) (LI 1)),LO 160 (.iaddr 1 (LT 157) (LT 159)),LO 161 (LL 160),LO 162 (.bin .add (LT 156) (LT 161)),LM 20 162] (LS [LM 163 20,LO 164 (.bin .geq (LT 163) (LI 1000000000))] (.cond (LT 164) (.exit 2) .skip))))))
def iB:aD:=(.seq (LS [LM 99 17,LO 100 (.bin .geq (LT 99) (LI 0))] (.cond (LT 100) .skip (.exit 0))) (.seq (.block 1 (LS [LM 103 13,LM 104 17,LM 105 15,LO 106 (.bin .add (LT 104) (LT 105)),LO 107 (.iaddr 1 (LT 103) (LT 106)),LO 108 (LL 107),LO 109 (.bin .mul (LT 108) (LI 1000000000)),LM 110 13,LM 111 17,LM 112 15,LO 113 (.bin .add (LT 111) (LT 112)),LO 114 (.bin .sub (LT 113) (LI 1)),LO 115 (.iaddr 1 (LT 110) (LT 114)),LO 116 (LL 115),LO 117 (.bin .add (LT 109) (LT 116)),LM 18 117] (LS [LM 118 18,LM 119 14,LM 120 15,LO 121 (.bin .sub (LT 120) (LI 1)),LO 122 (.iaddr 1 (LT 119) (LT 121)),LO 123 (LL 122),LO 124 (.bin .quo (LT 118) (LT 123)),LM 125 18,LM 126 14,LM 127 15,LO 128 (.bin .sub (LT 127) (LI 1)),LO 129 (.iaddr 1 (LT 126) (LT 128)),LO 130 (LL 129),LO 131 (.bin .rem (LT 125) (LT 130)),LM 19 124,LM 20 131] (.seq (.block 2 (.loop fZ)) (.seq (LS [LM 165 13,LM 166 14,LM 167 17,LM 168 19,LO 169 (.call 204 [(LT 165),(LT 166),(LT 167),(LT 168)])] (.cond (LT 169) (LS [LM 170 19,LO 171 (.bin .sub (LT 170) (LI 1)),LM 19 171] (.dH [LM 172 13,LM 173 14,LM 174 17,LO 175 (.call 205 [(LT 172),(LT 173),(LT 174)])])) .skip)) (.dH [LM 176 16,LM 177 17,LM 178 19,LO 179 (.iaddr 1 (LT 176) (LT 177)),LN (.store 1 (LT 179) (LT 178))])))))) (.dH [LM 101 17,LO 102 (.bin .sub (LT 101) (LI 1)),LM 17 102])))
def dK:aD:=(LS [LO 4 (.mv (.const (.slice none 0 0))),LO 5 (.mv (.const (.slice none 0 0)))] (LS [LM 24 0,LO 25 (.call 201 [(LT 24)]),LM 23 25,LO 26 (LX 23 0),LO 27 (LX 23 1),LM 6 26,LM 7 27] (LS [LM 29 1,LO 30 (.call 201 [(LT 29)]),LM 28 30,LO 31 (LX 28 0),LO 32 (LX 28 1),LM 8 31,LM 9 32] (.seq (LS [LM 33 7,LM 34 33,LY 34 35 (.mv (LT 9)),LO 36 (.pick (LT 34) (LT 35) LF)] (.cond (LT 36) (LS [LM 37 6,LM 38 8,LO 39 (.bin .quo (LT 37) (LT 38)),LQ 40 (.call 178 [(LT 39)]),LM 41 6,LM 42 8,LO 43 (.bin .rem (LT 41) (LT 42)),LQ 44 (.call 178 [(LT 43)]),LM 4 40,LM 5 44] .ret) .skip)) (.seq (LS [LM 45 0,LM 46 1,LO 47 (.call 155 [(LT 45),(LT 46)]),LO 48 (.bin .lss (LT 47) (LI 0))] (.cond (LT 48) (LS [LO 49 (.lit [(.int .i64 0)] 0 []),LO 50 (.lit [(.int .i64 0)] 0 []),LM 51 0,LO 52 (.app 1 8 (LT 50) (LT 51)),LM 4 49,LM 5 52] .ret) .skip)) (.seq (LS [LM 53 1,LO 54 (.len (LT 53)),LO 55 (.bin .eql (LT 54) (LI 1))] (.cond (LT 55) (LS [LM 57 0,LM 58 1,LO 59 (.iaddr 1 (LT 58) (LI 0)),LO 60 (LL 59),LO 61 (.call 202 [(LT 57),(LT 60)]),LM 56 61,LO 62 (LX 56 0),LO 63 (LX 56 1),LM 10 62,LM 11 63] (LS [LM 64 10,LM 65 11,LO 66 (.call 178 [(LT 65)]),LM 4 64,LM 5 66] .ret)) .skip)) (LS [LM 67 1,LM 68 1,LO 69 (.len (LT 68)),LO 70 (.bin .sub (LT 69) (LI 1)),LO 71 (.iaddr 1 (LT 67) (LT 70)),LO 72 (LL 71),LO 73 (.bin .add (LT 72) (LI 1)),LO 74 (.bin .quo (LI 1000000000) (LT 73)),LM 12 74] (LS [LM 75 0,LO 76 (.len (LT 75)),LO 77 (.bin .add (LT 76) (LI 1)),LO 78 (.make [(.int .i64 0)] 8 (LT 77) (LT 77)),LM 13 78] (LS [LM 79 13,LM 80 0,LM 81 12,LO 82 (.call 203 [(LT 80),(LT 81)]),LO 83 (.copy 1 (LT 79) (LT 82))] (LS [LM 84 1,LM 85 12,LO 86 (.call 203 [(LT 84),(LT 85)]),LM 14 86] (LS [LM 87 14,LO 88 (.len (LT 87)),LM 15 88] (LS [LM 89 13,LO 90 (.len (LT 89)),LM 91 15,LO 92 (.bin .sub (LT 90) (LT 91)),LO 93 (.make [(.int .i64 0)] 8 (LT 92) (LT 92)),LM 16 93] (.seq (LS [LM 94 13,LO 95 (.len (LT 94)),LM 96 15,LO 97 (.bin .sub (LT 95) (LT 96)),LO 98 (.bin .sub (LT 97) (LI 1)),LM 17 98] (.block 0 (.loop iB))) (LS [LM 181 13,LO 182 (.call 184 [(LT 181)]),LM 183 12,LO 184 (.call 202 [(LT 182),(LT 183)]),LM 180 184,LO 185 (LX 180 0),LO 186 (LX 180 1),LM 21 185,LM 22 186] (LS [LM 187 16,LO 188 (.call 184 [(LT 187)]),LM 189 21,LM 4 188,LM 5 189] .ret)))))))))))))))
def fA:aR:=⟨190,[(.tmp 4),(.tmp 5)],dK⟩
theorem Ij:gD 185=some fA:=by kernel_rfl
def qC:aD:=(.seq (LS [LM 3 0,LO 4 (.len (LT 3)),LO 5 (.bin .gtr (LT 4) (LI 0)),LM 6 5,LY 6 7 (.mv (LT 0)),LY 6 8 (.mv (LT 0)),LY 6 9 (.len (LT 8)),LY 6 10 (.bin .sub (LT 9) (LI 1)),LY 6 11 (.iaddr 1 (LT 7) (LT 10)),LY 6 12 (LL 11),LY 6 13 (.bin .eql (LT 12) (LI 0)),LO 14 (.pick (LT 6) (LT 13) LF)] (.cond (LT 14) .skip (.exit 0))) (.block 1 (.dH [LM 15 0,LM 16 0,LO 17 (.len (LT 16)),LO 18 (.bin .sub (LT 17) (LI 1)),LO 19 (.sub 1 (LT 15) none (some (LT 18)) none),LM 0 19])))
def CE:aD:=(LS [LO 2 (.mv (.const (.slice none 0 0)))] (.seq (.block 0 (.loop qC)) (LS [LM 20 0,LM 2 20] .ret)))
def FA:aR:=⟨21,[(.tmp 2)],CE⟩
theorem K3:gD 184=some FA:=by kernel_rfl
def uO:aD:=(LS [LO 4 (.mv (LI 0))] (.seq (LS [LM 5 1,LM 6 0,LO 7 (.len (LT 6)),LO 8 (.bin .lss (LT 5) (LT 7))] (.cond (LT 8) (LS [LM 9 0,LM 10 1,LO 11 (.iaddr 1 (LT 9) (LT 10)),LO 12 (LL 11),LM 4 12] .ret) .skip)) (LS [LO 4 (.mv (LI 0))] .ret)))
def zQ:aR:=⟨13,[(.tmp 4)],uO⟩
theorem Je:gD 186=some zQ:=by kernel_rfl
def oH:aD:=(.seq (LS [LM 9 7,LM 10 0,LO 11 (.slen (LT 10)),LO 12 (.bin .leq (LT 9) (LT 11))] (.cond (LT 12) .skip (.exit 0))) (.seq (.block 1 (LS [LM 15 7,LM 16 0,LO 17 (.slen (LT 16)),LO 18 (.bin .eql (LT 15) (LT 17)),LM 19 18,LZ 19 20 (.mv (LT 0)),LZ 19 21 (.mv (LT 7)),LZ 19 22 (.sidx (LT 20) (LT 21)),LZ 19 23 (.mv (LT 1)),LZ 19 24 (.bin .eql (LT 22) (LT 23)),LO 25 (.pick (LT 19) LG (LT 24))] (.cond (LT 25) (LS [LM 26 5,LM 27 0,LM 28 6,LM 29 7,LO 30 (.ssub (LT 27) (some (LT 28)) (some (LT 29))),LO 31 (.lit [(.string ⟨#[]⟩)] 1 [(0,(LT 30))]),LO 32 (.app 1 16 (LT 26) (LT 31)),LM 5 32] (.dH [LM 33 7,LO 34 (.bin .add (LT 33) (LI 1)),LM 6 34])) .skip))) (.dH [LM 13 7,LO 14 (.bin .add (LT 13) (LI 1)),LM 7 14])))
def EH:aD:=(LS [LO 4 (.mv (.const (.slice none 0 0)))] (LS [LO 8 (.lit [(.string ⟨#[]⟩)] 0 []),LM 5 8] (LS [LO 6 (.mv (LI 0))] (.seq (LS [LO 7 (.mv (LI 0))] (.block 0 (.loop oH))) (LS [LM 35 5,LM 4 35] .ret)))))
def It:aR:=⟨36,[(.tmp 4)],EH⟩
theorem M3:gD 167=some It:=by kernel_rfl
def dM:aD:=(.seq (LS [LM 4 3,LM 5 0,LO 6 (.slen (LT 5)),LO 7 (.bin .lss (LT 4) (LT 6))] (.cond (LT 7) .skip (.exit 0))) (.seq (.block 1 (LS [LM 10 0,LM 11 3,LO 12 (.sidx (LT 10) (LT 11)),LO 13 (.bin .lss (LT 12) (.const (.int .u8 48))),LM 14 13,LZ 14 15 (.mv (LT 0)),LZ 14 16 (.mv (LT 3)),LZ 14 17 (.sidx (LT 15) (LT 16)),LZ 14 18 (.bin .gtr (LT 17) (.const (.int .u8 57))),LO 19 (.pick (LT 14) LG (LT 18))] (.cond (LT 19) (LS [LO 2 (.mv LF)] .ret) .skip))) (.dH [LM 8 3,LO 9 (.bin .add (LT 8) (LI 1)),LM 3 9])))
def A7:aD:=(LS [LO 2 (.mv LF)] (.seq (LS [LO 3 (.mv (LI 0))] (.block 0 (.loop dM))) (LS [LM 20 0,LO 21 (.slen (LT 20)),LO 22 (.bin .geq (LT 21) (LI 1)),LM 23 22,LY 23 24 (.mv (LT 0)),LY 23 25 (.slen (LT 24)),LY 23 26 (.bin .leq (LT 25) (LI 200)),LO 27 (.pick (LT 23) (LT 26) LF),LM 28 27,LY 28 29 (.mv (LT 0)),LY 28 30 (.slen (LT 29)),LY 28 31 (.bin .eql (LT 30) (LI 1)),LY 28 32 (.mv (LT 31)),LZ 32 33 (.mv (LT 0)),LZ 32 34 (.sidx (LT 33) (LI 0)),LZ 32 35 (.bin .neq (LT 34) (.const (.int .u8 48))),LY 28 36 (.pick (LT 32) LG (LT 35)),LO 37 (.pick (LT 28) (LT 36) LF),LM 2 37] .ret)))
def Dt:aR:=⟨38,[(.tmp 2)],A7⟩
theorem HZ:gD 168=some Dt:=by kernel_rfl
def mA:aD:=(.seq (LS [LM 20 7,LM 21 4,LO 22 (.bin .lss (LT 20) (LT 21))] (.cond (LT 22) .skip (.exit 2))) (.seq (.block 3 (.dH [LM 25 6,LO 26 (.bin .mul (LI 10) (LT 25)),LM 27 0,LM 28 7,LO 29 (.sidx (LT 27) (LT 28)),LO 30 (.bin .sub (LT 29) (.const (.int .u8 48))),LO 31 (.cvt .i64 (LT 30)),LO 32 (.bin .add (LT 26) (LT 31)),LM 6 32])) (.dH [LM 23 7,LO 24 (.bin .add (LT 23) (LI 1)),LM 7 24])))
def mD:aD:=(.seq (LS [LM 11 4,LO 12 (.bin .gtr (LT 11) (LI 0))] (.cond (LT 12) .skip (.exit 0))) (.seq (.block 1 (LS [LO 5 (.mv (LI 0))] (.seq (LS [LM 15 4,LO 16 (.bin .gtr (LT 15) (LI 9))] (.cond (LT 16) (.dH [LM 17 4,LO 18 (.bin .sub (LT 17) (LI 9)),LM 5 18]) .skip)) (LS [LO 6 (.mv (LI 0))] (.seq (LS [LM 19 5,LM 7 19] (.block 2 (.loop mA))) (.dH [LM 33 3,LM 34 6,LO 35 (.lit [(.int .i64 0)] 1 [(0,(LT 34))]),LO 36 (.app 1 8 (LT 33) (LT 35)),LM 3 36])))))) (.dH [LM 13 4,LO 14 (.bin .sub (LT 13) (LI 9)),LM 4 14])))
def yR:aD:=(LS [LO 2 (.mv (.const (.slice none 0 0)))] (LS [LO 8 (.lit [(.int .i64 0)] 0 []),LM 3 8] (.seq (LS [LM 9 0,LO 10 (.slen (LT 9)),LM 4 10] (.block 0 (.loop mD))) (LS [LM 37 3,LO 38 (.call 184 [(LT 37)]),LM 2 38] .ret))))
def BV:aR:=⟨39,[(.tmp 2)],yR⟩
theorem FM:gD 169=some BV:=by kernel_rfl
def qN:aD:=(.seq (LS [LM 19 4,LO 20 (.bin .geq (LT 19) (LI 0))] (.cond (LT 20) .skip (.exit 0))) (.seq (.block 1 (LS [LM 23 0,LM 24 4,LO 25 (.iaddr 1 (LT 23) (LT 24)),LO 26 (LL 25),LO 27 (.bin .add (LT 26) (LI 1000000000)),LO 28 (.call 219 [(LT 27)]),LM 5 28] (.dH [LM 29 3,LM 30 5,LO 31 (.ssub (LT 30) (some (LI 1)) none),LO 32 (.bin .add (LT 29) (LT 31)),LM 3 32]))) (.dH [LM 21 4,LO 22 (.bin .sub (LT 21) (LI 1)),LM 4 22])))
def rB:aD:=(LS [LO 2 (.mv (.const (.string ⟨#[]⟩)))] (.seq (LS [LM 6 0,LO 7 (.len (LT 6)),LO 8 (.bin .eql (LT 7) (LI 0))] (.cond (LT 8) (LS [LO 2 (.mv (.const (.string ⟨#[48]⟩)))] .ret) .skip)) (LS [LM 9 0,LM 10 0,LO 11 (.len (LT 10)),LO 12 (.bin .sub (LT 11) (LI 1)),LO 13 (.iaddr 1 (LT 9) (LT 12)),LO 14 (LL 13),LO 15 (.call 219 [(LT 14)]),LM 3 15] (.seq (LS [LM 16 0,LO 17 (.len (LT 16)),LO 18 (.bin .sub (LT 17) (LI 2)),LM 4 18] (.block 0 (.loop qN))) (LS [LM 33 3,LM 2 33] .ret)))))
def uP:aR:=⟨34,[(.tmp 2)],rB⟩
theorem Gk:gD 208=some uP:=by kernel_rfl
def uX:aD:=(LS [LO 2 (.mv (LI 0)),LO 3 (.mv LF)] (.seq (LS [LM 4 0,LO 5 (.len (LT 4)),LO 6 (.bin .gtr (LT 5) (LI 2))] (.cond (LT 6) (LS [LO 2 (.mv (LI 0)),LO 3 (.mv LF)] .ret) .skip)) (LS [LM 7 0,LO 8 (.call 186 [(LT 7),(LI 0)]),LM 9 0,LO 10 (.call 186 [(LT 9),(LI 1)]),LO 11 (.bin .mul (LI 1000000000) (LT 10)),LO 12 (.bin .add (LT 8) (LT 11)),LM 2 12,LO 3 (.mv LG)] .ret)))
def Aa:aR:=⟨13,[(.tmp 2),(.tmp 3)],uX⟩
theorem Jp:gD 201=some Aa:=by kernel_rfl
def pC:aD:=(.seq (LS [LM 16 8,LO 17 (.bin .geq (LT 16) (LI 0))] (.cond (LT 17) .skip (.exit 0))) (.seq (.block 1 (LS [LM 20 7,LO 21 (.bin .mul (LT 20) (LI 1000000000)),LM 22 0,LM 23 8,LO 24 (.iaddr 1 (LT 22) (LT 23)),LO 25 (LL 24),LO 26 (.bin .add (LT 21) (LT 25)),LM 9 26] (LS [LM 27 6,LM 28 8,LM 29 9,LM 30 1,LO 31 (.bin .quo (LT 29) (LT 30)),LO 32 (.iaddr 1 (LT 27) (LT 28)),LN (.store 1 (LT 32) (LT 31))] (.dH [LM 33 9,LM 34 1,LO 35 (.bin .rem (LT 33) (LT 34)),LM 7 35])))) (.dH [LM 18 8,LO 19 (.bin .sub (LT 18) (LI 1)),LM 8 19])))
def xV:aD:=(LS [LO 4 (.mv (.const (.slice none 0 0))),LO 5 (.mv (LI 0))] (LS [LM 10 0,LO 11 (.len (LT 10)),LO 12 (.make [(.int .i64 0)] 8 (LT 11) (LT 11)),LM 6 12] (LS [LO 7 (.mv (LI 0))] (.seq (LS [LM 13 0,LO 14 (.len (LT 13)),LO 15 (.bin .sub (LT 14) (LI 1)),LM 8 15] (.block 0 (.loop pC))) (LS [LM 36 6,LO 37 (.call 184 [(LT 36)]),LM 38 7,LM 4 37,LM 5 38] .ret)))))
def Ap:aR:=⟨39,[(.tmp 4),(.tmp 5)],xV⟩
theorem E6:gD 202=some Ap:=by kernel_rfl
def kM:aD:=(LS [LO 17 (.bin .lss (LT 16) (LT 15))] (.seq (.cond (LT 17) .skip (.exit 0)) (.seq (.block 1 (LS [LO 18 (.iaddr 1 (LT 14) (LT 16)),LO 19 (LL 18),LM 8 19] (LS [LM 20 8,LM 21 1,LO 22 (.bin .mul (LT 20) (LT 21)),LM 23 6,LO 24 (.bin .add (LT 22) (LT 23)),LM 9 24] (LS [LM 25 5,LM 26 9,LO 27 (.bin .rem (LT 26) (LI 1000000000)),LO 28 (.lit [(.int .i64 0)] 1 [(0,(LT 27))]),LO 29 (.app 1 8 (LT 25) (LT 28)),LM 5 29] (.dH [LM 30 9,LO 31 (.bin .quo (LT 30) (LI 1000000000)),LM 6 31]))))) (.dH [LO 32 (.bin .add (LT 16) (LI 1)),LM 16 32]))))
def xP:aD:=(LS [LO 4 (.mv (.const (.slice none 0 0)))] (LS [LM 10 0,LO 11 (.len (LT 10)),LO 12 (.bin .add (LT 11) (LI 1)),LO 13 (.make [(.int .i64 0)] 8 (LI 0) (LT 12)),LM 5 13] (LS [LO 6 (.mv (LI 0))] (.seq (LS [LM 14 0,LO 15 (.len (LT 14)),LO 16 (.mv (LI 0))] (.block 0 (.loop kM))) (.seq (LS [LM 33 6,LO 34 (.bin .gtr (LT 33) (LI 0))] (.cond (LT 34) (.dH [LM 35 5,LM 36 6,LO 37 (.lit [(.int .i64 0)] 1 [(0,(LT 36))]),LO 38 (.app 1 8 (LT 35) (LT 37)),LM 5 38]) .skip)) (LS [LM 39 5,LM 4 39] .ret))))))
def A4:aR:=⟨40,[(.tmp 4)],xP⟩
theorem Fm:gD 203=some A4:=by kernel_rfl
def jC:aD:=(LS [LO 16 (.bin .lss (LT 15) (LT 14))] (.seq (.cond (LT 16) .skip (.exit 0)) (.seq (.block 1 (LS [LM 17 15,LO 18 (.iaddr 1 (LT 13) (LT 15)),LO 19 (LL 18),LM 10 17,LM 11 19] (LS [LM 20 0,LM 21 2,LM 22 10,LO 23 (.bin .add (LT 21) (LT 22)),LO 24 (.iaddr 1 (LT 20) (LT 23)),LO 25 (LL 24),LM 26 11,LM 27 3,LO 28 (.bin .mul (LT 26) (LT 27)),LO 29 (.bin .rem (LT 28) (LI 1000000000)),LO 30 (.bin .sub (LT 25) (LT 29)),LM 31 9,LO 32 (.bin .sub (LT 30) (LT 31)),LM 12 32] (LS [LM 33 11,LM 34 3,LO 35 (.bin .mul (LT 33) (LT 34)),LO 36 (.bin .quo (LT 35) (LI 1000000000)),LM 9 36] (.seq (LS [LM 37 12,LO 38 (.bin .lss (LT 37) (LI 0))] (.cond (LT 38) (LS [LM 39 12,LO 40 (.bin .add (LT 39) (LI 1000000000)),LM 12 40] (LS [LM 41 9,LO 42 (.bin .add (LT 41) (LI 1)),LM 9 42] (LS [LM 43 12,LO 44 (.bin .lss (LT 43) (LI 0))] (.cond (LT 44) (LS [LM 45 12,LO 46 (.bin .add (LT 45) (LI 1000000000)),LM 12 46] (.dH [LM 47 9,LO 48 (.bin .add (LT 47) (LI 1)),LM 9 48])) .skip)))) .skip)) (.dH [LM 49 0,LM 50 2,LM 51 10,LO 52 (.bin .add (LT 50) (LT 51)),LM 53 12,LO 54 (.iaddr 1 (LT 49) (LT 52)),LN (.store 1 (LT 54) (LT 53))])))))) (.dH [LO 55 (.bin .add (LT 15) (LI 1)),LM 15 55]))))
def zI:aD:=(LS [LO 8 (.mv LF)] (LS [LO 9 (.mv (LI 0))] (.seq (LS [LM 13 1,LO 14 (.len (LT 13)),LO 15 (.mv (LI 0))] (.block 0 (.loop jC))) (LS [LM 56 0,LM 57 2,LM 58 1,LO 59 (.len (LT 58)),LO 60 (.bin .add (LT 57) (LT 59)),LO 61 (.iaddr 1 (LT 56) (LT 60)),LO 62 (LL 61),LM 63 9,LO 64 (.bin .sub (LT 62) (LT 63)),LO 65 (.iaddr 1 (LT 56) (LT 60)),LN (.store 1 (LT 65) (LT 64))] (LS [LM 66 0,LM 67 2,LM 68 1,LO 69 (.len (LT 68)),LO 70 (.bin .add (LT 67) (LT 69)),LO 71 (.iaddr 1 (LT 66) (LT 70)),LO 72 (LL 71),LO 73 (.bin .lss (LT 72) (LI 0)),LM 8 73] .ret)))))
def Cd:aR:=⟨74,[(.tmp 8)],zI⟩
theorem FD:gD 204=some Cd:=by kernel_rfl
def qS:aD:=(LS [LO 13 (.bin .lss (LT 12) (LT 11))] (.seq (.cond (LT 13) .skip (.exit 0)) (.seq (.block 1 (LS [LM 14 12,LO 15 (.iaddr 1 (LT 10) (LT 12)),LO 16 (LL 15),LM 7 14,LM 8 16] (LS [LM 17 0,LM 18 2,LM 19 7,LO 20 (.bin .add (LT 18) (LT 19)),LO 21 (.iaddr 1 (LT 17) (LT 20)),LO 22 (LL 21),LM 23 8,LO 24 (.bin .add (LT 22) (LT 23)),LM 25 6,LO 26 (.bin .add (LT 24) (LT 25)),LM 9 26] (LS [LM 27 9,LO 28 (.bin .quo (LT 27) (LI 1000000000)),LM 6 28] (.dH [LM 29 0,LM 30 2,LM 31 7,LO 32 (.bin .add (LT 30) (LT 31)),LM 33 9,LO 34 (.bin .rem (LT 33) (LI 1000000000)),LO 35 (.iaddr 1 (LT 29) (LT 32)),LN (.store 1 (LT 35) (LT 34))]))))) (.dH [LO 36 (.bin .add (LT 12) (LI 1)),LM 12 36]))))
def zA:aD:=(LS [LO 6 (.mv (LI 0))] (.seq (LS [LM 10 1,LO 11 (.len (LT 10)),LO 12 (.mv (LI 0))] (.block 0 (.loop qS))) (.dH [LM 37 0,LM 38 2,LM 39 1,LO 40 (.len (LT 39)),LO 41 (.bin .add (LT 38) (LT 40)),LO 42 (.iaddr 1 (LT 37) (LT 41)),LO 43 (LL 42),LM 44 6,LO 45 (.bin .add (LT 43) (LT 44)),LO 46 (.iaddr 1 (LT 37) (LT 41)),LN (.store 1 (LT 46) (LT 45))])))
def B7:aR:=⟨47,[],zA⟩
theorem GU:gD 205=some B7:=by kernel_rfl
def jD:aD:=(.seq (LS [LM 8 3,LO 9 (.len (LT 8)),LO 10 (.bin .eql (LT 9) (LI 0)),LM 11 10,LZ 11 12 (.mv (LT 4)),LZ 11 13 (.bin .neq (LT 12) (LI 0)),LO 14 (.pick (LT 11) LG (LT 13))] (.cond (LT 14) .skip (.exit 0))) (.block 1 (LS [LM 15 4,LO 16 (.bin .rem (LT 15) (LI 10)),LM 5 16] (.seq (LS [LM 17 5,LO 18 (.bin .lss (LT 17) (LI 0))] (.cond (LT 18) (.dH [LM 19 5,LO 20 (.un .neg (LT 19)),LM 5 20]) .skip)) (LS [LM 21 5,LO 22 (.bin .add (LI 48) (LT 21)),LO 23 (.cvt .u8 (LT 22)),LO 24 (.lit [(.int .u8 0)] 1 [(0,(LT 23))]),LM 25 3,LO 26 (.app 1 1 (LT 24) (LT 25)),LM 3 26] (.dH [LM 27 4,LO 28 (.bin .quo (LT 27) (LI 10)),LM 4 28]))))))
def EC:aD:=(LS [LO 2 (.mv (.const (.string ⟨#[]⟩)))] (LS [LO 6 (.lit [(.int .u8 0)] 0 []),LM 3 6] (LS [LM 7 0,LM 4 7] (.seq (.block 0 (.loop jD)) (.seq (LS [LM 29 0,LO 30 (.bin .lss (LT 29) (LI 0))] (.cond (LT 30) (.dH [LO 31 (.lit [(.int .u8 0)] 1 [(0,(.const (.int .u8 45)))]),LM 32 3,LO 33 (.app 1 1 (LT 31) (LT 32)),LM 3 33]) .skip)) (LS [LM 34 3,LO 35 (.b2s (LT 34)),LM 2 35] .ret))))))
def IS:aR:=⟨36,[(.tmp 2)],EC⟩
theorem MD:gD 219=some IS:=by kernel_rfl
end Go.PM
namespace Go.PM
open Go.Lib
def d10 (n:Nat):UInt8:=UInt8.ofNat (48+n)
def Cg:Nat→Nat→List UInt8
 | 0,_=>[]
 | k+1,r=>Cg k (r / 10)++[d10 (r % 10)]
theorem iD {n:Nat} (h:n<10):decDigits n=[d10 n]:=by rw[decDigits,dif_pos h];rfl
theorem zG {n:Nat} (h:¬n<10):decDigits n=decDigits (n / 10)++[d10 (n % 10)]:=by rw[decDigits,dif_neg h];rfl
theorem Py (n:Nat):decDigits n≠[]:=by
 by_cases h:n<10
 ·rw[iD h];simp
 ·rw[zG h];simp
theorem afS (k r:Nat):(Cg k r).length=k:=by
 induction k generalizing r with
 | zero=>rfl
 | succ k ih=>rw[Cg,List.length_append,ih];rfl
theorem Y9 (k:Nat):Cg k 0=List.replicate k 48:=by
 induction k with
 | zero=>rfl
 | succ k ih=>rw[Cg,ih,List.replicate_succ'];rfl
theorem aeR {q:Nat} (hq:0<q) (k r:Nat) (hr:r<10^k):decDigits (q*10^k+r)=decDigits q++Cg k r:=by
 induction k generalizing r with
 |
  zero =>
  have:r=0:=by simp at hr;exact hr
  subst this
  simp[Cg]
 |
  succ k ih =>
  rw[Nat.pow_succ] at hr ⊢
  have hp:0<10^k:=Nat.pow_pos (by decide)
  have h1:q*(10^k*10)=10*(q*10^k):=by grind
  have h2:1*1≤q*10^k:=Nat.mul_le_mul hq hp
  rw[zG (by omega),h1,show (10*(q*10^k)+r) / 10=q*10^k+r / 10 by omega,show (10*(q*10^k)+r) % 10=r % 10 by omega,ih (r / 10) (by omega),Cg,List.append_assoc]
theorem aiY (k r:Nat) (hr:r<10^(k+1)):Cg (k+1) r=List.replicate (k+1-(decDigits r).length) 48++decDigits r:=by
 induction k generalizing r with
 |
  zero =>
  have h:r<10:=by simpa using hr
  rw[iD h,Cg,Cg,Nat.mod_eq_of_lt h]
  rfl
 |
  succ k ih =>
  rw[Cg]
  by_cases h:r<10
  ·rw[show r / 10=0 by omega,Y9,iD h,Nat.mod_eq_of_lt h]
   rfl
  ·rw[ih (r / 10) (by rw[Nat.pow_succ] at hr;omega),zG h,List.append_assoc,List.length_append]
   congr 2
   simp only[List.length_cons,List.length_nil]
   omega
theorem yG (n:Nat) (k:Nat) (h:n<10^(k+1)):(decDigits n).length≤k+1:=by
 rw[decDigits_length]
 induction k generalizing n with
 | zero=>rw[nDigits_small (by simpa using h)];exact Nat.le_refl _
 |
  succ k ih =>
  by_cases hn:n<10
  ·rw[nDigits_small hn];omega
  ·rw[nDigits_big hn]
   have:=ih (n / 10) (by rw[Nat.pow_succ] at h;omega)
   omega
theorem GY {q r:Nat} (hq:0<q) (hr:r<1000000000):decDigits (q*1000000000+r)=decDigits q++Cg 9 r:=aeR hq 9 r hr
theorem afO {r:Nat} (hr:r<1000000000):decDigits (r+1000000000)=d10 1::Cg 9 r:=by
 have:=GY (q:=1) (by decide) hr
 rw[show r+1000000000=1*1000000000+r by omega,this,iD (by decide)]
 rfl
theorem TA (xs:List (List UInt8)):join xs []=xs.flatten:=by
 induction xs with
 | nil=>rfl
 |
  cons x xs ih =>
  unfold join at ih ⊢
  cases xs with
  | nil=>simp[List.intercalate]
  |
   cons y ys =>
   rw[List.flatten_cons,←ih]
   simp[List.intercalate,List.intersperse]
end Go.PM
namespace Go.PM
abbrev aU (l:List UInt8):VV := .sc (.string ⟨l.toArray⟩)
theorem VT.Aj {f:Nat} {p:List Value→aE→Option Value} {args:List VV} {r:VV} (hp:Ja f=some p) (h:∀(V:View) (dY:List Value),VL V args dY→∃pv,p dY V.P=some pv∧∀V',VR V' r pv):VT f args r:=by
 intro F P dY dW hF hl aeG
 obtain⟨pv,h1,h2⟩:=h (bare F P) dY hl
 have e:qO f dY dW P=some (pv,P):=by
  show call cfg gD f dY dW P=some (pv,P)
  rw[W1 (E:=cfg) (T:=gD) hp]
  have X7:p dY P=some pv:=h1
  rw[X7]
  rfl
 exact⟨P,pv,e,List.prefix_refl _,h2 _⟩
theorem TC.Aj {f:Nat} {p:List Value→aE→Option Value} {args:List VV} {r:VV} (hp:Ja f=some p) (hr:AN.contains f=false) (ha:aL args=true) (Ti:gZ r=true) (h:∀(V:View) (dY:List Value),VL V args dY→∃pv,p dY V.P=some pv∧∀V',VR V' r pv):TC f args r :=
 TC.of hr ha (ahQ ha Ti (VT.Aj hp h))
theorem VL.one {V:View} {x:Value} {ps:List Value} (h:VL V [.sc x] ps):ps=[x]:=by
 cases h with
 |
  cons _ v _ vs h hs =>
  cases h
  cases hs
  rfl
theorem VL.two {V:View} {x y:Value} {ps:List Value} (h:VL V [.sc x,.sc y] ps):ps=[x,y]:=by
 cases h with
 |
  cons _ v _ vs h hs =>
  cases h
  rw[hs.one]
theorem VL.three {V:View} {x y z:Value} {ps:List Value} (h:VL V [.sc x,.sc y,.sc z] ps):ps=[x,y,z]:=by
 cases h with
 |
  cons _ v _ vs h hs =>
  cases h
  rw[hs.two]
theorem W2 (x:Nat) (h:x<4294967296):TC 198 [.sc (.int .u32 (x:Int))] (VI (32-(Lib.bitLen x:Int))):=by
 refine TC.Aj (p:=C9) rfl rfl rfl rfl fun V ps hl => ?_
 rw[hl.one]
 unfold C9
 simp only
 rw[if_pos ⟨by omega,by omega⟩,Int.toNat_natCast]
 exact⟨_,rfl,fun _ => .sc _ rfl⟩
theorem alG (n:Nat) (h:n<18446744073709551616):TC 214 [.sc (.int .u64 (n:Int)),VI 10] (aU (Lib.decDigits n)):=by
 refine TC.Aj (p:=uK) rfl rfl rfl rfl fun V ps hl => ?_
 rw[hl.two]
 unfold uK
 simp only
 rw[if_pos ⟨trivial,by omega,by omega⟩,Int.toNat_natCast]
 exact⟨_,rfl,fun _ => .sc _ rfl⟩
theorem ZO (s:List UInt8) (c:Nat) (h:s.length*c≤140737488355328) (hc:c≤9223372036854775807):TC 215 [aU s,VI (c:Int)] (aU (Lib.repeatL s c)):=by
 refine TC.Aj (p:=FR) rfl rfl rfl rfl fun V ps hl => ?_
 rw[hl.two]
 unfold FR
 simp only
 rw[if_pos ⟨by omega,by omega,by rw[Int.toNat_natCast];exact h⟩,Int.toNat_natCast]
 exact⟨_,rfl,fun _ => .sc _ rfl⟩
theorem ES {V:View}:∀ {xs:List (List UInt8)} {ps:List Value},VL V ((xs.map aU).flatMap aB) ps→strCells ps=some (xs.map fun x=>⟨x.toArray⟩)
 |
  [],ps,h=>by
  have h':VL V [] ps:=h
  cases h'
  rfl
 |
  x::xs,ps,h=>by
  rw[List.map_cons,List.flatMap_cons] at h
  have h':VL V (aU x::(xs.map aU).flatMap aB) ps:=h
  cases h' with
  |
   cons _ v _ vs h1 h2 =>
   cases h1
   rw[strCells,ES h2]
   rfl
theorem amF (xs:List (List UInt8)) (hx:xs.length≤140737488355328) (hlen:xs.flatten.length≤140737488355328):TC 217 [aO aU xs,aU []] (aU xs.flatten):=by
 refine TC.Aj (p:=Sd) rfl rfl (by simp only[aL,jT (f:=aU) (fun _=>rfl) (fun _=>rfl),Bool.and_true];rfl) rfl fun V ps hl => ?_
 cases hl with
 |
  cons _ v _ vs h hs =>
  rw[hs.one]
  have ajH:(xs.map fun x=>(⟨x.toArray⟩:ByteArray)).map (·.data.toList)=xs:=by
   rw[List.map_map]
   exact List.map_id' xs
  have jn:Lib.join ((xs.map fun x=>(⟨x.toArray⟩:ByteArray)).map (·.data.toList)) ([]:List UInt8)=xs.flatten:=by rw[ajH,TA]
  have h':VR V (.tree (xs.map aU) .op) v:=h
  clear h
  generalize MH:xs.map aU=es at h'
  cases h' with
  |
   nR k hk =>
   have:xs=[]:=List.map_eq_nil_iff.1 MH
   subst this
   exact⟨_,rfl,fun _ => .sc _ rfl⟩
  |
   tree _ k b o c r e p hF hb ho hc he hk hl =>
   subst MH
   by_cases h0:xs=[]
   ·subst h0
    exact⟨_,rfl,fun _ => .sc _ rfl⟩
   ·obtain⟨y,ys,rfl⟩:=List.exists_cons_of_ne_nil h0
    have e1:e=1:=(he (aU y) (by simp)).symm
    subst e1
    rw[Nat.mul_one] at ho hl
    have hr:V.P.read b o ((y::ys).map aU).length=some ((r.drop o).take ((y::ys).map aU).length):=by
     unfold aE.read
     rw[hb]
     simp only
     rw[if_pos ho]
    have hn:¬((y::ys).map aU).length=0:=by simp
    refine⟨.string ⟨(y::ys).flatten.toArray⟩,?_,fun _ => .sc _ rfl⟩
    unfold Sd
    simp only[hn,if_false,hr,Option.bind_some,ES hl]
    rw[if_pos ⟨by simp,hc,by simpa using hx,by rw[jn];exact hlen⟩,jn]
theorem afM (s:List UInt8) (c:UInt8):TC 209 [aU s,aU [c]] (VI (Lib.indexByte s c)):=by
 refine TC.Aj (p:=O2) rfl rfl rfl rfl fun V ps hl => ?_
 rw[hl.two]
 exact⟨_,rfl,fun _ => .sc _ rfl⟩
theorem aeT (s:List UInt8) (u:Nat) (hs:s.length≤9223372036854775806) (h:Lib.parseUintB 64 s = .ok u):TC 192 [aU s,VI 10,VI 64] (.eY [.sc (.int .u64 (u:Int)),.sc .nilIface]):=by
 refine TC.Aj (p:=wJ) rfl rfl rfl rfl fun V ps hl => ?_
 rw[hl.three]
 unfold wJ
 simp only
 rw[if_pos ⟨trivial,trivial,hs⟩]
 have h':Lib.parseUintB 64 (⟨s.toArray⟩:ByteArray).data.toList = .ok u:=h
 rw[h']
 refine⟨_,rfl,fun V' => ?_⟩
 exact .eY _ _ (.cons _ _ _ _ (.sc _ rfl) (.cons _ _ _ _ (.sc _ rfl) .nil))
end Go.PM
namespace Go.PM
section
variable {b:Nat}
theorem OT {α:Type} {pre gU post:List α} {o j:Nat} (ho:pre.length=o) (hj:j<gU.length):(pre++gU++post)[o+j]? = gU[j]? := by
 subst ho
 rw[List.append_assoc,List.getElem?_append_right (by omega),Nat.add_sub_cancel_left,List.getElem?_append_left hj]
theorem VU {α:Type} {pre gU post:List α} {o j:Nat} {v:α} (ho:pre.length=o) (hj:j<gU.length):(pre++gU++post).set (o+j) v=pre++gU.set j v++post:=by
 subst ho
 rw[List.append_assoc,List.set_append_right _ _ (by omega),Nat.add_sub_cancel_left,List.set_append_left _ _ hj,List.append_assoc]
theorem My {xs:List Nat} {i d:Nat} (h:i<xs.length):(xs.set i d).drop (i+1)=xs.drop (i+1):=by
 rw[List.set_eq_take_append_cons_drop,if_pos h,List.drop_append]
 simp[Nat.min_eq_left (by omega:i≤xs.length)]
theorem ZV {U V W P V2 U3 g:Nat} (hV:V<(V2+1)*P) (hU:U3*P≤U) (hWP:W*P≤V) (hg:g≤W) (h:g*V2≤U3):g*V≤U+V:=by
 have h1:g*V≤g*((V2+1)*P):=Nat.mul_le_mul_left _ (by omega)
 have h2:g*((V2+1)*P)=g*V2*P+g*P:=by grind
 have h3:g*V2*P≤U3*P:=Nat.mul_le_mul_right _ h
 have h4:g*P≤W*P:=Nat.mul_le_mul_right _ hg
 omega
theorem Zo {U V P V2 U3 g q:Nat} (hP:0<P) (hV:V2*P≤V) (hU:U<(U3+1)*P) (hq:q*V≤U) (h:U3<g*V2):q<g:=by
 have h1:q*(V2*P)≤q*V:=Nat.mul_le_mul_left _ hV
 have h2:q*V2*P<(U3+1)*P:=by
  have:q*V2*P=q*(V2*P):=by grind
  omega
 have h3:q*V2<U3+1:=Nat.lt_of_mul_lt_mul_right h2
 have h4:q*V2<g*V2:=by omega
 exact Nat.lt_of_mul_lt_mul_right h4
theorem yQ {xs:List Nat} {n t:Nat} (hx:∀d∈xs,d<b) (hn:xs.length=n+1) (ht:xs[n]? = some t):t*b^n≤val b xs∧val b xs<(t+1)*b^n:=by
 have h1:=aV (b:=b) ht
 rw[List.take_of_length_le (by omega)] at h1
 have h2:=oI (b:=b) (xs:=xs.take n) fun d hd=>hx d (List.mem_of_mem_take hd)
 rw[List.length_take,Nat.min_eq_left (by omega)] at h2
 rw[Nat.add_mul,Nat.mul_comm t]
 omega
theorem Dr {xs:List Nat} {n t u:Nat} (hx:∀d∈xs,d<b) (hn:xs.length=n+2) (ht:xs[n+1]? = some t) (hu:xs[n]? = some u):(t*b+u)*b^n≤val b xs∧val b xs<(t*b+u+1)*b^n:=by
 have h1:=aV (b:=b) ht
 rw[List.take_of_length_le (by omega),aV hu] at h1
 have h2:=oI (b:=b) (xs:=xs.take n) fun d hd=>hx d (List.mem_of_mem_take hd)
 rw[List.length_take,Nat.min_eq_left (by omega)] at h2
 have e:(t*b+u)*b^n=b^n*u+b^(n+1)*t:=by rw[Nat.pow_succ];grind
 rw[Nat.add_mul (t*b+u),e]
 omega
theorem Sh {xs:List Nat} {n t u v:Nat} (hx:∀d∈xs,d<b) (hn:xs.length=n+3) (ht:xs[n+2]? = some t) (hu:xs[n+1]? = some u) (hv:xs[n]? = some v):((t*b+u)*b+v)*b^n≤val b xs∧val b xs<((t*b+u)*b+v+1)*b^n:=by
 have h1:=aV (b:=b) ht
 rw[List.take_of_length_le (by omega),aV hu,aV hv] at h1
 have h2:=oI (b:=b) (xs:=xs.take n) fun d hd=>hx d (List.mem_of_mem_take hd)
 rw[List.length_take,Nat.min_eq_left (by omega)] at h2
 have e:((t*b+u)*b+v)*b^n=b^n*v+b^(n+1)*u+b^(n+2)*t:=by rw[Nat.pow_succ,Nat.pow_succ];grind
 rw[Nat.add_mul ((t*b+u)*b+v),e]
 omega
structure vK (b:Nat) (us vs:List Nat) (n u2 u1 u0 v1 v0:Nat):Prop where
 hb:2≤b
 Oo:∀d∈us,d<b
 Nd:∀d∈vs,d<b
 TF:us.length=n+3
 La:vs.length=n+2
 e2:us[n+2]? = some u2
 e1:us[n+1]? = some u1
 e0:us[n]? = some u0
 f1:vs[n+1]? = some v1
 f0:vs[n]? = some v0
 pos:1≤v1
 less:val b us<b*val b vs
section
variable {us vs:List Nat} {n u2 u1 u0 v1 v0:Nat} (G:vK b us vs n u2 u1 u0 v1 v0)
include G
theorem vK.Hp:0<val b vs:=by
 have h:=(Dr G.Nd G.La G.f1 G.f0).1
 have h1:0<(v1*b+v0)*b^n:=Nat.mul_pos (by have:=Nat.mul_pos G.pos (show 0<b by have:=G.hb;omega);omega) (Nat.pow_pos (by have:=G.hb;omega))
 omega
theorem vK.aiA:u2<b:=G.Oo _ (List.mem_of_getElem? G.e2)
theorem vK.YM:u1<b:=G.Oo _ (List.mem_of_getElem? G.e1)
theorem vK.aiD:u0<b:=G.Oo _ (List.mem_of_getElem? G.e0)
theorem vK.VM:v1<b:=G.Nd _ (List.mem_of_getElem? G.f1)
theorem vK.YE:v0<b:=G.Nd _ (List.mem_of_getElem? G.f0)
theorem vK.aeK:val b us / val b vs<b:=(Nat.div_lt_iff_lt_mul G.Hp).2 G.less
theorem vK.top:u2≤v1:=by
 have h1:=(yQ (n:=n+2) G.Oo G.TF G.e2).1
 have h2:=(yQ (n:=n+1) G.Nd G.La G.f1).2
 have h3:b*val b vs<b*((v1+1)*b^(n+1)):=Nat.mul_lt_mul_of_pos_left h2 (by have:=G.hb;omega)
 have h4:b*((v1+1)*b^(n+1))=(v1+1)*b^(n+2):=by rw[Nat.pow_succ b (n+1)];grind
 have h5:=G.less
 have h6:u2*b^(n+2)<(v1+1)*b^(n+2):=by omega
 have:=Nat.lt_of_mul_lt_mul_right h6
 omega
theorem vK.too {g left:Nat} (hh:u2*b+u1=g*v1+left) (h:left*b+u0<g*v0):val b us / val b vs<g:=by
 have hu:=(Sh G.Oo G.TF G.e2 G.e1 G.e0).2
 have hv:=(Dr G.Nd G.La G.f1 G.f0).1
 refine Zo (P:=b^n) (V2:=v1*b+v0) (U3:=(u2*b+u1)*b+u0) (Nat.pow_pos (by have:=G.hb;omega)) hv hu (Nat.div_mul_le_self _ _) ?_
 rw[hh]
 have:(g*v1+left)*b+u0=g*v1*b+(left*b+u0):=by grind
 have:g*(v1*b+v0)=g*v1*b+g*v0:=by grind
 omega
theorem vK.Xi {g left:Nat} (hh:u2*b+u1=g*v1+left) (hg:g≤b) (h:g*v0≤left*b+u0):g≤val b us / val b vs+1:=by
 have hu:=(Sh G.Oo G.TF G.e2 G.e1 G.e0).1
 have hv:=Dr G.Nd G.La G.f1 G.f0
 have h1:b*b^n≤val b vs:=by
  have:b*b^n≤(v1*b+v0)*b^n:=Nat.mul_le_mul_right _ (by have:=Nat.mul_le_mul_right b G.pos;omega)
  omega
 have h2:=ZV (U:=val b us) (V:=val b vs) (W:=b) (P:=b^n) (V2:=v1*b+v0) (U3:=(u2*b+u1)*b+u0) (g:=g) hv.2 hu h1 hg (by
  rw[hh]
  have:(g*v1+left)*b+u0=g*v1*b+(left*b+u0):=by grind
  have:g*(v1*b+v0)=g*v1*b+g*v0:=by grind
  omega)
 have h3:g≤(val b us+val b vs) / val b vs:=(Nat.le_div_iff_mul_le G.Hp).2 h2
 rwa [Nat.add_div_right _ G.Hp] at h3
theorem vK.broken {g left:Nat} (hh:u2*b+u1=g*v1+left) (h:b≤left):g<b∧g*v0≤left*b+u0:=by
 have h1:=G.top
 have h2:=G.YM
 have h3:u2*b≤v1*b:=Nat.mul_le_mul_right _ h1
 have h4:g*v1<b*v1:=by rw[Nat.mul_comm b];omega
 have hg:g<b:=Nat.lt_of_mul_lt_mul_right h4
 refine⟨hg,?_⟩
 have h5:=G.YE
 have h6:g*v0≤b*b:=Nat.mul_le_mul (by omega) (by omega)
 have h7:b*b≤left*b:=Nat.mul_le_mul_right _ h
 omega
end
theorem W4 {P A N T c l x y r W l' c' c1 lo t:Nat} (h:A+P*(c+l)=N+T) (h1:c1=c+t*y) (h2:c1=lo+W*c') (hd:r+lo+l=x+W*l'):(A+P*x)+P*W*(c'+l')=(N+P*r)+(T+P*(t*y)):=by
 subst h1
 have e:r+(c+t*y)+l=x+W*l'+W*c':=by omega
 have e2:P*(r+(c+t*y)+l)=P*(x+W*l'+W*c'):=by rw[e]
 grind
theorem Zq {S S' V t P cl:Nat} (h:S+P*cl=S'+t*V) (hS':S'<P) (hV:V≤P) (ht:t*V≤S+V):cl=0∨cl=1:=by
 rcases Nat.lt_or_ge cl 2 with h1 | h1
 ·omega
 ·have:P*2≤P*cl:=Nat.mul_le_mul_left _ h1
  omega
theorem acA {S S1 S2 V t P c:Nat} (h1:S+P=S1+t*V) (h2:S1+V=S2+P*c) (hS2:S2<P) (hV:V≤P) (ht:t*V≤S+V) (hS:S<P) (bA:S<t*V):S2+t*V=S+V:=by
 have hc:c=1:=by
  rcases Nat.lt_or_ge c 1 with h | h
  ·have:c=0:=by omega
   subst this
   omega
  ·rcases Nat.lt_or_ge c 2 with h3 | h3
   ·omega
   ·have:P*2≤P*c:=Nat.mul_le_mul_left _ h3
    omega
 subst hc
 omega
end
end Go.PM
namespace Go.PM
abbrev uV (d:Nat):VV := .sc (.int .u32 (d:Int))
abbrev AO (ds:List Nat):VV:=aO uV ds
def bM (n:Nat):VV:=AO (aC 4294967296 n)
theorem Tc:∀d:Nat,(aB (uV d)).length=1:=fun _=>rfl
theorem XB (ds:List Nat):aN (AO ds)=true:=jT Tc fun _=>rfl
theorem Y0 (ds:List Nat):gZ (AO ds)=true:=CJ Tc (fun _=>rfl) fun _=>rfl
theorem bO (n:Nat):aN (bM n)=true:=XB _
theorem pT (n:Nat):gZ (bM n)=true:=Y0 _
theorem DS:bM 0 = .tree [] .op:=by rw[bM,bY];rfl
theorem Vv (a b:Nat) (ha:a<18446744073709551616) (hb:0<b):dB .quo (.int .u64 (a:Int)) (.int .u64 (b:Int))=some (.int .u64 ((a / b:Nat):Int)):=by
 have h1:¬((b:Int)=0):=by omega
 have h2:(a:Int).tdiv (b:Int)=((a / b:Nat):Int):=by rw[Int.tdiv_eq_ediv_of_nonneg (by omega)];simp
 have h3:a / b≤a:=Nat.div_le_self _ _
 simp only[dB,if_true,h1,if_false,h2]
 rw[dT _ (by omega)]
theorem Pz (a b:Nat) (hb:0<b):dB .rem (.int .u64 (a:Int)) (.int .u64 (b:Int))=some (.int .u64 ((a % b:Nat):Int)):=by
 have h1:¬((b:Int)=0):=by omega
 have h2:(a:Int).tmod (b:Int)=((a % b:Nat):Int):=by rw[Int.tmod_eq_emod_of_nonneg (by omega)];simp
 simp only[dB,if_true,h1,if_false,h2]
theorem ajI (n s:Nat) (hn:n<4294967296) (hs:s≤31):dB .shl (.int .u64 (n:Int)) (.int .i64 (s:Int))=some (.int .u64 ((n*2^s:Nat):Int)):=by
 have h1:¬((s:Int)<0):=by omega
 have h2:Nat.min (Int.toNat (s:Int)) IntKind.u64.bits=s:=by
  rw[Int.toNat_natCast]
  exact Nat.min_eq_left (by show s≤64;omega)
 have h3:2^s≤2^31:=Nat.pow_le_pow_right (by decide) hs
 have h4:n*2^s≤n*2^31:=Nat.mul_le_mul_left _ h3
 simp only[dB,h1,if_false,h2]
 congr 2
 have e:(n:Int)*2^s=((n*2^s:Nat):Int):=by simp
 rw[e]
 exact dT _ (by omega)
theorem YG (n s:Nat) (hs:s≤31):dB .shr (.int .u64 (n:Int)) (.int .i64 (s:Int))=some (.int .u64 ((n / 2^s:Nat):Int)):=by
 have h1:¬((s:Int)<0):=by omega
 have h2:Nat.min (Int.toNat (s:Int)) IntKind.u64.bits=s:=by
  rw[Int.toNat_natCast]
  exact Nat.min_eq_left (by show s≤64;omega)
 simp only[dB,h1,if_false,h2]
 congr 2
 rw[Int.fdiv_eq_ediv_of_nonneg _ (by exact Int.le_of_lt (Int.pow_pos (by decide)))]
 simp
theorem ajU (a m s:Nat) (ha:a<2^s) (hm:m*2^s+a<4294967296):dB .or (.int .u32 (a:Int)) (.int .u32 ((m*2^s:Nat):Int))=some (.int .u32 ((a+m*2^s:Nat):Int)):=by
 have e:a ||| (m*2^s)=a+m*2^s:=by
  have:=Nat.shiftLeft_add_eq_or_of_lt ha m
  rw[Nat.shiftLeft_eq] at this
  rw[Nat.or_comm,←this,Nat.add_comm]
 have e1:(BitVec.ofInt IntKind.u32.bits (a:Int) ||| BitVec.ofInt IntKind.u32.bits ((m*2^s:Nat):Int)).toNat=a+m*2^s:=by
  show (BitVec.ofInt 32 (a:Int) ||| BitVec.ofInt 32 ((m*2^s:Nat):Int)).toNat=a+m*2^s
  rw[BitVec.toNat_or,BitVec.ofInt_natCast,BitVec.ofInt_natCast,BitVec.toNat_ofNat,BitVec.toNat_ofNat,Nat.mod_eq_of_lt (by omega),Nat.mod_eq_of_lt (by omega),e]
 simp only[dB,if_true,e1]
 rw[wrap32,Nat.mod_eq_of_lt (by omega)]
section
variable {rows:List Nat} {b g c n e:Nat} {w:Bool} {H:aA}
theorem J0 {m d:Nat} (hr:aH H b g=some (rows.map uV,1,w)) (hn:n≤rows.length) (hc:n≤c) (he:rows.take n=aC 4294967296 m):fz (d+2) H (.ref b g 0 n c)=some (bM m):=by
 have:aN (.ref b g 0 n c)=false:=rfl
 unfold fz
 simp only[this,hr,Bool.false_eq_true,if_false]
 have Cj:aL ((rows.map uV).take n)=true:=by rw[←List.map_take];exact eR fun _=>rfl
 rw[if_pos ⟨by simpa using hn,hc⟩,List.drop_zero,mapM_pure Cj,←List.map_take,he]
 rfl
theorem OD {m:Nat} (hr:aH H b g=some (rows.map uV,1,w)) (hn:n≤rows.length) (hc:n≤c) (he:rows.take n=aC 4294967296 m):fz depth H (.ref b g 0 n c)=some (bM m):=J0 (d:=6) hr hn hc he
theorem bN {d:Nat} {u u' v v':VV} (h1:fz (d+1) H u=some u') (h2:fz (d+1) H v=some v'):fz (d+2) H (.eY [u,v])=some (.eY [u',v']):=by
 have e:fz (d+2) H (.eY [u,v])=if aN (.eY [u,v])=true then some (.eY [u,v]) else ([u,v].mapM (fz (d+1) H)).map .eY:=rfl
 rw[e]
 by_cases hp:aN (.eY [u,v])=true
 ·rw[if_pos hp]
  simp only[aN,aL,Bool.and_eq_true,and_true] at hp
  rw[aJ hp.1] at h1
  rw[aJ hp.2] at h2
  cases h1
  cases h2
  rfl
 ·rw[if_neg hp,List.mapM_cons,h1,List.mapM_cons,h2]
  rfl
theorem hJ {j d:Nat} (hr:aH H b g=some (rows.map uV,1,w)) (hj:rows[j]? = some d):cI false 1 (.ptr b g j 0) H=some (uV d):=oP hr hj
theorem PC {xs:List Nat} {m d:Nat} (hm:xs.length=m+1) (hd:xs[m]? = some d) (h:d≠0):xs.getLast? ≠ some 0:=by
 rw[List.getLast?_eq_getElem?,hm,Nat.add_sub_cancel,hd]
 simpa using h
end
theorem acV {rows:List Nat} {b g n c:Nat} {w:Bool} {H:aA} {lo:Nat} (hr:aH H b g=some (rows.map uV,1,w)) (hn:n≤rows.length) (hc:n≤c) (Dq:n≤70368744177664) (hd:∀d∈rows.take n,d<4294967296) :
  jO 182 [.ref b g 0 n c] lo H fun r H'=>H'=H∧∃k,k≤n∧r = .ref b g 0 k c∧rows.take k=aC 4294967296 (val 4294967296 (rows.take n)):=by
 refine jO.walk ⟨true,false⟩ zL (Nat.le_of_ble_eq_true rfl) ?_
 simp only[uZ,rZ,VX,Nat.reduceEqDiff,Nat.reduceAdd]
 refine aQ (fun(k:Nat) ρ H'=>k≤n∧H'=H∧val 4294967296 (rows.take k)=val 4294967296 (rows.take n)∧ρ 0 = .ref b g 0 k c) (fun k=>k) n ⟨Nat.le_refl _,rfl,rfl,rfl⟩ ?_
 rintro k ρ H' ⟨hk,rfl,hv,h0⟩
 have e0:oC (.ref b g 0 k c) H'=some (VI k):=dR hr
 have done:(rows.take k).getLast? ≠ some 0→rows.take k=aC 4294967296 (val 4294967296 (rows.take n)):=fun fC=>by
  rw[←hv,Ma (by decide) (fun d h=>hd d ?_) fC]
  exact(List.take_sublist_take_left hk).mem h
 rcases Nat.eq_zero_or_pos k with hz | hp
 ·subst hz
  simp only[fE,h0,e0,Int.reduceLT,Int.natCast_zero,VX,Nat.reduceEqDiff,Nat.reduceAdd]
  exact⟨0,hk,rfl,done (by simp)⟩
 ·obtain⟨m,rfl⟩:∃m,k=m+1:=⟨k-1,by omega⟩
  obtain⟨d,Zz⟩:∃d,rows[m]? = some d:=⟨_,List.getElem?_eq_getElem (by omega)⟩
  have Cj:(0:Int)<((m+1:Nat):Int):=by omega
  have w1:IntKind.i64.wrap (((m+1:Nat):Int)-1)=(m:Int):=by rw[wrap64 (by omega) (by omega)];omega
  have e1:bH 1 (.ref b g 0 (m+1) c) (VI m) H'=some (.ptr b g m 0):=by rw[aY hr (by omega),Nat.zero_add]
  have e2:=hJ hr Zz
  by_cases C4:(d:Int)=0
  ·have hd1:d=0:=by omega
   subst hd1
   have e3:Ej 1 (.ref b g 0 (m+1) c) none (some (VI m)) none H'=some (.ref b g 0 m c):=uG hr (by omega)
   simp only[fE,h0,e0,Cj,w1,e1,e2,e3,C4,VX,Nat.reduceEqDiff,Nat.reduceAdd]
   refine⟨m,by omega,by omega,?_,rfl⟩
   rw[←hv,aV Zz,Nat.mul_zero,Nat.add_zero]
  ·simp only[fE,h0,e0,Cj,w1,e1,e2,C4,VX,Nat.reduceEqDiff,Nat.reduceAdd]
   refine⟨m+1,hk,rfl,done (PC (m:=m) (d:=d) (by rw[List.length_take];omega) ?_ (by omega))⟩
   rw[List.getElem?_take_of_lt (by omega)]
   exact Zz
theorem Yh (ds:List Nat) (t:TK) {lo:Nat} {H:aA} (h:∀d∈ds,d<4294967296) (hlen:ds.length≤70368744177664) :
  jO 182 [.tree (ds.map uV) t] lo H fun r H'=>H'=H∧∃t',(t'=t∨t' = .op)∧r = .tree ((aC 4294967296 (val 4294967296 ds)).map uV) t':=by
 refine jO.walk ⟨true,false⟩ zL (Nat.le_of_ble_eq_true rfl) ?_
 simp only[uZ,rZ,VX,Nat.reduceEqDiff,Nat.reduceAdd]
 refine aQ (fun(s:List Nat×TK) ρ H'=>(∀d∈s.1,d<4294967296)∧val 4294967296 s.1=val 4294967296 ds∧s.1.length≤ds.length∧H'=H∧(s.2=t∨s.2 = .op)∧ρ 0 = .tree (s.1.map uV) s.2) (fun s=>s.1.length) (ds,t) ⟨h,rfl,Nat.le_refl _,rfl,.inl rfl,rfl⟩ ?_
 rintro⟨xs,t'⟩ ρ H' ⟨hx,hv,hl,rfl,ht,h0⟩
 simp only at hx hv hl ht h0
 have done:xs.getLast? ≠ some 0→xs=aC 4294967296 (val 4294967296 ds):=fun fC=>by rw[←hv,Ma (by decide) hx fC]
 rcases Nat.eq_zero_or_pos xs.length with hz | hp
 ·have hxn:xs=[]:=List.length_eq_zero_iff.1 hz
  subst hxn
  simp only[fE,h0,Int.reduceLT,Int.natCast_zero,VX,Nat.reduceEqDiff,Nat.reduceAdd]
  exact⟨t',ht,by rw[←done (by simp)];rfl⟩
 ·obtain⟨m,hm⟩:∃m,xs.length=m+1:=⟨xs.length-1,by omega⟩
  obtain⟨d,hd⟩:∃d,xs[m]? = some d:=⟨_,List.getElem?_eq_getElem (by omega)⟩
  have Cj:(0:Int)<((m+1:Nat):Int):=by omega
  have w1:IntKind.i64.wrap (((m+1:Nat):Int)-1)=(m:Int):=by rw[wrap64 (by omega) (by omega)];omega
  have e1:=aI (f:=uV) (t:=t') (H:=H') (size:=1) (k := .i64) hd rfl
  by_cases C4:(d:Int)=0
  ·have hd1:d=0:=by omega
   subst hd1
   have e2:=IX (f:=uV) (size:=1) (t:=t') (H:=H') (k2 := .i64) (xs:=xs) (h:=m) Tc (by omega) (by omega)
   have Rn:xs=xs.take m++[0]:=by
    have:=List.take_append_drop m xs
    have h3:=(List.getElem?_eq_some_iff.1 hd)
    rw[List.drop_eq_getElem_cons h3.1,h3.2,List.drop_of_length_le (by omega)] at this
    exact this.symm
   simp only[fE,h0,hm,Cj,w1,e1,e2,C4,VX,Nat.reduceEqDiff,Nat.reduceAdd]
   refine⟨(xs.take m,.op),by simp only[List.length_take];omega,fun d hd=>hx d (List.mem_of_mem_take hd),?_,by simp only[List.length_take];omega,.inr rfl,rfl⟩
   rw[←hv]
   conv=>rhs;rw[Rn]
   rw[rN]
   simp
  ·simp only[fE,h0,hm,Cj,w1,e1,C4,VX,Nat.reduceEqDiff,Nat.reduceAdd]
   exact⟨t',ht,by rw[←done (PC hm hd (by omega))]⟩
theorem qT {rows:List Nat} {b g n c:Nat} {w:Bool} {H:aA} {K:VV→aA→Prop} {m lo:Nat} (hr:aH H b g=some (rows.map uV,1,w)) (hn:n≤rows.length) (hc:n≤c) (Dq:n≤70368744177664) (hd:∀d∈rows.take n,d<4294967296) (hm:val 4294967296 (rows.take n)=m)
  (hk:∀k,k≤n→rows.take k=aC 4294967296 m→K (.ref b g 0 k c) H):cT 182 [.ref b g 0 n c] lo H K:=by
 refine gC rfl ((acV hr hn hc Dq hd).mono ?_)
 rintro r H' ⟨rfl,k,h1,rfl,h2⟩
 rw[hm] at h2
 exact hk k h1 h2
theorem Km {ds:List Nat} {t:TK} {lo:Nat} {H:aA} {K:VV→aA→Prop} {m:Nat} (h:∀d∈ds,d<4294967296) (hlen:ds.length≤70368744177664) (hm:val 4294967296 ds=m) (hk:∀t',(t'=t∨t' = .op)→K (.tree ((aC 4294967296 m).map uV) t') H):cT 182 [.tree (ds.map uV) t] lo H K:=by
 refine gC rfl ((Yh ds t h hlen).mono ?_)
 rintro r H' ⟨rfl,t',h1,rfl⟩
 rw[hm]
 exact hk t' h1
theorem aeE {H:aA} {m:Nat} {t:TK} (ht:t = .cl 1∨t = .op):fz depth H (.tree ((aC 4294967296 m).map uV) t)=some (bM m):=by
 rcases ht with rfl | rfl
 ·exact aiG (eR fun _=>rfl)
 ·exact aF (bO m)
end Go.PM
namespace Go.PM
theorem mB (n:Nat) (h:n<18446744073709551616):TC 139 [VK .u64 n] (bM n):=by
 refine TC.walk ⟨true,false⟩ Pp rfl (Nat.le_of_ble_eq_true rfl) rfl (pT _) ?_
 have e1:=Z6 (H:=[]) (z:=[.int .u32 0]) (u:=uV (n % 4294967296)) (v:=uV (n / 4294967296 % 4294967296)) rfl rfl rfl rfl rfl
 have hm:∀d∈[n % 4294967296,n / 4294967296 % 4294967296],d<4294967296:=by
  intro d hd
  simp only[List.mem_cons,List.not_mem_nil,or_false] at hd
  rcases hd with rfl | rfl<;>exact Nat.mod_lt _ (by decide)
 have hv:val 4294967296 [n % 4294967296,n / 4294967296 % 4294967296]=n:=by
  simp only[val]
  have:=Nat.mod_add_div n 4294967296
  rw[Nat.mod_eq_of_lt (show n / 4294967296<4294967296 by omega)]
  omega
 simp only[Lf,FP,wrap32,nC,e1,VX,Nat.reduceEqDiff,Nat.reduceAdd]
 refine Km (ds:=[n % 4294967296,n / 4294967296 % 4294967296]) (t := .cl 1) hm (by show 2≤70368744177664;decide) hv fun t' ht => ?_
 simp only[VX,Nat.reduceEqDiff,Nat.reduceAdd]
 exact aeE ht
theorem Al (n:Nat) (hn:(aC 4294967296 n).length≤17592186044416):TC 193 [bM n] (if (aC 4294967296 n).length≤2 then .eY [VK .u64 n,VB true] else .eY [VK .u64 0,VB false]):=by
 refine TC.walk ⟨true,false⟩ Fq rfl (Nat.le_of_ble_eq_true rfl) (by simp[aL,bO]) (by split<;>rfl) ?_
 have hv:=cE (b:=4294967296) (by decide) n
 have hl:=fB (b:=4294967296) (by decide) n
 unfold bM AO
 generalize aC 4294967296 n=ds at *
 have w1:IntKind.i64.wrap ((ds.length:Int)-1)=(ds.length:Int)-1:=wrap64 (by omega) (by omega)
 simp only[AA,xF,w1,VX,Nat.reduceEqDiff,Nat.reduceAdd]
 by_cases h2:ds.length≤2
 ·rw[if_pos h2]
  have c2:(ds.length:Int)≤2:=by omega
  refine aQ (fun(j:Nat) ρ H=>j≤ds.length∧H=[]∧ρ 0=aO uV ds∧ρ 4=VK .u64 (val 4294967296 (ds.drop j):Nat)∧ρ 5=VI ((j:Int)-1)) (fun j=>j) ds.length ⟨Nat.le_refl _,rfl,rfl,by rw[List.drop_length];rfl,rfl⟩ ?_
  rintro j ρ H ⟨hj,rfl,g0,g4,g5⟩
  by_cases hz:(0:Int)≤(j:Int)-1
  ·obtain⟨i,rfl⟩:∃i,j=i+1:=⟨j-1,by omega⟩
   obtain⟨x,hx⟩:∃x,ds[i]? = some x:=⟨_,List.getElem?_eq_getElem (by omega)⟩
   have Ec:((i+1:Nat):Int)-1=(i:Int):=by omega
   rw[Ec] at g5 hz
   have e1:=aI (f:=uV) (t := .op) (H:=[]) (size:=1) (k := .i64) hx rfl
   have lx:=hl x (List.mem_of_getElem? hx)
   have ld:=oI (b:=4294967296) (xs:=ds.drop (i+1)) fun d hd=>hl d (List.mem_of_mem_drop hd)
   have hle:(ds.drop (i+1)).length≤1:=by rw[List.length_drop];omega
   have hpw:4294967296^(ds.drop (i+1)).length≤4294967296^1:=Nat.pow_le_pow_right (by decide) hle
   rw[Nat.pow_one] at hpw
   have w2:IntKind.i64.wrap ((i:Int)-1)=(i:Int)-1:=wrap64 (by omega) (by omega)
   have w3:IntKind.u64.wrap (x:Int)=(x:Int):=dT _ (by omega)
   have w4:IntKind.u64.wrap (((val 4294967296 (ds.drop (i+1))*4294967296:Nat):Int)+(x:Int))=((val 4294967296 (ds.drop i):Nat):Int):=by
    rw[sL hx,←Int.natCast_add,dT _ (by omega)]
    congr 1
    omega
   have w5:=DO (val 4294967296 (ds.drop (i+1))) .u64 (by omega)
   simp only[kP,g0,g4,g5,hz,c2,e1,w2,w3,w4,w5,VX,Nat.reduceEqDiff,Nat.reduceAdd]
   exact⟨i,by omega,by omega,by (repeat' apply And.intro)<;>first | rfl | trivial⟩
  ·have T5:j=0:=by omega
   subst T5
   rw[List.drop_zero,hv] at g4
   simp only[kP,g0,g4,g5,hz,c2,VX,Nat.reduceEqDiff,Nat.reduceAdd]
   exact aF rfl
 ·rw[if_neg h2]
  have c2:¬(ds.length:Int)≤2:=by omega
  have c3:(0:Int)≤(ds.length:Int)-1:=by omega
  refine aQ (fun(j:Nat) ρ H=>H=[]∧ρ 0=aO uV ds∧ρ 4=VK .u64 0∧ρ 5=VI ((ds.length:Int)-1)) (fun j=>j) 0 ⟨rfl,rfl,rfl,rfl⟩ ?_
  rintro j ρ H ⟨rfl,g0,g4,g5⟩
  simp only[kP,g0,g4,g5,c2,c3,VX,Nat.reduceEqDiff,Nat.reduceAdd]
  exact aF rfl
theorem jE (a b:Nat) (ha:(aC 4294967296 a).length≤17592186044416) (hb:(aC 4294967296 b).length≤17592186044416):TC 142 [bM a,bM b] (VI (eZ a b)):=by
 refine TC.walk ⟨true,false⟩ Hc rfl (Nat.le_of_ble_eq_true rfl) (by simp[aL,bO]) rfl ?_
 have fin:∀ {x:Int},x=eZ a b→fz depth [] (VI x)=some (VI (eZ a b)):=fun h=>by rw[h];exact aF rfl
 unfold bM AO
 by_cases hl:(((aC 4294967296 a).length:Nat):Int)=(((aC 4294967296 b).length:Nat):Int)
 ·have Bf:(aC 4294967296 a).length=(aC 4294967296 b).length:=by omega
  have w1:IntKind.i64.wrap ((((aC 4294967296 b).length:Nat):Int)-1)=(((aC 4294967296 b).length:Nat):Int)-1:=wrap64 (by omega) (by omega)
  simp only[rD,oO,hl,w1,VX,Nat.reduceEqDiff,Nat.reduceAdd]
  refine aQ (fun(j:Nat) ρ H=>j≤(aC 4294967296 b).length∧H=[]∧(aC 4294967296 a).drop j=(aC 4294967296 b).drop j∧ρ 0=aO uV (aC 4294967296 a)∧ρ 1=aO uV (aC 4294967296 b)∧ρ 5=VI ((j:Int)-1)) (fun j=>j) (aC 4294967296 b).length ⟨Nat.le_refl _,rfl,by rw[List.drop_length,←Bf,List.drop_length],rfl,rfl,rfl⟩ ?_
  rintro j ρ H ⟨hj,rfl,hd,h0,h1,h5⟩
  by_cases hz:(0:Int)≤(j:Int)-1
  ·obtain⟨i,rfl⟩:∃i,j=i+1:=⟨j-1,by omega⟩
   obtain⟨x,hx⟩:∃x,(aC 4294967296 a)[i]? = some x:=⟨_,List.getElem?_eq_getElem (by omega)⟩
   obtain⟨y,hy⟩:∃y,(aC 4294967296 b)[i]? = some y:=⟨_,List.getElem?_eq_getElem (by omega)⟩
   have Ec:((i+1:Nat):Int)-1=(i:Int):=by omega
   have e1:=aI (f:=uV) (t := .op) (H:=[]) (size:=1) (k := .i64) hx rfl
   have e2:=aI (f:=uV) (t := .op) (H:=[]) (size:=1) (k := .i64) hy rfl
   rw[Ec] at h5 hz
   have w2:IntKind.i64.wrap ((i:Int)-1)=(i:Int)-1:=wrap64 (by omega) (by omega)
   by_cases Ag:(x:Int)=(y:Int)
   ·simp only[jY,h0,h1,h5,hz,e1,e2,Ag,w2,VX,Nat.reduceEqDiff,Nat.reduceAdd]
    have amI:x=y:=by omega
    subst amI
    refine⟨i,by omega,by omega,?_⟩
    obtain⟨g1,g2⟩:=List.getElem?_eq_some_iff.1 hx
    obtain⟨g3,g4⟩:=List.getElem?_eq_some_iff.1 hy
    rw[List.drop_eq_getElem_cons g1,List.drop_eq_getElem_cons g3,g2,g4,hd]
    exact⟨rfl,rfl⟩
   ·by_cases bA:(x:Int)<(y:Int)
    ·simp only[jY,h0,h1,h5,hz,e1,e2,Ag,bA,VX,Nat.reduceEqDiff,Nat.reduceAdd]
     refine fin ?_
     have:=DU (fB (by decide) a) Bf hx hy hd (by omega)
     rw[cE (by decide),cE (by decide)] at this
     simp[eZ,this]
    ·simp only[jY,h0,h1,h5,hz,e1,e2,Ag,bA,VX,Nat.reduceEqDiff,Nat.reduceAdd]
     refine fin ?_
     have:=DU (fB (by decide) b) Bf.symm hy hx hd.symm (by omega)
     rw[cE (by decide),cE (by decide)] at this
     rw[eZ,if_neg (by omega),if_neg (by omega)]
  ·have T5:j=0:=by omega
   subst T5
   simp only[jY,h0,h1,h5,hz,VX,Nat.reduceEqDiff,Nat.reduceAdd]
   refine fin ?_
   have:=R6 (b:=4294967296) (by decide) (by simpa using hd)
   subst this
   simp[eZ]
 ·by_cases bA:(((aC 4294967296 a).length:Nat):Int)<(((aC 4294967296 b).length:Nat):Int)
  ·simp only[rD,oO,hl,bA,VX,Nat.reduceEqDiff,Nat.reduceAdd]
   refine fin ?_
   have:=DN (b:=4294967296) (by decide) (m:=a) (n:=b) (by omega)
   simp[eZ,this]
  ·simp only[rD,oO,hl,bA,VX,Nat.reduceEqDiff,Nat.reduceAdd]
   refine fin ?_
   have:=DN (b:=4294967296) (by decide) (m:=b) (n:=a) (by omega)
   rw[eZ,if_neg (by omega),if_neg (by omega)]
end Go.PM
namespace Go.PM
section
variable {b:Nat}
theorem GX (hb:2≤b) (n i:Nat):(aC b n).getD i 0=n / b^i % b:=by
 induction i generalizing n with
 |
  zero =>
  by_cases h:n=0
  ·subst h;simp[bY]
  ·rw[iL hb h,List.getD_cons_zero,Nat.pow_zero,Nat.div_one]
 |
  succ i ih =>
  by_cases h:n=0
  ·subst h;simp[bY]
  ·rw[iL hb h,List.getD_cons_succ,ih,Nat.div_div_eq_div_mul,Nat.pow_succ,Nat.mul_comm b]
theorem DP (hb:2≤b) {n i:Nat}:i<(aC b n).length↔n / b^i≠0:=by
 induction i generalizing n with
 |
  zero =>
  rw[Nat.pow_zero,Nat.div_one,List.length_pos_iff]
  exact not_congr (kU hb)
 |
  succ i ih =>
  by_cases h:n=0
  ·subst h;simp[bY]
  ·rw[iL hb h,List.length_cons,Nat.add_lt_add_iff_right,ih,Nat.div_div_eq_div_mul,Nat.pow_succ,Nat.mul_comm b]
theorem J6 (hb:2≤b) {n i:Nat} (h:i<(aC b n).length):(aC b n)[i]? = some (n / b^i % b):=by
 rw[←GX hb,List.getD_eq_getElem?_getD,List.getElem?_eq_getElem h]
 rfl
theorem XJ (hb:2≤b) (n i:Nat):(aC b n).drop i=aC b (n / b^i):=by
 induction i generalizing n with
 | zero=>simp
 |
  succ i ih =>
  by_cases h:n=0
  ·subst h;simp[bY]
  ·rw[iL hb h,List.drop_succ_cons,ih,Nat.div_div_eq_div_mul,Nat.pow_succ,Nat.mul_comm b]
theorem sK (n i:Nat):n / b^(i+1)=n / b^i / b:=by rw[Nat.div_div_eq_div_mul,Nat.pow_succ]
theorem Ep (xs:List Nat) (i:Nat):val b (xs.take (i+1))=val b (xs.take i)+b^i*xs.getD i 0:=by
 by_cases h:i<xs.length
 ·rw[aV (List.getElem?_eq_getElem h),List.getD_eq_getElem?_getD,List.getElem?_eq_getElem h]
  rfl
 ·rw[iU (by omega),iU (by omega),List.getD_eq_getElem?_getD,List.getElem?_eq_none (by omega)]
  simp
theorem N5 (hb:2≤b) {n d q:Nat} (hn:n≠0) (h:n=d+b*q) (hd:d<b):aC b n=d::aC b q:=by
 rw[iL hb hn,h,Nat.add_mul_mod_self_left,Nat.mod_eq_of_lt hd,Nat.add_mul_div_left _ _ (by omega),Nat.div_eq_of_lt hd,Nat.zero_add]
theorem Wz (hb:2≤b) {x y c:Nat} (h:x+y+c≠0):aC b (x+y+c)=(x % b+y % b+c) % b::aC b (x / b+y / b+(x % b+y % b+c) / b):=by
 refine N5 hb h ?_ (Nat.mod_lt _ (by omega))
 have h1:=Nat.mod_add_div x b
 have h2:=Nat.mod_add_div y b
 have h3:=Nat.mod_add_div (x % b+y % b+c) b
 have e:b*(x / b+y / b+(x % b+y % b+c) / b)=b*(x / b)+b*(y / b)+b*((x % b+y % b+c) / b):=by grind
 omega
theorem Xx (hb:2≤b) {x d c:Nat} (h:x*d+c≠0):aC b (x*d+c)=(x % b*d+c) % b::aC b (x / b*d+(x % b*d+c) / b):=by
 refine N5 hb h ?_ (Nat.mod_lt _ (by omega))
 have h1:=Nat.mod_add_div x b
 have h3:=Nat.mod_add_div (x % b*d+c) b
 have e:b*(x / b*d+(x % b*d+c) / b)=b*(x / b)*d+b*((x % b*d+c) / b):=by grind
 have e2:x*d=x % b*d+b*(x / b)*d:=by
  conv=>lhs;rw[←h1,Nat.add_mul]
 omega
theorem OE (hb:2≤b) {m n k:Nat} (hm:(aC b m).length≤k) (hn:(aC b n).length≤k):(aC b (m+n)).length≤k+1:=by
 refine lI hb ?_
 have y1:=gE hb m
 have y2:=gE hb n
 have y3:b^(aC b m).length≤b^k:=Nat.pow_le_pow_right (by omega) hm
 have y4:b^(aC b n).length≤b^k:=Nat.pow_le_pow_right (by omega) hn
 have y5:b^k*2≤b^k*b:=Nat.mul_le_mul_left _ hb
 rw[Nat.pow_succ]
 omega
theorem OS (hb:2≤b) (m n:Nat):(aC b (m*n)).length≤(aC b m).length+(aC b n).length:=by
 refine lI hb ?_
 rw[Nat.pow_add]
 exact Nat.mul_lt_mul'' (gE hb m) (gE hb n)
theorem C0 (hb:2≤b) {c:Nat} (h:c≠0) (hc:c<b):aC b c=[c]:=by
 rw[iL hb h,Nat.mod_eq_of_lt hc,Nat.div_eq_of_lt hc,bY]
end
end Go.PM
namespace Go.PM
abbrev tV (d:Nat):VV:=VI (d:Int)
abbrev gR (ds:List Nat):VV:=aO tV ds
def bS (n:Nat):VV:=gR (aC 1000000000 n)
theorem EX:∀d:Nat,(aB (tV d)).length=1:=fun _=>rfl
theorem xN (ds:List Nat):aN (gR ds)=true:=jT EX fun _=>rfl
theorem WY (ds:List Nat):gZ (gR ds)=true:=CJ EX (fun _=>rfl) fun _=>rfl
theorem cA (n:Nat):aN (bS n)=true:=xN _
theorem mM (n:Nat):gZ (bS n)=true:=WY _
theorem G3:bS 0 = .tree [] .op:=by rw[bS,bY];rfl
theorem Y6:bS 1=gR [1]:=by rw[bS,iL (by decide) (by decide),bY]
theorem cZ (n:Nat) {H:aA}:oC (bS n) H=some (VI (aC 1000000000 n).length):=dQ
section
variable {α:Type} {f:α→VV} {xs:List α} {x:α} {H:aA}
theorem JN {g e:Nat} {es:List VV} {w:Bool}:aH [.row g es e w] 0 g=some (es,e,w):=aS
theorem axE {e bytes:Nat} (he:1≤e) (hb:1≤bytes) (Ck:(xs.length+1)*bytes≤140737488355328):eO 0 e bytes (.ref 0 xs.length 0 xs.length xs.length) [f x] [.row xs.length (xs.map f) e true]=some (.ref 0 (xs.length+1) 0 (xs.length+1) (xs.length+1),[.row (xs.length+1) ((xs++[x]).map f) e true]):=by
 rw[gY (f:=f) (x:=x) aS rfl (Nat.le_refl _) he hb Ck]
 rfl
theorem RX {n g e:Nat} {w:Bool} (hp:∀x,aN (f x)=true) (hn:n=xs.length):fz depth [.row g (xs.map f) e w] (.ref 0 g 0 n n)=some (aO f xs):=Fb aS (by simpa using hn) (Nat.le_refl _) (eR hp)
end
theorem Kb {lr:Bool}:mF lr [.int .i64 0] 0 [] []=some (.ref 0 0 0 0 0,[.row 0 (([]:List Nat).map tV) 1 true]):=kA (H:=[]) rfl
theorem sF {d:Int} {H:aA}:mF false [.int .i64 0] 1 [(0,VI d)] H=some (.tree [VI d] (.cl 1),H):=iJ rfl rfl rfl
theorem uJ {d:Int} {H:aA} {t:TK}:cW 1 (.tree [VI d] t) H=some [VI d]:=fK rfl rfl
theorem adZ {ds:List Nat} {d:Nat} (h:ds.length<17592186044416):eO 0 1 8 (.ref 0 ds.length 0 ds.length ds.length) [VI (d:Int)] [.row ds.length (ds.map tV) 1 true]=some (.ref 0 (ds.length+1) 0 (ds.length+1) (ds.length+1),[.row (ds.length+1) ((ds++[d]).map tV) 1 true]):=axE (f:=tV) (by decide) (by decide) (by omega)
theorem Ou (n:Nat):dB .rem (.int .i64 (n:Int)) (.int .i64 1000000000)=some (.int .i64 ((n % 1000000000:Nat):Int)):=by
 have h2:(n:Int).tmod 1000000000=((n % 1000000000:Nat):Int):=by rw[Int.tmod_eq_emod_of_nonneg (by omega)];simp
 simp only[dB,if_true,h2]
 rfl
theorem NO (n:Nat) (h:n≤9223372036854775807):dB .quo (.int .i64 (n:Int)) (.int .i64 1000000000)=some (.int .i64 ((n / 1000000000:Nat):Int)):=by
 have h2:(n:Int).tdiv 1000000000=((n / 1000000000:Nat):Int):=by rw[Int.tdiv_eq_ediv_of_nonneg (by omega)];simp
 simp only[dB,if_true,h2]
 rw[wrap64 (by omega) (by omega)]
 rfl
theorem rQ (ds:List Nat) (h:∀d∈ds,d<1000000000) (hlen:ds.length≤70368744177664):TC 184 [gR ds] (bS (val 1000000000 ds)):=by
 refine TC.walk ⟨true,false⟩ K3 rfl (Nat.le_of_ble_eq_true rfl) (by simp[aL,xN]) (mM _) ?_
 simp only[FA,CE,VX,Nat.reduceEqDiff,Nat.reduceAdd]
 refine aQ (fun(xs:List Nat) ρ H'=>(∀d∈xs,d<1000000000)∧val 1000000000 xs=val 1000000000 ds∧xs.length≤ds.length∧H'=[]∧ρ 0=gR xs) (fun s=>s.length) ds ⟨h,rfl,Nat.le_refl _,rfl,rfl⟩ ?_
 rintro xs ρ H' ⟨hx,hv,hl,rfl,h0⟩
 have done:xs.getLast? ≠ some 0→fz depth [] (gR xs)=some (bS (val 1000000000 ds)):=fun fC=>by rw[bS,←hv,Ma (by decide) hx fC];exact aF (xN _)
 rcases Nat.eq_zero_or_pos xs.length with hz | hp
 ·have hxn:xs=[]:=List.length_eq_zero_iff.1 hz
  subst hxn
  simp only[qC,h0,Int.reduceLT,Int.natCast_zero,dQ,List.length_nil,VX,Nat.reduceEqDiff,Nat.reduceAdd]
  exact done (by simp)
 ·obtain⟨m,hm⟩:∃m,xs.length=m+1:=⟨xs.length-1,by omega⟩
  obtain⟨d,hd⟩:∃d,xs[m]? = some d:=⟨_,List.getElem?_eq_getElem (by omega)⟩
  have Cj:(0:Int)<((m+1:Nat):Int):=by omega
  have w1:IntKind.i64.wrap (((m+1:Nat):Int)-1)=(m:Int):=by rw[wrap64 (by omega) (by omega)];omega
  have e1:=aI (f:=tV) (t := .op) (H:=[]) (size:=1) (k := .i64) hd rfl
  by_cases C4:(d:Int)=0
  ·have hd1:d=0:=by omega
   subst hd1
   have e2:=IX (f:=tV) (size:=1) (t := .op) (H:=[]) (k2 := .i64) (xs:=xs) (h:=m) EX (by omega) (by omega)
   have Rn:xs=xs.take m++[0]:=by
    have:=List.take_append_drop m xs
    have h3:=(List.getElem?_eq_some_iff.1 hd)
    rw[List.drop_eq_getElem_cons h3.1,h3.2,List.drop_of_length_le (by omega)] at this
    exact this.symm
   simp only[qC,h0,hm,Cj,w1,e1,e2,C4,dQ,VX,Nat.reduceEqDiff,Nat.reduceAdd]
   refine⟨xs.take m,by simp only[List.length_take];omega,fun d hd=>hx d (List.mem_of_mem_take hd),?_,by simp only[List.length_take];omega,by first | rfl | exact⟨rfl,rfl⟩⟩
   rw[←hv]
   conv=>rhs;rw[Rn]
   rw[rN]
   simp
  ·simp only[qC,h0,hm,Cj,w1,e1,C4,dQ,VX,Nat.reduceEqDiff,Nat.reduceAdd]
   exact done (PC hm hd (by omega))
theorem Hx {outs:List Nat} {n g m:Nat} {lo:Nat} {w:Bool} {K:VV→aA→Prop} (hd:∀d∈outs,d<1000000000) (hn:n=outs.length) (hlen:outs.length≤70368744177664) (hm:val 1000000000 outs=m) (hk:K (bS m) (cY [.row g (outs.map tV) 1 w] [0])) :
  cT 184 [.ref 0 g 0 n n] lo [.row g (outs.map tV) 1 w] K:=by
 subst hm
 rw[TC.agM (f:=tV) (rQ outs hd hlen) aS hn (Nat.le_refl _) EX (fun _=>rfl) rfl rfl]
 exact hk
theorem R9 {H:aA} (n:Nat):fz depth H (bS n)=some (bS n):=aF (cA n)
theorem pV (n:Int) (h1:n≤9223372036854775807):TC 178 [VI n] (bS n.toNat):=by
 refine TC.walk ⟨true,false⟩ MC rfl (Nat.le_of_ble_eq_true rfl) rfl (mM _) ?_
 simp only[I6,EA,Kb,VX,Nat.reduceEqDiff,Nat.reduceAdd]
 refine aQ (fun(s:Int×List Nat) ρ H=>s.1≤9223372036854775807∧H=[.row s.2.length (s.2.map tV) 1 true]∧s.2.length≤63∧s.1.toNat*2^s.2.length≤9223372036854775807∧aC 1000000000 n.toNat=s.2++aC 1000000000 s.1.toNat∧ρ 0=VI s.1∧ρ 3 = .ref 0 s.2.length 0 s.2.length s.2.length) (fun s=>s.1.toNat) (n,[]) ⟨h1,rfl,by simp,by simp only[List.length_nil,Nat.pow_zero,Nat.mul_one];omega,rfl,rfl,rfl⟩ ?_
 rintro⟨m,ds⟩ ρ H ⟨hm,rfl,hl,bA,hd,g0,g3⟩
 simp only at hm hl bA hd g0 g3
 by_cases hp:(0:Int)<m
 ·obtain⟨k,rfl⟩:∃k:Nat,m=(k:Int):=⟨m.toNat,by omega⟩
  rw[Int.toNat_natCast] at bA hd
  have hk0:k≠0:=by omega
  have Gs:ds.length<63:=by
   rcases Nat.lt_or_ge ds.length 63 with h | h
   ·exact h
   ·have e:2^ds.length=9223372036854775808:=by rw[show ds.length=63 by omega]
    rw[e] at bA
    omega
  have r1:=Ou k
  have q1:=NO k (by omega)
  have a1:=adZ (ds:=ds) (d:=k % 1000000000) (by omega)
  simp only[xE,g0,g3,hp,r1,q1,sF,uJ,a1,VX,Nat.reduceEqDiff,Nat.reduceAdd]
  refine⟨(((k / 1000000000:Nat):Int),ds++[k % 1000000000]),?_,by simp only;omega,by simp,by simp;omega,?_,?_,rfl,by simp⟩
  ·simp only[Int.toNat_natCast];exact Nat.div_lt_self (by omega) (by decide)
  ·simp only[Int.toNat_natCast,List.length_append,List.length_singleton,Nat.pow_succ]
   have h1:k / 1000000000*2≤k:=by omega
   have:=Nat.mul_le_mul_right (2^ds.length) h1
   rw[Nat.mul_assoc,Nat.mul_comm 2] at this
   omega
  ·simp only[Int.toNat_natCast]
   rw[hd,iL (by decide) hk0,List.append_assoc]
   rfl
 ·have hz:m.toNat=0:=by omega
  rw[hz,bY,List.append_nil] at hd
  simp only[xE,g0,g3,hp,VX,Nat.reduceEqDiff,Nat.reduceAdd]
  rw[bS,hd]
  exact RX (fun _=>rfl) rfl
theorem uA (a b:Nat) (ha:(aC 1000000000 a).length≤17592186044416) (hb:(aC 1000000000 b).length≤17592186044416):TC 155 [bS a,bS b] (VI (eZ a b)):=by
 refine TC.walk ⟨true,false⟩ MT rfl (Nat.le_of_ble_eq_true rfl) (by simp[aL,cA]) rfl ?_
 have fin:∀ {x:Int},x=eZ a b→fz depth [] (VI x)=some (VI (eZ a b)):=fun h=>by rw[h];exact aF rfl
 unfold bS gR
 by_cases hl:(((aC 1000000000 a).length:Nat):Int)=(((aC 1000000000 b).length:Nat):Int)
 ·have Bf:(aC 1000000000 a).length=(aC 1000000000 b).length:=by omega
  have w1:IntKind.i64.wrap ((((aC 1000000000 b).length:Nat):Int)-1)=(((aC 1000000000 b).length:Nat):Int)-1:=wrap64 (by omega) (by omega)
  simp only[yV,tX,hl,w1,VX,Nat.reduceEqDiff,Nat.reduceAdd]
  refine aQ (fun(j:Nat) ρ H=>j≤(aC 1000000000 b).length∧H=[]∧(aC 1000000000 a).drop j=(aC 1000000000 b).drop j∧ρ 0=aO tV (aC 1000000000 a)∧ρ 1=aO tV (aC 1000000000 b)∧ρ 5=VI ((j:Int)-1)) (fun j=>j) (aC 1000000000 b).length ⟨Nat.le_refl _,rfl,by rw[List.drop_length,←Bf,List.drop_length],rfl,rfl,rfl⟩ ?_
  rintro j ρ H ⟨hj,rfl,hd,h0,h1,h5⟩
  by_cases hz:(0:Int)≤(j:Int)-1
  ·obtain⟨i,rfl⟩:∃i,j=i+1:=⟨j-1,by omega⟩
   obtain⟨x,hx⟩:∃x,(aC 1000000000 a)[i]? = some x:=⟨_,List.getElem?_eq_getElem (by omega)⟩
   obtain⟨y,hy⟩:∃y,(aC 1000000000 b)[i]? = some y:=⟨_,List.getElem?_eq_getElem (by omega)⟩
   have Ec:((i+1:Nat):Int)-1=(i:Int):=by omega
   have e1:=aI (f:=tV) (t := .op) (H:=[]) (size:=1) (k := .i64) hx rfl
   have e2:=aI (f:=tV) (t := .op) (H:=[]) (size:=1) (k := .i64) hy rfl
   rw[Ec] at h5 hz
   have w2:IntKind.i64.wrap ((i:Int)-1)=(i:Int)-1:=wrap64 (by omega) (by omega)
   by_cases Ag:(x:Int)=(y:Int)
   ·simp only[nZ,h0,h1,h5,hz,e1,e2,Ag,w2,VX,Nat.reduceEqDiff,Nat.reduceAdd]
    have amI:x=y:=by omega
    subst amI
    refine⟨i,by omega,by omega,?_⟩
    obtain⟨g1,g2⟩:=List.getElem?_eq_some_iff.1 hx
    obtain⟨g3,g4⟩:=List.getElem?_eq_some_iff.1 hy
    rw[List.drop_eq_getElem_cons g1,List.drop_eq_getElem_cons g3,g2,g4,hd]
    exact⟨rfl,rfl⟩
   ·by_cases bA:(x:Int)<(y:Int)
    ·simp only[nZ,h0,h1,h5,hz,e1,e2,Ag,bA,VX,Nat.reduceEqDiff,Nat.reduceAdd]
     refine fin ?_
     have:=DU (fB (by decide) a) Bf hx hy hd (by omega)
     rw[cE (by decide),cE (by decide)] at this
     simp[eZ,this]
    ·simp only[nZ,h0,h1,h5,hz,e1,e2,Ag,bA,VX,Nat.reduceEqDiff,Nat.reduceAdd]
     refine fin ?_
     have:=DU (fB (by decide) b) Bf.symm hy hx hd.symm (by omega)
     rw[cE (by decide),cE (by decide)] at this
     rw[eZ,if_neg (by omega),if_neg (by omega)]
  ·have T5:j=0:=by omega
   subst T5
   simp only[nZ,h0,h1,h5,hz,VX,Nat.reduceEqDiff,Nat.reduceAdd]
   refine fin ?_
   have:=R6 (b:=1000000000) (by decide) (by simpa using hd)
   subst this
   simp[eZ]
 ·by_cases bA:(((aC 1000000000 a).length:Nat):Int)<(((aC 1000000000 b).length:Nat):Int)
  ·simp only[yV,tX,hl,bA,VX,Nat.reduceEqDiff,Nat.reduceAdd]
   refine fin ?_
   have:=DN (b:=1000000000) (by decide) (m:=a) (n:=b) (by omega)
   simp[eZ,this]
  ·simp only[yV,tX,hl,bA,VX,Nat.reduceEqDiff,Nat.reduceAdd]
   refine fin ?_
   have:=DN (b:=1000000000) (by decide) (m:=b) (n:=a) (by omega)
   rw[eZ,if_neg (by omega),if_neg (by omega)]
theorem Ju (ds:List Nat) (i:Nat):TC 186 [gR ds,VI (i:Int)] (tV (ds.getD i 0)):=by
 refine TC.walk ⟨true,false⟩ Je rfl (Nat.le_of_ble_eq_true rfl) (by simp[aL,xN];rfl) rfl ?_
 by_cases h:(i:Int)<(ds.length:Int)
 ·obtain⟨d,hd⟩:∃d,ds[i]? = some d:=⟨_,List.getElem?_eq_getElem (by omega)⟩
  have e1:=aI (f:=tV) (t := .op) (H:=[]) (size:=1) (k := .i64) hd rfl
  simp only[zQ,uO,dQ,h,e1,VX,Nat.reduceEqDiff,Nat.reduceAdd]
  rw[List.getD_eq_getElem?_getD,hd]
  exact aF rfl
 ·simp only[zQ,uO,dQ,h,VX,Nat.reduceEqDiff,Nat.reduceAdd]
  rw[List.getD_eq_getElem?_getD,List.getElem?_eq_none (by omega)]
  exact aF rfl
theorem Dn (n i:Nat):TC 186 [bS n,VI (i:Int)] (tV (n / 1000000000^i % 1000000000)):=by
 have:=Ju (aC 1000000000 n) i
 rwa [GX (by decide)] at this
theorem Hk (a b:Nat) (ha:(aC 1000000000 a).length<17592186044416) (hb:(aC 1000000000 b).length<17592186044416):TC 154 [bS a,bS b] (bS (a+b)):=by
 refine TC.walk ⟨true,false⟩ HO rfl (Nat.le_of_ble_eq_true rfl) (by simp[aL,cA]) (mM _) ?_
 simp only[Du,AI,Kb,VX,Nat.reduceEqDiff,Nat.reduceAdd]
 have hL:=OE (b:=1000000000) (by decide) (m:=a) (n:=b) (k:=17592186044416-1) (by omega) (by omega)
 refine aQ (fun(s:Nat×List Nat×Nat) ρ H=>s.1=s.2.1.length∧H=[.row s.2.1.length (s.2.1.map tV) 1 true]∧s.2.2≤1∧aC 1000000000 (a+b)=s.2.1++aC 1000000000 (a / 1000000000^s.1+b / 1000000000^s.1+s.2.2)∧ρ 0=bS a∧ρ 1=bS b∧ρ 5 = .ref 0 s.2.1.length 0 s.2.1.length s.2.1.length∧ρ 6=VI s.2.2∧ρ 7=VI s.1)
  (fun s=>(aC 1000000000 (a+b)).length-s.1) (0,[],0) ⟨rfl,rfl,by simp,by simp,rfl,rfl,rfl,rfl,rfl⟩ ?_
 rintro⟨i,ds,c⟩ ρ H ⟨hi,rfl,hc,hd,g0,g1,g5,g6,g7⟩
 simp only at hi hc hd g5 g6 g7
 have la:=DP (b:=1000000000) (by decide) (n:=a) (i:=i)
 have lb:=DP (b:=1000000000) (by decide) (n:=b) (i:=i)
 have c1:=Dn a i
 have c2:=Dn b i
 have m1:=Nat.mod_lt (a / 1000000000^i) (show 0<1000000000 by decide)
 have m2:=Nat.mod_lt (b / 1000000000^i) (show 0<1000000000 by decide)
 have Wn:a / 1000000000^i+b / 1000000000^i+c≠0→aC 1000000000 (a+b)=ds++(a / 1000000000^i % 1000000000+b / 1000000000^i % 1000000000+c) % 1000000000::aC 1000000000 (a / 1000000000^(i+1)+b / 1000000000^(i+1)+(a / 1000000000^i % 1000000000+b / 1000000000^i % 1000000000+c) / 1000000000):=fun h=>by
  rw[hd,Wz (by decide) h,sK,sK]
 generalize a / 1000000000^i=A at *
 generalize b / 1000000000^i=B at *
 by_cases KC:A+B+c=0
 ·have h1:¬(i:Int)<((aC 1000000000 a).length:Int):=by omega
  have h2:¬(i:Int)<((aC 1000000000 b).length:Int):=by omega
  have h3:¬(0:Int)<(c:Int):=by omega
  simp only[jV,g0,g1,g5,g6,g7,cZ,h1,h2,h3,VX,Nat.reduceEqDiff,Nat.reduceAdd]
  rw[KC,bY,List.append_nil] at hd
  rw[bS,hd]
  exact RX (fun _=>rfl) rfl
 ·have hdn:=Wn KC
  have bA:i<(aC 1000000000 (a+b)).length:=by
   rw[hdn,List.length_append,List.length_cons]
   omega
  have w1:IntKind.i64.wrap (((A % 1000000000:Nat):Int)+((B % 1000000000:Nat):Int))=((A % 1000000000+B % 1000000000:Nat):Int):=wrapN _ (by omega) (by omega)
  have w2:IntKind.i64.wrap (((A % 1000000000+B % 1000000000:Nat):Int)+(c:Int))=((A % 1000000000+B % 1000000000+c:Nat):Int):=wrapN _ (by omega) (by omega)
  have wi:IntKind.i64.wrap ((i:Int)+1)=((i+1:Nat):Int):=wrapN (i+1) (by omega) (by omega)
  have r1:=Ou (A % 1000000000+B % 1000000000+c)
  have q1:=NO (A % 1000000000+B % 1000000000+c) (by omega)
  have a1:=adZ (ds:=ds) (d:=(A % 1000000000+B % 1000000000+c) % 1000000000) (by omega)
  have alI:aC 1000000000 (a+b)=(ds++[(A % 1000000000+B % 1000000000+c) % 1000000000])++aC 1000000000 (a / 1000000000^(i+1)+b / 1000000000^(i+1)+(A % 1000000000+B % 1000000000+c) / 1000000000):=by rw[hdn,List.append_assoc];rfl
  by_cases h1:(i:Int)<((aC 1000000000 a).length:Int)
  ·simp only[jV,g0,g1,g5,g6,g7,cZ,h1,c1,c2,w1,w2,wi,r1,q1,sF,uJ,a1,VX,Nat.reduceEqDiff,Nat.reduceAdd]
   refine⟨(i+1,ds++[(A % 1000000000+B % 1000000000+c) % 1000000000],(A % 1000000000+B % 1000000000+c) / 1000000000),by simp only;omega,by simp;omega,by simp,by simp only;omega,alI,?_⟩
   simp only[List.length_append,List.length_singleton]
   try (repeat' apply And.intro)<;>first | rfl | trivial
  ·by_cases h2:(i:Int)<((aC 1000000000 b).length:Int)
   ·simp only[jV,g0,g1,g5,g6,g7,cZ,h1,h2,c1,c2,w1,w2,wi,r1,q1,sF,uJ,a1,VX,Nat.reduceEqDiff,Nat.reduceAdd]
    refine⟨(i+1,ds++[(A % 1000000000+B % 1000000000+c) % 1000000000],(A % 1000000000+B % 1000000000+c) / 1000000000),by simp only;omega,by simp;omega,by simp,by simp only;omega,alI,?_⟩
    simp only[List.length_append,List.length_singleton]
    try (repeat' apply And.intro)<;>first | rfl | trivial
   ·have h3:(0:Int)<(c:Int):=by omega
    simp only[jV,g0,g1,g5,g6,g7,cZ,h1,h2,h3,c1,c2,w1,w2,wi,r1,q1,sF,uJ,a1,VX,Nat.reduceEqDiff,Nat.reduceAdd]
    refine⟨(i+1,ds++[(A % 1000000000+B % 1000000000+c) % 1000000000],(A % 1000000000+B % 1000000000+c) / 1000000000),by simp only;omega,by simp;omega,by simp,by simp only;omega,alI,?_⟩
    simp only[List.length_append,List.length_singleton]
    try (repeat' apply And.intro)<;>first | rfl | trivial
end Go.PM
namespace Go.PM
theorem iP {es:List VV} {g e:Nat} {w:Bool}:aH [.row g es e w] 0 g=some (es,e,w):=aS
theorem RH {x y:Nat} {ρ:dG} {Q:VQ} (hx:(aC 4294967296 x).length≤17592186044416) (hl:(aC 4294967296 y).length≤(aC 4294967296 x).length) (h0:ρ 0=bM x) (h1:ρ 1=bM y) (h5:ρ 5 = .ref 0 0 0 ((aC 4294967296 x).length+1) ((aC 4294967296 x).length+1)) (h6:ρ 6=VK .u64 0) (h20:ρ 20=VI (aC 4294967296 x).length) (h21:ρ 21=VI 0)
  (hQ:∀(bC:dG) (outs:List Nat) (c:Nat),bC 0=bM x→bC 5 = .ref 0 0 0 ((aC 4294967296 x).length+1) ((aC 4294967296 x).length+1)→bC 6=VK .u64 (c:Nat)→outs.length=(aC 4294967296 x).length+1→(∀d∈outs,d<4294967296)→c≤1→x+y=val 4294967296 (outs.take (aC 4294967296 x).length)+4294967296^(aC 4294967296 x).length*c→Q (.exit 0) bC [.row 0 (outs.map uV) 1 true]) :
  VW ⟨true,false⟩ 0 (.loop jZ) Q ρ [.row 0 ((List.replicate ((aC 4294967296 x).length+1) 0).map uV) 1 true]:=by
 unfold bM at h0 h1 hQ
 have vx:=cE (b:=4294967296) (by decide) x
 have vy:=cE (b:=4294967296) (by decide) y
 have lx:=fB (b:=4294967296) (by decide) x
 have ly:=fB (b:=4294967296) (by decide) y
 generalize aC 4294967296 x=xs at *
 generalize aC 4294967296 y=ys at *
 refine aQ (fun(s:Nat×List Nat×Nat) ρ H=>s.1≤xs.length∧H=[.row 0 (s.2.1.map uV) 1 true]∧s.2.1.length=xs.length+1∧(∀d∈s.2.1,d<4294967296)∧s.2.2≤1∧val 4294967296 (xs.take s.1)+val 4294967296 (ys.take s.1)=val 4294967296 (s.2.1.take s.1)+4294967296^s.1*s.2.2 ∧
  ρ 0=AO xs∧ρ 1=AO ys∧ρ 5 = .ref 0 0 0 (xs.length+1) (xs.length+1)∧ρ 6=VK .u64 s.2.2∧ρ 20=VI xs.length∧ρ 21=VI s.1) (fun s=>xs.length-s.1) (0,List.replicate (xs.length+1) 0,0) ?_ ?_
 ·exact⟨Nat.zero_le _,rfl,by simp,zY (by decide) _,by simp,by simp[val],h0,h1,h5,h6,h20,h21⟩
 ·rintro⟨i,outs,c⟩ ρ H ⟨hi,rfl,iO,kL,hc,hv,g0,g1,g5,g6,g20,g21⟩
  simp only at hi iO kL hc hv g6 g21
  by_cases cP:(i:Int)<(xs.length:Int)
  ·obtain⟨a,ha⟩:∃a,xs[i]? = some a:=⟨_,List.getElem?_eq_getElem (by omega)⟩
   have la:=lx a (List.mem_of_getElem? ha)
   have e1:=aI (f:=uV) (t := .op) (H:=[.row 0 (outs.map uV) 1 true]) (size:=1) (k := .i64) ha rfl
   have w1:IntKind.u64.wrap (a:Int)=(a:Int):=dT _ (by omega)
   have w2:IntKind.u64.wrap ((c:Int)+(a:Int))=((c+a:Nat):Int):=by rw[←Int.natCast_add];exact dT _ (by omega)
   have wi:IntKind.i64.wrap ((i:Int)+1)=((i+1:Nat):Int):=wrapN (i+1) (by omega) (by omega)
   have e3:=aY (H:=[.row 0 (outs.map uV) 1 true]) (b:=0) (g:=0) (o:=0) (n:=xs.length+1) (c:=xs.length+1) (i:=i) (k := .i64) iP (by omega)
   have e4:∀s:Nat,bX 0 1 (.ptr 0 0 i 0) (uV s) [.row 0 (outs.map uV) 1 true]=some [.row 0 ((outs.set i s).map uV) 1 true]:=fun s=>by
    rw[fF (f:=uV) (e:=1) iP (by omega) (Nat.le_refl _) rfl rfl]
    rfl
   have step:∀b,b<4294967296→(∀d,ys[i]? = some d→d=b)→(ys.length≤i→b=0) →
     (i+1≤xs.length∧(outs.set i ((c+a+b) % 4294967296)).length=xs.length+1∧(∀d∈outs.set i ((c+a+b) % 4294967296),d<4294967296)∧(c+a+b) / 4294967296≤1∧val 4294967296 (xs.take (i+1))+val 4294967296 (ys.take (i+1))=val 4294967296 ((outs.set i ((c+a+b) % 4294967296)).take (i+1))+4294967296^(i+1)*((c+a+b) / 4294967296)):=by
    intro b hb h1 h2
    refine⟨by omega,by rw[List.length_set];exact iO,lA kL (Nat.mod_lt _ (by decide)),by omega,?_⟩
    have hy:val 4294967296 (ys.take (i+1))=val 4294967296 (ys.take i)+4294967296^i*b:=by
     cases SZ:ys[i]? with
     | some d=>rw[aV SZ,h1 d SZ]
     |
      none =>
      have hle:=List.getElem?_eq_none_iff.1 SZ
      rw[h2 hle,iU hle,iU (by omega),Nat.mul_zero,Nat.add_zero]
    rw[aV ha,hy,eE (by omega),Nat.pow_succ]
    exact Fh hv rfl (Nat.mod_add_div _ _)
   by_cases bA:(i:Int)<(ys.length:Int)
   ·obtain⟨b,hb⟩:∃b,ys[i]? = some b:=⟨_,List.getElem?_eq_getElem (by omega)⟩
    have lb:=ly b (List.mem_of_getElem? hb)
    have e2:=aI (f:=uV) (t := .op) (H:=[.row 0 (outs.map uV) 1 true]) (size:=1) (k := .i64) hb rfl
    have w3:IntKind.u64.wrap (b:Int)=(b:Int):=dT _ (by omega)
    have w4:IntKind.u64.wrap (((c+a:Nat):Int)+(b:Int))=((c+a+b:Nat):Int):=by rw[←Int.natCast_add];exact dT _ (by omega)
    obtain⟨s1,s2,s3,s4,s5⟩:=step b lb (fun d hd=>by rw[hb] at hd;injection hd with hd;exact hd.symm) (fun h=>by omega)
    simp only[jZ,g0,g1,g5,g6,g20,g21,cP,bA,e1,e2,e3,e4,w1,w2,w3,w4,wi,wrap32,nC,VX,Nat.reduceEqDiff,Nat.reduceAdd]
    exact⟨(i+1,outs.set i ((c+a+b) % 4294967296),(c+a+b) / 4294967296),by simp only;omega,s1,rfl,s2,s3,s4,s5,by (repeat' apply And.intro)<;>first | rfl | trivial⟩
   ·obtain⟨s1,s2,s3,s4,s5⟩:=step 0 (by decide) (fun d hd=>by have:=(List.getElem?_eq_some_iff.1 hd).1;omega) (fun _=>rfl)
    simp only[Nat.add_zero] at s2 s3 s4 s5
    simp only[jZ,g0,g1,g5,g6,g20,g21,cP,bA,e1,e3,e4,w1,w2,wi,wrap32,nC,VX,Nat.reduceEqDiff,Nat.reduceAdd]
    exact⟨(i+1,outs.set i ((c+a) % 4294967296),(c+a) / 4294967296),by simp only;omega,s1,rfl,s2,s3,s4,s5,by (repeat' apply And.intro)<;>first | rfl | trivial⟩
  ·have nS:i=xs.length:=by omega
   subst nS
   simp only[jZ,g0,g1,g5,g6,g20,g21,cP,VX,Nat.reduceEqDiff,Nat.reduceAdd]
   refine hQ _ outs c g0 g5 g6 iO kL hc ?_
   rw[List.take_length,List.take_of_length_le (l:=ys) hl,vx,vy] at hv
   exact hv
theorem CX (a b:Nat) (ha:(aC 4294967296 a).length≤17592186044416) (hb:(aC 4294967296 b).length≤17592186044416):TC 145 [bM a,bM b] (bM (a+b)):=by
 refine TC.walk ⟨true,false⟩ Ii rfl (Nat.le_of_ble_eq_true rfl) (by simp[aL,bO]) (pT _) ?_
 have mk:∀n:Nat,n≤17592186044416→AB [.int .u32 0] 4 (VI ((n+1:Nat):Int)) (VI ((n+1:Nat):Int)) []=some (.ref 0 0 0 (n+1) (n+1),[.row 0 ((List.replicate (n+1) 0).map uV) 1 true]):=fun n hn=>qV (f:=uV) (x:=0) rfl (by omega) (by omega)
 have fin:∀(x y:Nat) (outs:List Nat) (c:Nat),(aC 4294967296 x).length≤17592186044416→x+y=a+b→outs.length=(aC 4294967296 x).length+1→(∀d∈outs,d<4294967296)→c≤1→x+y=val 4294967296 (outs.take (aC 4294967296 x).length)+4294967296^(aC 4294967296 x).length*c →
   bH 1 (.ref 0 0 0 ((aC 4294967296 x).length+1) ((aC 4294967296 x).length+1)) (VI ((aC 4294967296 x).length:Nat)) [.row 0 (outs.map uV) 1 true]=some (.ptr 0 0 (0+(aC 4294967296 x).length) 0) ∧
   bX 0 1 (.ptr 0 0 (aC 4294967296 x).length 0) (uV (c % 4294967296)) [.row 0 (outs.map uV) 1 true]=some [.row 0 ((outs.set (aC 4294967296 x).length (c % 4294967296)).map uV) 1 true] ∧
   ∀lo K,(∀k,k≤(aC 4294967296 x).length+1→(outs.set (aC 4294967296 x).length (c % 4294967296)).take k=aC 4294967296 (a+b)→K (.ref 0 0 0 k ((aC 4294967296 x).length+1)) [.row 0 ((outs.set (aC 4294967296 x).length (c % 4294967296)).map uV) 1 true]) →
    cT 182 [.ref 0 0 0 ((aC 4294967296 x).length+1) ((aC 4294967296 x).length+1)] lo [.row 0 ((outs.set (aC 4294967296 x).length (c % 4294967296)).map uV) 1 true] K:=by
  intro x y outs c hx Ag iO kL hc hv
  have G1:=lA (i:=(aC 4294967296 x).length) kL (show c % 4294967296<4294967296 from Nat.mod_lt _ (by decide))
  have D7:val 4294967296 (outs.set (aC 4294967296 x).length (c % 4294967296))=a+b:=by
   have h1:=eE (b:=4294967296) (xs:=outs) (i:=(aC 4294967296 x).length) (d:=c % 4294967296) (by omega)
   rw[List.take_of_length_le (by rw[List.length_set];omega)] at h1
   rw[h1,Nat.mod_eq_of_lt (Nat.lt_of_le_of_lt hc (by decide)),←hv,Ag]
  refine⟨aY iP (by omega),?_,?_⟩
  ·rw[fF (f:=uV) (e:=1) iP (by omega) (Nat.le_refl _) rfl rfl]
   rfl
  ·intro lo K hk
   have ajL:(outs.set (aC 4294967296 x).length (c % 4294967296)).length=(aC 4294967296 x).length+1:=by rw[List.length_set];exact iO
   exact qT iP (by omega) (Nat.le_refl _) (by omega) (fun d hd=>G1 d (List.mem_of_mem_take hd)) (by rw[List.take_of_length_le (by omega)];exact D7) hk
 by_cases hsw:(((aC 4294967296 a).length:Nat):Int)<(((aC 4294967296 b).length:Nat):Int)
 ·have w1:IntKind.i64.wrap (((aC 4294967296 b).length:Int)+1)=(((aC 4294967296 b).length+1:Nat):Int):=wrapN _ (by omega) (by omega)
  simp only[wV,tP,bM,hsw,w1,mk _ hb,VX,Nat.reduceEqDiff,Nat.reduceAdd]
  refine RH (x:=b) (y:=a) hb (by omega) rfl rfl rfl rfl rfl rfl ?_
  intro bC outs c g0 g5 g6 iO kL hc hv
  obtain⟨e1,e2,e3⟩:=fin b a outs c hb (by omega) iO kL hc hv
  simp only[g0,g5,g6,bM,wrap32,e1,e2,VX,Nat.reduceEqDiff,Nat.reduceAdd]
  refine e3 _ _ fun k hk he => ?_
  simp only[VX,Nat.reduceEqDiff,Nat.reduceAdd]
  exact OD iP (by rw[List.length_set];omega) hk he
 ·have w1:IntKind.i64.wrap (((aC 4294967296 a).length:Int)+1)=(((aC 4294967296 a).length+1:Nat):Int):=wrapN _ (by omega) (by omega)
  simp only[wV,tP,bM,hsw,w1,mk _ ha,VX,Nat.reduceEqDiff,Nat.reduceAdd]
  refine RH (x:=a) (y:=b) ha (by omega) rfl rfl rfl rfl rfl rfl ?_
  intro bC outs c g0 g5 g6 iO kL hc hv
  obtain⟨e1,e2,e3⟩:=fin a b outs c ha rfl iO kL hc hv
  simp only[g0,g5,g6,bM,wrap32,e1,e2,VX,Nat.reduceEqDiff,Nat.reduceAdd]
  refine e3 _ _ fun k hk he => ?_
  simp only[VX,Nat.reduceEqDiff,Nat.reduceAdd]
  exact OD iP (by rw[List.length_set];omega) hk he
end Go.PM