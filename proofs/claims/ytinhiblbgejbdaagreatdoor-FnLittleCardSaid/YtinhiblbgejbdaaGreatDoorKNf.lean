/- Texts of a claim, in one: part 6. -/
import Derived.KernelRfl
import Derived.Test.YtinhiblbgejbdaaGreatDoorKNe
set_option linter.unusedSimpArgs false
set_option linter.unusedVariables false
namespace Go.PM
def zH:aH:=(LS [LO 6 (.mv (.const (.string ⟨#[]⟩))),LO 7 (.mv LF)] (LS [LM 11 0,LM 12 1,LM 13 2,LO 14 (.call 52 [(LT 11),(LT 12),(LT 13)]),LM 10 14,LO 15 (LX 10 0),LO 16 (LX 10 1),LM 8 15,LM 9 16] (.seq (LS [LM 17 9,LO 18 (.un .not (LT 17)),LM 19 18,LZ 19 20 (.mv (LT 8)),LZ 19 21 (.len (LT 20)),LZ 19 22 (.bin .eql (LT 21) (LI 0)),LO 23 (.pick (LT 19) LG (LT 22))] (.cond (LT 23) (LS [LO 6 (.mv (.const (.string ⟨#[]⟩))),LO 7 (.mv LF)] .ret) .skip)) (LS [LM 24 8,LO 25 (.call 50 [(LT 24)]),LM 26 8,LO 27 (.len (LT 26)),LO 28 (.call 53 [(LT 25),(LT 27)]),LO 29 (LX 28 0),LO 30 (LX 28 1),LM 6 29,LM 7 30] .ret))))
def Co:aU:=⟨31,[(.tmp 6),(.tmp 7)],zH⟩
theorem Gw:iY 19=some Co:=by kernel_rfl
def Be:aH:=(LS [LO 6 (.mv (.const (.slice none 0 0))),LO 7 (.mv LF)] (LS [LM 11 0,LM 12 1,LM 13 2,LO 14 (.call 9 [(LT 11),(LT 12),(LT 13)]),LM 10 14,LO 15 (LX 10 0),LO 16 (LX 10 1),LM 8 15,LM 9 16] (LS [LM 17 2,LM 18 8,LO 19 (.call 47 [(LT 17),(LT 18),(.func 90)]),LM 20 9,LM 6 19,LM 7 20] .ret)))
def D3:aU:=⟨21,[(.tmp 6),(.tmp 7)],Be⟩
theorem HU:iY 52=some D3:=by kernel_rfl
def vP:aH:=(LS [LO 9 (.bin .lss (LT 8) (LT 7))] (.seq (.cond (LT 9) .skip (.exit 0)) (.seq (.block 1 (LS [LO 10 (.iaddr 1 (LT 6) (LT 8)),LO 11 (LL 10),LM 5 11] (.fG [LM 12 3,LM 13 5,LO 14 (.bin .add (LT 12) (LT 13)),LM 3 14]))) (.fG [LO 15 (.bin .add (LT 8) (LI 1)),LM 8 15]))))
def Dy:aH:=(LS [LO 2 (.mv (LI 0))] (LS [LO 3 (.mv (LI 0))] (.seq (LS [LM 6 0,LO 7 (.len (LT 6)),LO 8 (.mv (LI 0))] (.block 0 (.loop vP))) (LS [LM 16 3,LM 2 16] .ret))))
def HZ:aU:=⟨17,[(.tmp 2)],Dy⟩
theorem L6:iY 50=some HZ:=by kernel_rfl
def cH:aH:=(LS [LO 8 (.bin .lss (LT 7) (LT 6))] (.seq (.cond (LT 8) .skip (.exit 0)) (.seq (.block 1 (LS [LM 9 7,LO 10 (.iaddr 3 (LT 5) (LT 7)),LO 11 (LK 10),LO 4 (.new [(.int .i64 0),(.int .i64 0),(.int .i64 0)]),LM 3 9,LN (.store 3 (LT 4) (LT 11))] (LS [LO 12 (LA 0 4),LO 13 (LL 12),LQ 14 (.call 44 [(LT 13),(LI 0),(LI 10000)]),LO 15 (.un .not (LT 14)),LM 16 15,LZ 16 17 (LA 1 4),LZ 16 18 (LL 17),⟨(some 19),(.call 44 [(LT 18),(LI 1),(LI 1000)]),(some (16,false)),true,[]⟩,LZ 16 20 (.un .not (LT 19)),LO 21 (.pick (LT 16) LG (LT 20)),LM 22 21,LZ 22 23 (LA 2 4),LZ 22 24 (LL 23),⟨(some 25),(.call 44 [(LT 24),(LI 0),(LI 9)]),(some (22,false)),true,[]⟩,LZ 22 26 (.un .not (LT 25)),LO 27 (.pick (LT 22) LG (LT 26)),LM 28 27,LZ 28 29 (.mv (LT 3)),LZ 28 30 (.bin .gtr (LT 29) (LI 0)),LZ 28 31 (.mv (LT 30)),LY 31 32 (.mv (LT 0)),LY 31 33 (.mv (LT 3)),LY 31 34 (.bin .sub (LT 33) (LI 1)),LY 31 35 (.iaddr 3 (LT 32) (LT 34)),LY 31 36 (LA 0 35),LY 31 37 (LL 36),LY 31 38 (LA 0 4),LY 31 39 (LL 38),LY 31 40 (.bin .gtr (LT 37) (LT 39)),LZ 28 41 (.pick (LT 31) (LT 40) LF),LO 42 (.pick (LT 28) LG (LT 41))] (.cond (LT 42) (LS [LO 2 (.mv LF)] .ret) .skip)))) (.fG [LO 43 (.bin .add (LT 7) (LI 1)),LM 7 43]))))
def rK:aH:=(LS [LO 2 (.mv LF)] (.seq (LS [LM 5 0,LO 6 (.len (LT 5)),LO 7 (.mv (LI 0))] (.block 0 (.loop cH))) (LS [LM 44 0,LO 45 (.len (LT 44)),LO 46 (.bin .leq (LT 45) (LI 24)),LM 2 46] .ret)))
def vG:aU:=⟨47,[(.tmp 2)],rK⟩
theorem B0:iY 32=some vG:=by kernel_rfl
def rD:aH:=(LS [LO 6 (.mv (.const (.slice none 0 0))),LO 7 (.mv LF)] (.seq (LS [LM 8 0,LM 9 1,LM 10 2,LO 11 (.call 30 [(LT 8),(LT 9),(LT 10)]),LO 12 (.un .not (LT 11))] (.cond (LT 12) (LS [LO 6 (.mv (.const (.slice none 0 0))),LO 7 (.mv LF)] .ret) .skip)) (LS [LM 13 0,LM 14 1,LM 15 2,LO 16 (.call 31 [(LT 13),(LT 14),(LI 24),(LT 15)]),LM 6 16,LO 7 (.mv LG)] .ret)))
def vN:aU:=⟨17,[(.tmp 6),(.tmp 7)],rD⟩
theorem Gh:iY 9=some vN:=by kernel_rfl
def vV:aH:=(LS [LO 14 (.bin .lss (LT 13) (LT 12))] (.seq (.cond (LT 14) .skip (.exit 0)) (.seq (.block 1 (LS [LM 15 13,LO 16 (.iaddr 1 (LT 11) (LT 13)),LO 17 (LL 16),LM 8 15,LM 9 17] (.seq (LS [LM 18 9,LO 19 (.bin .geq (LT 18) (LI 0))] (.cond (LT 19) (.fG [LM 20 9,LM 21 2,LM 22 0,LM 23 8,LO 24 (.iaddr 3 (LT 22) (LT 23)),LO 25 (LK 24),LO 26 (.callv (LT 21) [(LT 25)]),LO 27 (.bin .add (LT 20) (LT 26)),LM 9 27]) .skip)) (.fG [LM 28 7,LM 29 9,LO 30 (.lit [(.int .i64 0)] 1 [(0,(LT 29))]),LO 31 (.app 1 8 (LT 28) (LT 30)),LM 7 31])))) (.fG [LO 32 (.bin .add (LT 13) (LI 1)),LM 13 32]))))
def DL:aH:=(LS [LO 6 (.mv (.const (.slice none 0 0)))] (LS [LO 10 (.lit [(.int .i64 0)] 0 []),LM 7 10] (.seq (LS [LM 11 1,LO 12 (.len (LT 11)),LO 13 (.mv (LI 0))] (.block 0 (.loop vV))) (LS [LM 33 7,LM 6 33] .ret))))
def H4:aU:=⟨34,[(.tmp 6)],DL⟩
theorem Lp:iY 47=some H4:=by kernel_rfl
def wE:aH:=(LS [LO 1 (.box (LT 0)),LO 2 (.mv (LI 0))] (LS [LO 3 (LA 0 1),LO 4 (LL 3),LO 5 (.un .neg (LT 4)),LM 2 5] .ret))
def A9:aU:=⟨6,[(.tmp 2)],wE⟩
theorem EI:iY 90=some A9:=by kernel_rfl
def qD:aH:=(LS [LO 6 (.mv LF)] (LS [LM 7 0,LO 8 (.call 44 [(LT 7),(LI 0),(LI 3)]),LM 9 8,LY 9 10 (.mv (LT 1)),LY 9 11 (.call 44 [(LT 10),(LI 1),(LI 8)]),LO 12 (.pick (LT 9) (LT 11) LF),LM 13 12,LY 13 14 (.mv (LT 2)),LY 13 15 (.call 32 [(LT 14)]),LO 16 (.pick (LT 13) (LT 15) LF),LM 6 16] .ret))
def uI:aU:=⟨17,[(.tmp 6)],qD⟩
theorem I5:iY 30=some uI:=by kernel_rfl
def gA:aH:=(LS [LO 45 (.bin .lss (LT 44) (LT 43))] (.seq (.cond (LT 45) .skip (.exit 2)) (.seq (.block 3 (LS [LO 46 (.iaddr 1 (LT 42) (LT 44)),LO 47 (LL 46),LM 15 47] (LS [LO 48 (LL 13),LO 49 (.bin .lss (LT 48) (LI 0)),LM 50 49,LZ 50 51 (.mv (LT 10)),LZ 50 52 (.len (LT 51)),LZ 50 53 (.bin .gtr (LT 52) (LI 0)),LZ 50 54 (.mv (LT 53)),LY 54 55 (.mv (LT 15)),LY 54 56 (LL 13),LY 54 57 (.bin .lss (LT 55) (LT 56)),LZ 50 58 (.pick (LT 54) (LT 57) LF),LO 59 (.pick (LT 50) LG (LT 58))] (.cond (LT 59) (.fG [LM 60 15,LN (.store 1 (LT 13) (LT 60))]) .skip)))) (.fG [LO 61 (.bin .add (LT 44) (LI 1)),LM 44 61]))))
def iH:aH:=(.seq (LS [LM 65 12,LM 66 3,LO 67 (.len (LT 66)),LO 68 (.bin .lss (LT 65) (LT 67)),LM 69 68,LY 69 70 (.mv (LT 3)),LY 69 71 (.mv (LT 12)),LY 69 72 (.iaddr 3 (LT 70) (LT 71)),LY 69 73 (LA 0 72),LY 69 74 (LL 73),LY 69 75 (LL 13),LY 69 76 (.bin .eql (LT 74) (LT 75)),LO 77 (.pick (LT 69) (LT 76) LF)] (.cond (LT 77) .skip (.exit 4))) (.block 5 (.seq (LS [LM 78 10,LO 79 (.len (LT 78)),LM 80 11,LO 81 (.len (LT 80)),LO 82 (.bin .add (LT 79) (LT 81)),LM 83 2,LO 84 (.bin .lss (LT 82) (LT 83))] (.cond (LT 84) (.fG [LM 85 10,LM 86 12,LO 87 (.lit [(.int .i64 0)] 1 [(0,(LT 86))]),LO 88 (.app 1 8 (LT 85) (LT 87)),LM 10 88]) .skip)) (.fG [LM 89 12,LO 90 (.bin .add (LT 89) (LI 1)),LM 12 90]))))
def jD:aH:=(.seq (LS [LM 91 11,LO 92 (.len (LT 91)),LM 93 1,LO 94 (.bin .lss (LT 92) (LT 93)),LM 95 94,LY 95 96 (.mv (LT 10)),LY 95 97 (.len (LT 96)),LY 95 98 (.bin .gtr (LT 97) (LI 0)),LO 99 (.pick (LT 95) (LT 98) LF)] (.cond (LT 99) .skip (.exit 6))) (.block 7 (LS [LM 100 0,LM 101 10,LM 102 3,LO 103 (.call 75 [(LT 100),(LT 101),(LT 102)]),LM 16 103] (LS [LM 104 10,LM 105 16,LO 106 (.iaddr 1 (LT 104) (LT 105)),LO 107 (LL 106),LM 17 107] (LS [LM 108 10,LM 109 16,LM 110 16,LO 111 (.bin .add (LT 110) (LI 1)),LO 112 (.call 76 [(LT 108),(LT 109),(LT 111)]),LM 10 112] (LS [LM 113 9,LM 114 17,LO 115 (LL 13),LO 116 (.iaddr 1 (LT 113) (LT 114)),LN (.store 1 (LT 116) (LT 115))] (.fG [LM 117 11,LO 118 (LL 13),LM 119 3,LM 120 17,LO 121 (.iaddr 3 (LT 119) (LT 120)),LO 122 (LA 1 121),LO 123 (LL 122),LO 124 (.bin .add (LT 118) (LT 123)),LQ 125 (.lit [(.int .i64 0)] 1 [(0,(LT 124))]),LO 126 (.app 1 8 (LT 117) (LT 125)),LM 11 126])))))))
def AZ:aH:=(.seq (LS [LM 24 12,LM 25 3,LO 26 (.len (LT 25)),LO 27 (.bin .lss (LT 24) (LT 26)),LM 28 27,LZ 28 29 (.mv (LT 10)),LZ 28 30 (.len (LT 29)),LZ 28 31 (.bin .gtr (LT 30) (LI 0)),LO 32 (.pick (LT 28) LG (LT 31))] (.cond (LT 32) .skip (.exit 0))) (.block 1 (LS [LO 13 (.new [(.int .i64 0)]),LN (.store 1 (LT 13) (LI (-1)))] (.seq (LS [LM 33 12,LM 34 3,LO 35 (.len (LT 34)),LO 36 (.bin .lss (LT 33) (LT 35))] (.cond (LT 36) (.fG [LM 37 3,LM 38 12,LO 39 (.iaddr 3 (LT 37) (LT 38)),LO 40 (LA 0 39),LO 41 (LL 40),LN (.store 1 (LT 13) (LT 41))]) .skip)) (.seq (LS [LM 42 11,LO 43 (.len (LT 42)),LO 44 (.mv (LI 0))] (.block 2 (.loop gA))) (LS [LM 62 11,LO 63 (.mkfn 74 [(LT 13)]),LO 64 (.call 73 [(LT 62),(LT 63)]),LM 11 64] (.seq (.block 4 (.loop iH)) (.block 6 (.loop jD)))))))))
def B5:aH:=(LS [LO 8 (.mv (.const (.slice none 0 0)))] (LS [LO 18 (.lit [(.int .i64 0)] 1 [(0,(LI (-1)))]),LM 19 3,LO 20 (.len (LT 19)),LO 21 (.call 72 [(LT 18),(LT 20)]),LM 9 21] (LS [LO 22 (.lit [(.int .i64 0)] 0 []),LO 23 (.lit [(.int .i64 0)] 0 []),LM 10 22,LM 11 23,LO 12 (.mv (LI 0))] (.seq (.block 0 (.loop AZ)) (LS [LM 127 9,LM 8 127] .ret)))))
def Fw:aU:=⟨128,[(.tmp 8)],B5⟩
theorem Jn:iY 31=some Fw:=by kernel_rfl
def zL:aH:=(LS [LO 3 (.mv LF)] (LS [LM 4 0,LO 5 (LL 1),LO 6 (.bin .leq (LT 4) (LT 5)),LM 3 6] .ret))
def Cp:aU:=⟨7,[(.tmp 3)],zL⟩
theorem F9:iY 74=some Cp:=by kernel_rfl
def jZ:aH:=(LS [LO 24 (.bin .lss (LT 23) (LT 22))] (.seq (.cond (LT 24) .skip (.exit 1)) (.seq (.block 2 (LS [LM 25 23,LO 26 (.iaddr 1 (LT 21) (LT 23)),LO 27 (LL 26),LM 8 25,LM 9 27] (LS [LM 28 2,LM 29 9,LO 30 (.iaddr 3 (LT 28) (LT 29)),LO 31 (LK 30),LM 32 2,LM 33 1,LM 34 7,LO 35 (.iaddr 1 (LT 33) (LT 34)),LO 36 (LL 35),LO 37 (.iaddr 3 (LT 32) (LT 36)),LO 38 (LK 37),LQ 10 (.new [(.int .i64 0),(.int .i64 0),(.int .i64 0)]),LQ 11 (.new [(.int .i64 0),(.int .i64 0),(.int .i64 0)]),⟨none,(.store 3 (LT 10) (LT 31)),none,false,[((LT 35),(LT 10)),((LT 37),(LT 10))]⟩,LN (.store 3 (LT 11) (LT 38))] (LS [LM 39 0,LO 40 (.bin .eql (LT 39) (LI 2)),LM 41 40,LY 41 42 (LA 1 10),LY 41 43 (LL 42),LY 41 44 (LA 1 11),LY 41 45 (LL 44),LY 41 46 (.bin .lss (LT 43) (LT 45)),LO 47 (.pick (LT 41) (LT 46) LF),LM 48 47,LZ 48 49 (.mv (LT 0)),LZ 48 50 (.bin .eql (LT 49) (LI 3)),LZ 48 51 (.mv (LT 50)),LY 51 52 (LA 2 10),LY 51 53 (LL 52),LY 51 54 (LA 2 11),LY 51 55 (LL 54),LY 51 56 (.bin .lss (LT 53) (LT 55)),LZ 48 57 (.pick (LT 51) (LT 56) LF),LO 58 (.pick (LT 48) LG (LT 57))] (.cond (LT 58) (.fG [LM 59 8,LM 7 59]) .skip))))) (.fG [LO 60 (.bin .add (LT 23) (LI 1)),LM 23 60]))))
def qS:aH:=(LS [LO 6 (.mv (LI 0))] (.seq (LS [LM 12 0] (.block 0 (LS [LO 14 (.bin .eql (LT 12) (LI 1)),LM 13 14] (.cond (LT 13) (LS [LM 15 1,LO 16 (.len (LT 15)),LO 17 (.bin .sub (LT 16) (LI 1)),LM 6 17] .ret) (.seq (LS [LO 19 (.bin .eql (LT 12) (LI 2)),LM 18 19] (.cond (LT 18) .skip (.fG [LO 20 (.bin .eql (LT 12) (LI 3)),LM 18 20]))) (.cond (LT 18) (LS [LO 7 (.mv (LI 0))] (.seq (LS [LM 21 1,LO 22 (.len (LT 21)),LO 23 (.mv (LI 0))] (.block 1 (.loop jZ))) (LS [LM 61 7,LM 6 61] .ret))) .skip)))))) (LS [LO 6 (.mv (LI 0))] .ret)))
def xS:aU:=⟨62,[(.tmp 6)],qS⟩
theorem Mf:iY 75=some xS:=by kernel_rfl
def lB:aH:=(LS [LO 18 (.bin .lss (LT 17) (LT 16))] (.seq (.cond (LT 18) .skip (.exit 0)) (.seq (.block 1 (LS [LO 19 (.iaddr 3 (LT 15) (LT 17)),LO 20 (LK 19),LO 8 (.new [(.int .i64 0),(.int .i64 0),(.int .i64 0)]),LN (.store 3 (LT 8) (LT 20))] (.fG [LM 21 6,LO 22 (LA 0 8),LO 23 (LL 22),LO 24 (.bin .sub (LT 21) (LT 23)),LM 6 24]))) (.fG [LO 25 (.bin .add (LT 17) (LI 1)),LM 17 25]))))
def rR:aH:=(LS [LO 4 (.mv (LI 0)),LO 5 (.mv LF)] (.seq (LS [LM 9 0,LM 10 1,LO 11 (.call 49 [(LT 9),(LT 10)]),LO 12 (.un .not (LT 11))] (.cond (LT 12) (LS [LO 4 (.mv (LI 0)),LO 5 (.mv LF)] .ret) .skip)) (LS [LM 13 1,LO 14 (.call 50 [(LT 13)]),LM 6 14] (.seq (LS [LM 15 0,LO 16 (.len (LT 15)),LO 17 (.mv (LI 0))] (.block 0 (.loop lB))) (LS [LM 26 6,LM 4 26,LO 5 (.mv LG)] .ret)))))
def uN:aU:=⟨27,[(.tmp 4),(.tmp 5)],rR⟩
theorem BK:iY 17=some uN:=by kernel_rfl
def jL:aH:=(LS [LO 23 (.bin .lss (LT 22) (LT 21))] (.seq (.cond (LT 23) .skip (.exit 0)) (.seq (.block 1 (LS [LM 24 22,LO 25 (.iaddr 3 (LT 20) (LT 22)),LO 26 (LK 25),LO 10 (.new [(.int .i64 0),(.int .i64 0),(.int .i64 0)]),LM 9 24,LN (.store 3 (LT 10) (LT 26))] (.fG [LM 27 8,LO 28 (LA 0 10),LO 29 (LL 28),LM 30 2,LO 31 (.bin .leq (LT 29) (LT 30)),LM 32 31,LY 32 33 (.mv (LT 1)),LY 32 34 (.mv (LT 9)),LY 32 35 (.iaddr 1 (LT 33) (LT 34)),LY 32 36 (LL 35),LY 32 37 (.mv (LT 2)),LY 32 38 (.bin .gtr (LT 36) (LT 37)),LO 39 (.pick (LT 32) (LT 38) LF),LO 40 (.call 51 [(LT 39)]),LO 41 (.bin .add (LT 27) (LT 40)),LM 8 41]))) (.fG [LO 42 (.bin .add (LT 22) (LI 1)),LM 22 42]))))
def zI:aH:=(LS [LO 6 (.mv (LI 0)),LO 7 (.mv LF)] (.seq (LS [LM 11 0,LM 12 1,LO 13 (.call 49 [(LT 11),(LT 12)]),LO 14 (.un .not (LT 13)),LM 15 14,LZ 15 16 (.mv (LT 2)),LZ 15 17 (.call 44 [(LT 16),(LI 0),(LI 1000000000)]),LZ 15 18 (.un .not (LT 17)),LO 19 (.pick (LT 15) LG (LT 18))] (.cond (LT 19) (LS [LO 6 (.mv (LI 0)),LO 7 (.mv LF)] .ret) .skip)) (LS [LO 8 (.mv (LI 0))] (.seq (LS [LM 20 0,LO 21 (.len (LT 20)),LO 22 (.mv (LI 0))] (.block 0 (.loop jL))) (LS [LM 43 8,LM 6 43,LO 7 (.mv LG)] .ret)))))
def Cn:aU:=⟨44,[(.tmp 6),(.tmp 7)],zI⟩
theorem GC:iY 18=some Cn:=by kernel_rfl
def zR:aH:=(LS [LO 6 (.mv (.const (.slice none 0 0))),LO 7 (.mv LF)] (LS [LM 11 0,LM 12 1,LM 13 2,LO 14 (.call 9 [(LT 11),(LT 12),(LT 13)]),LM 10 14,LO 15 (LX 10 0),LO 16 (LX 10 1),LM 8 15,LM 9 16] (LS [LM 17 2,LM 18 8,LO 19 (.call 47 [(LT 17),(LT 18),(.func 48)]),LM 20 9,LM 6 19,LM 7 20] .ret)))
def Ca:aU:=⟨21,[(.tmp 6),(.tmp 7)],zR⟩
theorem Gi:iY 16=some Ca:=by kernel_rfl
def zX:aH:=(LS [LO 4 (.mv LF)] (LS [LM 5 0,LO 6 (.call 32 [(LT 5)]),LM 7 6,LY 7 8 (.mv (LT 1)),LY 7 9 (.len (LT 8)),LY 7 10 (.mv (LT 0)),LY 7 11 (.len (LT 10)),LY 7 12 (.bin .eql (LT 9) (LT 11)),LO 13 (.pick (LT 7) (LT 12) LF),LM 14 13,LY 14 15 (.mv (LT 1)),LY 14 16 (.call 88 [(LT 15),(.func 89)]),LY 14 17 (.un .not (LT 16)),LO 18 (.pick (LT 14) (LT 17) LF),LM 4 18] .ret))
def Cg:aU:=⟨19,[(.tmp 4)],zX⟩
theorem Gt:iY 49=some Cg:=by kernel_rfl
def uH:aH:=(LS [LO 1 (.box (LT 0)),LO 2 (.mv (LI 0))] (LS [LO 3 (LA 1 1),LO 4 (LL 3),LM 2 4] .ret))
def zA:aU:=⟨5,[(.tmp 2)],uH⟩
theorem Eh:iY 48=some zA:=by kernel_rfl
def uJ:aH:=(LS [LO 2 (.mv LF)] (LS [LM 3 0,LO 4 (.call 44 [(LT 3),(LI 0),(LI 1000000000)]),LO 5 (.un .not (LT 4)),LM 2 5] .ret))
def zD:aU:=⟨6,[(.tmp 2)],uJ⟩
theorem Eg:iY 89=some zD:=by kernel_rfl
end Go.PM
namespace Go.PM
def mJ:aH:=(LS [LO 4 (.mv (.const (.string ⟨#[]⟩))),LO 5 (.mv LF)] (.seq (LS [LM 6 1,LO 7 (.bin .eql (LT 6) (LI 0))] (.cond (LT 7) (LS [LO 4 (.mv (.const (.string ⟨#[]⟩))),LO 5 (.mv LF)] .ret) .skip)) (LS [LM 8 0,LO 9 (.bin .lss (LT 8) (LI 0)),LM 10 1,LO 11 (.bin .lss (LT 10) (LI 0)),LO 12 (.eqb true (LT 9) (LT 11)),LM 13 0,LO 14 (.call 78 [(LT 13)]),LO 15 (.call 77 [(LT 14)]),LM 16 1,LO 17 (.call 78 [(LT 16)]),LO 18 (.call 77 [(LT 17)]),LO 19 (.call 82 [(LT 12),(LT 15),(LT 18)]),LO 20 (.call 91 [(LT 19)]),LO 21 (LX 20 0),LO 22 (LX 20 1),LM 4 21,LM 5 22] .ret)))
def oX:aU:=⟨23,[(.tmp 4),(.tmp 5)],mJ⟩
theorem BY:iY 53=some oX:=by kernel_rfl
def J2:aH:=(LS [LO 6 (.mv LF)] (LS [LM 7 0,LM 8 1,LO 9 (.bin .geq (LT 7) (LT 8)),LM 10 9,LY 10 11 (.mv (LT 0)),LY 10 12 (.mv (LT 2)),LY 10 13 (.bin .leq (LT 11) (LT 12)),LO 14 (.pick (LT 10) (LT 13) LF),LM 6 14] .ret))
def QJ:aU:=⟨15,[(.tmp 6)],J2⟩
theorem SS:iY 44=some QJ:=by kernel_rfl
def A5:aH:=(LS [LO 1 (.box (LT 0)),LO 2 (.mv (.const (.string ⟨#[]⟩))),LO 3 (.mv LF)] (LS [LO 7 (LK 1),LO 8 (.call 86 [(LT 7)]),LM 6 8,LO 9 (LX 6 0),LO 10 (LX 6 1),LM 4 9,LM 5 10] (.seq (LS [LM 11 5,LO 12 (.un .not (LT 11))] (.cond (LT 12) (LS [LO 2 (.mv (.const (.string ⟨#[]⟩))),LO 3 (.mv LF)] .ret) .skip)) (LS [LM 13 4,LM 2 13,LO 3 (.mv LG)] .ret))))
def E7:aU:=⟨14,[(.tmp 2),(.tmp 3)],A5⟩
theorem MC:iY 91=some E7:=by kernel_rfl
def mX:aH:=(LS [LO 6 (.new [(.bool false),(.slice none 0 0),(.slice none 0 0)])] (.seq (LS [LM 8 1,LO 9 (.len (LT 8)),LO 10 (.bin .eql (LT 9) (LI 0))] (.cond (LT 10) (LS [LO 11 (.call 77 [(.const (.int .u64 1))]),LO 12 (.build [(.bool false),(.slice none 0 0),(.slice none 0 0)] [(0,1),(1,1),(2,1)] [(2,(LT 11))]),LN (.store 3 (LT 6) (LT 12))] .ret) .skip)) (LS [LM 13 1,LM 14 2,LO 15 (.call 106 [(LT 13),(LT 14)]),LM 7 15] (.seq (LS [LM 16 7,LO 17 (.len (LT 16)),LO 18 (.bin .eql (LT 17) (LI 1)),LM 19 18,LY 19 20 (.mv (LT 7)),LY 19 21 (.iaddr 1 (LT 20) (LI 0)),LY 19 22 (LL 21),LY 19 23 (.bin .eql (LT 22) (.const (.int .u32 1))),LO 24 (.pick (LT 19) (LT 23) LF)] (.cond (LT 24) (LS [LM 25 0,LM 26 1,LM 27 2,LO 28 (.build [(.bool false),(.slice none 0 0),(.slice none 0 0)] [(0,1),(1,1),(2,1)] [(0,(LT 25)),(1,(LT 26)),(2,(LT 27))]),LN (.store 3 (LT 6) (LT 28))] .ret) .skip)) (LS [LM 30 1,LM 31 7,LO 32 (.call 107 [(LT 30),(LT 31)]),LM 29 32,LO 33 (LX 29 0),LO 34 (LX 29 1),LM 1 33] (LS [LM 36 2,LM 37 7,LO 38 (.call 107 [(LT 36),(LT 37)]),LM 35 38,LO 39 (LX 35 0),LO 40 (LX 35 1),LM 2 39] (LS [LM 41 0,LM 42 1,LM 43 2,LO 44 (.build [(.bool false),(.slice none 0 0),(.slice none 0 0)] [(0,1),(1,1),(2,1)] [(0,(LT 41)),(1,(LT 42)),(2,(LT 43))]),LN (.store 3 (LT 6) (LT 44))] .ret)))))))
def qV:aU:=⟨45,[(.cell 6 true 3)],mX⟩
theorem Jf:iY 82=some qV:=by kernel_rfl
def Ej:aH:=(LS [LO 2 (.mv (.const (.slice none 0 0)))] (LS [LM 3 0,LO 4 (.cvt .u32 (LT 3)),LM 5 0,LO 6 (.bin .shr (LT 5) (.const (.int .u64 32))),LO 7 (.cvt .u32 (LT 6)),LO 8 (.lit [(.int .u32 0)] 2 [(0,(LT 4)),(1,(LT 7))]),LO 9 (.call 105 [(LT 8)]),LM 2 9] .ret))
def Is:aU:=⟨10,[(.tmp 2)],Ej⟩
theorem KL:iY 77=some Is:=by kernel_rfl
def pR:aH:=(LS [LO 2 (.mv (.const (.int .u64 0)))] (.seq (LS [LM 3 0,LO 4 (.bin .lss (LT 3) (LI 0))] (.cond (LT 4) (LS [LM 5 0,LO 6 (.cvt .u64 (LT 5)),LO 7 (.un .neg (LT 6)),LM 2 7] .ret) .skip)) (LS [LM 8 0,LO 9 (.cvt .u64 (LT 8)),LM 2 9] .ret)))
def sT:aU:=⟨10,[(.tmp 2)],pR⟩
theorem Ff:iY 78=some sT:=by kernel_rfl
def iW:aH:=(.seq (LS [LM 19 5,LO 20 (.bin .geq (LT 19) (LI 0))] (.cond (LT 20) .skip (.exit 0))) (.seq (.block 1 (LS [LM 23 0,LM 24 5,LO 25 (.iaddr 1 (LT 23) (LT 24)),LO 26 (LL 25),LM 27 1,LM 28 5,LO 29 (.iaddr 1 (LT 27) (LT 28)),LO 30 (LL 29),LO 31 (.bin .neq (LT 26) (LT 30))] (.cond (LT 31) (.seq (LS [LM 32 0,LM 33 5,LO 34 (.iaddr 1 (LT 32) (LT 33)),LO 35 (LL 34),LM 36 1,LM 37 5,LO 38 (.iaddr 1 (LT 36) (LT 37)),LO 39 (LL 38),LO 40 (.bin .lss (LT 35) (LT 39))] (.cond (LT 40) (LS [LO 4 (.mv (LI (-1)))] .ret) .skip)) (LS [LO 4 (.mv (LI 1))] .ret)) .skip))) (.fG [LM 21 5,LO 22 (.bin .sub (LT 21) (LI 1)),LM 5 22])))
def lR:aH:=(LS [LO 4 (.mv (LI 0))] (.seq (LS [LM 6 0,LO 7 (.len (LT 6)),LM 8 1,LO 9 (.len (LT 8)),LO 10 (.bin .neq (LT 7) (LT 9))] (.cond (LT 10) (.seq (LS [LM 11 0,LO 12 (.len (LT 11)),LM 13 1,LO 14 (.len (LT 13)),LO 15 (.bin .lss (LT 12) (LT 14))] (.cond (LT 15) (LS [LO 4 (.mv (LI (-1)))] .ret) .skip)) (LS [LO 4 (.mv (LI 1))] .ret)) .skip)) (.seq (LS [LM 16 0,LO 17 (.len (LT 16)),LO 18 (.bin .sub (LT 17) (LI 1)),LM 5 18] (.block 0 (.loop iW))) (LS [LO 4 (.mv (LI 0))] .ret))))
def oM:aU:=⟨41,[(.tmp 4)],lR⟩
theorem Fb:iY 80=some oM:=by kernel_rfl
def oT:aH:=(LS [LO 1 (.box (LT 0)),LO 2 (.mv (.const (.string ⟨#[]⟩))),LO 3 (.mv LF)] (LS [LO 7 (LA 1 1),LO 8 (LL 7),LQ 9 (.call 108 [(LT 8)]),LO 10 (LA 2 1),LO 11 (LL 10),LQ 12 (.call 108 [(LT 11)]),LM 4 9,LM 5 12] (LS [LM 13 4,LM 6 13] (.seq (LS [LO 14 (LA 0 1),LO 15 (LL 14)] (.cond (LT 15) (.fG [LM 16 6,LO 17 (.bin .add (.const (.string ⟨#[45]⟩)) (LT 16)),LM 6 17]) .skip)) (.seq (LS [LM 18 5,LO 19 (.bin .neq (LT 18) (.const (.string ⟨#[49]⟩)))] (.cond (LT 19) (.fG [LM 20 6,LM 21 5,LO 22 (.bin .add (.const (.string ⟨#[47]⟩)) (LT 21)),LO 23 (.bin .add (LT 20) (LT 22)),LM 6 23]) .skip)) (LS [LM 24 6,LM 25 4,LO 26 (.slen (LT 25)),LO 27 (.bin .leq (LT 26) (LI 200)),LM 28 27,LY 28 29 (.mv (LT 5)),LY 28 30 (.slen (LT 29)),LY 28 31 (.bin .leq (LT 30) (LI 200)),LO 32 (.pick (LT 28) (LT 31) LF),LM 2 24,LM 3 32] .ret))))))
def rA:aU:=⟨33,[(.tmp 2),(.tmp 3)],oT⟩
theorem Ee:iY 86=some rA:=by kernel_rfl
def pA:aH:=(.seq (LS [LM 28 7,LO 29 (.bin .gtr (LT 28) (.const (.int .u64 0)))] (.cond (LT 29) .skip (.exit 2))) (.block 3 (.fG [LM 30 7,LM 31 5,LM 32 7,LO 33 (.bin .rem (LT 31) (LT 32)),LM 5 30,LM 7 33])))
def gD:aH:=(.seq (LS [LM 11 1,LO 12 (.len (LT 11)),LO 13 (.bin .gtr (LT 12) (LI 0))] (.cond (LT 13) .skip (.exit 0))) (.block 1 (LS [LM 15 0,LO 16 (.call 118 [(LT 15)]),LM 14 16,LO 17 (LX 14 0),LO 18 (LX 14 1),LM 5 17,LM 6 18] (LS [LM 20 1,LO 21 (.call 118 [(LT 20)]),LM 19 21,LO 22 (LX 19 0),LO 23 (LX 19 1),LM 7 22,LM 8 23] (.seq (LS [LM 24 6,LM 25 24,LY 25 26 (.mv (LT 8)),LO 27 (.pick (LT 25) (LT 26) LF)] (.cond (LT 27) (.seq (.block 2 (.loop pA)) (LS [LM 34 5,LO 35 (.call 77 [(LT 34)]),LM 4 35] .ret)) .skip)) (LS [LM 37 0,LM 38 1,LO 39 (.call 107 [(LT 37),(LT 38)]),LM 36 39,LO 40 (LX 36 0),LO 41 (LX 36 1),LM 9 40,LM 10 41] (.fG [LM 42 1,LM 43 10,LM 0 42,LM 1 43])))))))
def wW:aH:=(LS [LO 4 (.mv (.const (.slice none 0 0)))] (.seq (.block 0 (.loop gD)) (LS [LM 44 0,LM 4 44] .ret)))
def A0:aU:=⟨45,[(.tmp 4)],wW⟩
theorem Es:iY 106=some A0:=by kernel_rfl
def fA:aH:=(.seq (LS [LM 105 17,LO 106 (.bin .geq (LT 105) (.const (.int .u64 4294967296))),LM 107 106,LZ 107 108 (.mv (LT 17)),LZ 107 109 (.mv (LT 12)),LZ 107 110 (.bin .mul (LT 108) (LT 109)),LZ 107 111 (.mv (LT 18)),LZ 107 112 (.bin .shl (LT 111) (.const (.int .u64 32))),LZ 107 113 (.mv (LT 9)),LZ 107 114 (.mv (LT 15)),LZ 107 115 (.bin .sub (LT 114) (LI 2)),LZ 107 116 (.iaddr 1 (LT 113) (LT 115)),LZ 107 117 (LL 116),LZ 107 118 (.cvt .u64 (LT 117)),LZ 107 119 (.bin .add (LT 112) (LT 118)),LZ 107 120 (.bin .gtr (LT 110) (LT 119)),LO 121 (.pick (LT 107) LG (LT 120))] (.cond (LT 121) .skip (.exit 2))) (.block 3 (LS [LM 122 17,LO 123 (.bin .sub (LT 122) (.const (.int .u64 1))),LM 17 123] (LS [LM 124 18,LM 125 11,LO 126 (.bin .add (LT 124) (LT 125)),LM 18 126] (LS [LM 127 18,LO 128 (.bin .geq (LT 127) (.const (.int .u64 4294967296)))] (.cond (LT 128) (.exit 2) .skip))))))
def kT:aH:=(.seq (LS [LM 78 14,LO 79 (.bin .geq (LT 78) (LI 0))] (.cond (LT 79) .skip (.exit 0))) (.seq (.block 1 (LS [LM 82 14,LM 83 10,LO 84 (.len (LT 83)),LO 85 (.bin .add (LT 82) (LT 84)),LM 15 85] (LS [LM 86 9,LM 87 15,LO 88 (.iaddr 1 (LT 86) (LT 87)),LO 89 (LL 88),LO 90 (.cvt .u64 (LT 89)),LO 91 (.bin .shl (LT 90) (.const (.int .u64 32))),LM 92 9,LM 93 15,LO 94 (.bin .sub (LT 93) (LI 1)),LO 95 (.iaddr 1 (LT 92) (LT 94)),LO 96 (LL 95),LO 97 (.cvt .u64 (LT 96)),LO 98 (.bin .add (LT 91) (LT 97)),LM 16 98] (LS [LM 99 16,LM 100 11,LO 101 (.bin .quo (LT 99) (LT 100)),LM 102 16,LM 103 11,LO 104 (.bin .rem (LT 102) (LT 103)),LM 17 101,LM 18 104] (.seq (.block 2 (.loop fA)) (.seq (LS [LM 129 9,LM 130 14,LM 131 15,LO 132 (.bin .add (LT 131) (LI 1)),LO 133 (.sub 1 (LT 129) (some (LT 130)) (some (LT 132)) none),LM 134 10,LM 135 17,LO 136 (.call 122 [(LT 133),(LT 134),(LT 135)])] (.cond (LT 136) (.fG [LM 137 17,LO 138 (.bin .sub (LT 137) (.const (.int .u64 1))),LM 17 138]) .skip)) (.fG [LM 139 13,LM 140 14,LM 141 17,LO 142 (.cvt .u32 (LT 141)),LO 143 (.iaddr 1 (LT 139) (LT 140)),LN (.store 1 (LT 143) (LT 142))]))))))) (.fG [LM 80 14,LO 81 (.bin .sub (LT 80) (LI 1)),LM 14 81])))
def iX:aH:=(LS [LO 149 (.bin .lss (LT 148) (LT 147))] (.seq (.cond (LT 149) .skip (.exit 4)) (.seq (.block 5 (LS [LM 150 148,LM 19 150] (LS [LO 20 (.mv (.const (.int .u64 0)))] (.seq (LS [LM 151 19,LO 152 (.bin .add (LT 151) (LI 1)),LM 153 9,LO 154 (.len (LT 153)),LO 155 (.bin .lss (LT 152) (LT 154))] (.cond (LT 155) (.fG [LM 156 9,LM 157 19,LO 158 (.bin .add (LT 157) (LI 1)),LO 159 (.iaddr 1 (LT 156) (LT 158)),LO 160 (LL 159),LO 161 (.cvt .u64 (LT 160)),LM 20 161]) .skip)) (.fG [LM 162 9,LM 163 19,LM 164 20,LO 165 (.bin .shl (LT 164) (.const (.int .u64 32))),LM 166 9,LM 167 19,LO 168 (.iaddr 1 (LT 166) (LT 167)),LO 169 (LL 168),LO 170 (.cvt .u64 (LT 169)),LO 171 (.bin .add (LT 165) (LT 170)),LM 172 8,LO 173 (.bin .shr (LT 171) (LT 172)),LO 174 (.cvt .u32 (LT 173)),LO 175 (.iaddr 1 (LT 162) (LT 163)),LN (.store 1 (LT 175) (LT 174))]))))) (.fG [LO 176 (.bin .add (LT 148) (LI 1)),LM 148 176]))))
def lW:aH:=(LS [LO 4 (.mv (.const (.slice none 0 0))),LO 5 (.mv (.const (.slice none 0 0)))] (.seq (LS [LM 21 0,LM 22 1,LO 23 (.call 80 [(LT 21),(LT 22)]),LO 24 (.bin .lss (LT 23) (LI 0))] (.cond (LT 24) (LS [LM 25 0,LO 4 (.mv (.const (.slice none 0 0))),LM 5 25] .ret) .skip)) (.seq (LS [LM 26 1,LO 27 (.len (LT 26)),LO 28 (.bin .eql (LT 27) (LI 1))] (.cond (LT 28) (LS [LM 30 0,LM 31 1,LO 32 (.iaddr 1 (LT 31) (LI 0)),LO 33 (LL 32),LO 34 (.call 119 [(LT 30),(LT 33)]),LM 29 34,LO 35 (LX 29 0),LO 36 (LX 29 1),LM 6 35,LM 7 36] (LS [LM 37 6,LM 38 7,LO 39 (.lit [(.int .u32 0)] 1 [(0,(LT 38))]),LO 40 (.call 105 [(LT 39)]),LM 4 37,LM 5 40] .ret)) .skip)) (LS [LM 41 1,LM 42 1,LO 43 (.len (LT 42)),LO 44 (.bin .sub (LT 43) (LI 1)),LO 45 (.iaddr 1 (LT 41) (LT 44)),LO 46 (LL 45),LO 47 (.call 120 [(LT 46)]),LM 8 47] (LS [LM 48 0,LM 49 8,LO 50 (.call 121 [(LT 48),(LT 49)]),LM 51 1,LM 52 8,LO 53 (.call 121 [(LT 51),(LT 52)]),LO 54 (.call 105 [(LT 53)]),LM 9 50,LM 10 54] (LS [LM 55 10,LM 56 10,LO 57 (.len (LT 56)),LO 58 (.bin .sub (LT 57) (LI 1)),LO 59 (.iaddr 1 (LT 55) (LT 58)),LO 60 (LL 59),LO 61 (.cvt .u64 (LT 60)),LM 11 61] (LS [LM 62 10,LM 63 10,LO 64 (.len (LT 63)),LO 65 (.bin .sub (LT 64) (LI 2)),LO 66 (.iaddr 1 (LT 62) (LT 65)),LO 67 (LL 66),LO 68 (.cvt .u64 (LT 67)),LM 12 68] (LS [LM 69 9,LO 70 (.len (LT 69)),LM 71 10,LO 72 (.len (LT 71)),LO 73 (.bin .sub (LT 70) (LT 72)),LO 74 (.make [(.int .u32 0)] 4 (LT 73) (LT 73)),LM 13 74] (.seq (LS [LM 75 13,LO 76 (.len (LT 75)),LO 77 (.bin .sub (LT 76) (LI 1)),LM 14 77] (.block 0 (.loop kT))) (LS [LM 144 9,LO 145 (.call 105 [(LT 144)]),LM 9 145] (.seq (LS [LM 146 9,LO 147 (.len (LT 146)),LO 148 (.mv (LI 0))] (.block 4 (.loop iX))) (LS [LM 177 13,LO 178 (.call 105 [(LT 177)]),LM 179 9,LO 180 (.call 105 [(LT 179)]),LM 4 178,LM 5 180] .ret))))))))))))
def pF:aU:=⟨181,[(.tmp 4),(.tmp 5)],lW⟩
theorem E8:iY 107=some pF:=by kernel_rfl
def dX:aH:=(.seq (LS [LM 3 0,LO 4 (.len (LT 3)),LO 5 (.bin .gtr (LT 4) (LI 0)),LM 6 5,LY 6 7 (.mv (LT 0)),LY 6 8 (.mv (LT 0)),LY 6 9 (.len (LT 8)),LY 6 10 (.bin .sub (LT 9) (LI 1)),LY 6 11 (.iaddr 1 (LT 7) (LT 10)),LY 6 12 (LL 11),LY 6 13 (.bin .eql (LT 12) (.const (.int .u32 0))),LO 14 (.pick (LT 6) (LT 13) LF)] (.cond (LT 14) .skip (.exit 0))) (.block 1 (.fG [LM 15 0,LM 16 0,LO 17 (.len (LT 16)),LO 18 (.bin .sub (LT 17) (LI 1)),LO 19 (.sub 1 (LT 15) none (some (LT 18)) none),LM 0 19])))
def pE:aH:=(LS [LO 2 (.mv (.const (.slice none 0 0)))] (.seq (.block 0 (.loop dX)) (LS [LM 20 0,LM 2 20] .ret)))
def rG:aU:=⟨21,[(.tmp 2)],pE⟩
theorem vA:iY 105=some rG:=by kernel_rfl
def jX:aH:=(.seq (LS [LM 11 0,LO 12 (.len (LT 11)),LO 13 (.bin .gtr (LT 12) (LI 0))] (.cond (LT 13) .skip (.exit 0))) (.block 1 (LS [LM 15 0,LO 16 (.call 119 [(LT 15),(.const (.int .u32 1000000000))]),LM 14 16,LO 17 (LX 14 0),LO 18 (LX 14 1),LM 4 17,LM 5 18] (LS [LM 19 5,LO 20 (.cvt .u64 (LT 19)),LO 21 (.call 123 [(LT 20),(LI 10)]),LM 6 21] (.seq (LS [LM 22 4,LO 23 (.len (LT 22)),LO 24 (.bin .gtr (LT 23) (LI 0))] (.cond (LT 24) (.fG [LM 25 6,LO 26 (.slen (LT 25)),LO 27 (.bin .sub (LI 9) (LT 26)),LO 28 (.call 124 [(.const (.string ⟨#[48]⟩)),(LT 27)]),LM 29 6,LO 30 (.bin .add (LT 28) (LT 29)),LM 6 30]) .skip)) (.fG [LM 31 3,LM 32 6,LO 33 (.lit [(.string ⟨#[]⟩)] 1 [(0,(LT 32))]),LO 34 (.app 1 16 (LT 31) (LT 33)),LM 35 4,LM 3 34,LM 0 35]))))))
def pD:aH:=(LS [LO 2 (.mv (.const (.string ⟨#[]⟩)))] (.seq (LS [LM 7 0,LO 8 (.len (LT 7)),LO 9 (.bin .eql (LT 8) (LI 0))] (.cond (LT 9) (LS [LO 2 (.mv (.const (.string ⟨#[48]⟩)))] .ret) .skip)) (LS [LO 10 (.lit [(.string ⟨#[]⟩)] 0 []),LM 3 10] (.seq (.block 0 (.loop jX)) (LS [LM 36 3,LO 37 (.call 125 [(LT 36)])] (LS [LM 38 3,LO 39 (.call 126 [(LT 38),(.const (.string ⟨#[]⟩))]),LM 2 39] .ret))))))
def rH:aU:=⟨40,[(.tmp 2)],pD⟩
theorem DH:iY 108=some rH:=by kernel_rfl
def jB:aH:=(.seq (LS [LM 9 5,LO 10 (.bin .geq (LT 9) (LI 0)),LM 11 10,LY 11 12 (.mv (LT 0)),LY 11 13 (.len (LT 12)),LY 11 14 (.bin .leq (LT 13) (LI 2)),LO 15 (.pick (LT 11) (LT 14) LF)] (.cond (LT 15) .skip (.exit 0))) (.seq (.block 1 (.fG [LM 18 4,LO 19 (.bin .shl (LT 18) (.const (.int .u64 32))),LM 20 0,LM 21 5,LO 22 (.iaddr 1 (LT 20) (LT 21)),LO 23 (LL 22),LO 24 (.cvt .u64 (LT 23)),LO 25 (.bin .add (LT 19) (LT 24)),LM 4 25])) (.fG [LM 16 5,LO 17 (.bin .sub (LT 16) (LI 1)),LM 5 17])))
def sX:aH:=(LS [LO 2 (.mv (.const (.int .u64 0))),LO 3 (.mv LF)] (LS [LO 4 (.mv (.const (.int .u64 0)))] (.seq (LS [LM 6 0,LO 7 (.len (LT 6)),LO 8 (.bin .sub (LT 7) (LI 1)),LM 5 8] (.block 0 (.loop jB))) (LS [LM 26 4,LM 27 0,LO 28 (.len (LT 27)),LO 29 (.bin .leq (LT 28) (LI 2)),LM 2 26,LM 3 29] .ret))))
def xI:aU:=⟨30,[(.tmp 2),(.tmp 3)],sX⟩
theorem Cz:iY 118=some xI:=by kernel_rfl
def jT:aH:=(.seq (LS [LM 15 8,LO 16 (.bin .geq (LT 15) (LI 0))] (.cond (LT 16) .skip (.exit 0))) (.seq (.block 1 (LS [LM 19 7,LO 20 (.bin .shl (LT 19) (.const (.int .u64 32))),LM 21 0,LM 22 8,LO 23 (.iaddr 1 (LT 21) (LT 22)),LO 24 (LL 23),LO 25 (.cvt .u64 (LT 24)),LO 26 (.bin .add (LT 20) (LT 25)),LM 7 26] (LS [LM 27 6,LM 28 8,LM 29 7,LM 30 1,LO 31 (.cvt .u64 (LT 30)),LO 32 (.bin .quo (LT 29) (LT 31)),LO 33 (.cvt .u32 (LT 32)),LO 34 (.iaddr 1 (LT 27) (LT 28)),LN (.store 1 (LT 34) (LT 33))] (.fG [LM 35 7,LM 36 1,LO 37 (.cvt .u64 (LT 36)),LO 38 (.bin .rem (LT 35) (LT 37)),LM 7 38])))) (.fG [LM 17 8,LO 18 (.bin .sub (LT 17) (LI 1)),LM 8 18])))
def pK:aH:=(LS [LO 4 (.mv (.const (.slice none 0 0))),LO 5 (.mv (.const (.int .u32 0)))] (LS [LM 9 0,LO 10 (.len (LT 9)),LO 11 (.make [(.int .u32 0)] 4 (LT 10) (LT 10)),LM 6 11,LO 7 (.mv (.const (.int .u64 0)))] (.seq (LS [LM 12 0,LO 13 (.len (LT 12)),LO 14 (.bin .sub (LT 13) (LI 1)),LM 8 14] (.block 0 (.loop jT))) (LS [LM 39 6,LO 40 (.call 105 [(LT 39)]),LM 41 7,LO 42 (.cvt .u32 (LT 41)),LM 4 40,LM 5 42] .ret))))
def rM:aU:=⟨43,[(.tmp 4),(.tmp 5)],pK⟩
theorem Ai:iY 119=some rM:=by kernel_rfl
def kP:aH:=(LS [LO 16 (.bin .lss (LT 15) (LT 14))] (.seq (.cond (LT 16) .skip (.exit 0)) (.seq (.block 1 (LS [LM 17 15,LO 18 (.iaddr 1 (LT 13) (LT 15)),LO 19 (LL 18),LM 6 17,LM 7 19] (LS [LM 20 7,LO 21 (.cvt .u64 (LT 20)),LM 22 1,LO 23 (.bin .shl (LT 21) (LT 22)),LM 8 23] (LS [LM 24 5,LM 25 6,LO 26 (.iaddr 1 (LT 24) (LT 25)),LO 27 (LL 26),LM 28 8,LO 29 (.cvt .u32 (LT 28)),LO 30 (.bin .or (LT 27) (LT 29)),LO 31 (.iaddr 1 (LT 24) (LT 25)),LN (.store 1 (LT 31) (LT 30))] (.fG [LM 32 5,LM 33 6,LO 34 (.bin .add (LT 33) (LI 1)),LM 35 8,LO 36 (.bin .shr (LT 35) (.const (.int .u64 32))),LO 37 (.cvt .u32 (LT 36)),LO 38 (.iaddr 1 (LT 32) (LT 34)),LN (.store 1 (LT 38) (LT 37))]))))) (.fG [LO 39 (.bin .add (LT 15) (LI 1)),LM 15 39]))))
def qU:aH:=(LS [LO 4 (.mv (.const (.slice none 0 0)))] (LS [LM 9 0,LO 10 (.len (LT 9)),LO 11 (.bin .add (LT 10) (LI 1)),LO 12 (.make [(.int .u32 0)] 4 (LT 11) (LT 11)),LM 5 12] (.seq (LS [LM 13 0,LO 14 (.len (LT 13)),LO 15 (.mv (LI 0))] (.block 0 (.loop kP))) (LS [LM 40 5,LM 4 40] .ret))))
def tU:aU:=⟨41,[(.tmp 4)],qU⟩
theorem AV:iY 121=some tU:=by kernel_rfl
def eB:aH:=(LS [LO 15 (.bin .lss (LT 14) (LT 13))] (.seq (.cond (LT 15) .skip (.exit 0)) (.seq (.block 1 (LS [LM 16 14,LM 9 16] (.seq (LS [LM 17 9,LM 18 1,LO 19 (.len (LT 18)),LO 20 (.bin .lss (LT 17) (LT 19))] (.cond (LT 20) (.fG [LM 21 7,LM 22 2,LM 23 1,LM 24 9,LO 25 (.iaddr 1 (LT 23) (LT 24)),LO 26 (LL 25),LO 27 (.cvt .u64 (LT 26)),LO 28 (.bin .mul (LT 22) (LT 27)),LO 29 (.bin .add (LT 21) (LT 28)),LM 7 29]) .skip)) (LS [LM 30 0,LM 31 9,LO 32 (.iaddr 1 (LT 30) (LT 31)),LO 33 (LL 32),LO 34 (.cvt .i64 (LT 33)),LM 35 7,LO 36 (.cvt .u32 (LT 35)),LO 37 (.cvt .i64 (LT 36)),LO 38 (.bin .sub (LT 34) (LT 37)),LM 39 8,LO 40 (.bin .sub (LT 38) (LT 39)),LM 10 40] (LS [LM 41 7,LO 42 (.bin .shr (LT 41) (.const (.int .u64 32))),LM 7 42] (LS [LO 8 (.mv (LI 0))] (.seq (LS [LM 43 10,LO 44 (.bin .lss (LT 43) (LI 0))] (.cond (LT 44) (.fG [LO 8 (.mv (LI 1))]) .skip)) (.fG [LM 45 0,LM 46 9,LM 47 10,LO 48 (.cvt .u32 (LT 47)),LO 49 (.iaddr 1 (LT 45) (LT 46)),LN (.store 1 (LT 49) (LT 48))])))))))) (.fG [LO 50 (.bin .add (LT 14) (LI 1)),LM 14 50]))))
def jG:aH:=(LS [LO 60 (.bin .lss (LT 59) (LT 58))] (.seq (.cond (LT 60) .skip (.exit 2)) (.seq (.block 3 (LS [LM 61 59,LM 11 61] (LS [LM 62 7,LM 63 0,LM 64 11,LO 65 (.iaddr 1 (LT 63) (LT 64)),LO 66 (LL 65),LO 67 (.cvt .u64 (LT 66)),LO 68 (.bin .add (LT 62) (LT 67)),LM 7 68] (.seq (LS [LM 69 11,LM 70 1,LO 71 (.len (LT 70)),LO 72 (.bin .lss (LT 69) (LT 71))] (.cond (LT 72) (.fG [LM 73 7,LM 74 1,LM 75 11,LO 76 (.iaddr 1 (LT 74) (LT 75)),LO 77 (LL 76),LO 78 (.cvt .u64 (LT 77)),LO 79 (.bin .add (LT 73) (LT 78)),LM 7 79]) .skip)) (LS [LM 80 0,LM 81 11,LM 82 7,LO 83 (.cvt .u32 (LT 82)),LO 84 (.iaddr 1 (LT 80) (LT 81)),LN (.store 1 (LT 84) (LT 83))] (.fG [LM 85 7,LO 86 (.bin .shr (LT 85) (.const (.int .u64 32))),LM 7 86])))))) (.fG [LO 87 (.bin .add (LT 59) (LI 1)),LM 59 87]))))
def zQ:aH:=(LS [LO 6 (.mv LF)] (LS [LO 7 (.mv (.const (.int .u64 0))),LO 8 (.mv (LI 0))] (.seq (LS [LM 12 0,LO 13 (.len (LT 12)),LO 14 (.mv (LI 0))] (.block 0 (.loop eB))) (.seq (LS [LM 51 8,LO 52 (.bin .eql (LT 51) (LI 0)),LM 53 52,LY 53 54 (.mv (LT 7)),LY 53 55 (.bin .eql (LT 54) (.const (.int .u64 0))),LO 56 (.pick (LT 53) (LT 55) LF)] (.cond (LT 56) (LS [LO 6 (.mv LF)] .ret) .skip)) (LS [LO 7 (.mv (.const (.int .u64 0)))] (.seq (LS [LM 57 0,LO 58 (.len (LT 57)),LO 59 (.mv (LI 0))] (.block 2 (.loop jG))) (LS [LO 6 (.mv LG)] .ret)))))))
def Cc:aU:=⟨88,[(.tmp 6)],zQ⟩
theorem Gg:iY 122=some Cc:=by kernel_rfl
end Go.PM
namespace Go.PM
def oK:aH:=(.seq (LS [LM 12 5,LO 13 (.bin .gtr (LT 12) (LI 0))] (.cond (LT 13) .skip (.exit 0))) (.seq (.block 1 (LS [LM 16 4,LM 17 0,LO 18 (.call 70 [(LT 17),(LI 7)]),LO 19 (.bin .add (LI 1) (LT 18)),LO 20 (.build [(.int .i64 0),(.int .i64 0),(.int .i64 0)] [(0,1),(1,1),(2,1)] [(0,(LT 16)),(1,(LT 19))]),LO 6 (.new [(.int .i64 0),(.int .i64 0),(.int .i64 0)]),LN (.store 3 (LT 6) (LT 20))] (LS [LM 21 0,LO 22 (.call 70 [(LT 21),(LI 3)]),LO 23 (LA 2 6),LN (.store 1 (LT 23) (LT 22))] (LS [LM 24 3,LO 25 (LK 6),LO 26 (.lit [(.int .i64 0),(.int .i64 0),(.int .i64 0)] 1 [(0,(LT 25))]),LO 27 (.app 3 24 (LT 24) (LT 26)),LM 3 27] (.fG [LM 28 4,LM 29 0,LO 30 (.lit [(.int .i64 0)] 7 [(0,(LI 0)),(1,(LI 0)),(2,(LI 1)),(3,(LI 2)),(4,(LI 3)),(5,(LI 5)),(6,(LI 9))]),LO 31 (.call 71 [(LT 29),(LT 30)]),LO 32 (.bin .add (LT 28) (LT 31)),LM 4 32]))))) (.fG [LM 14 5,LO 15 (.bin .sub (LT 14) (LI 1)),LM 5 15])))
def wH:aH:=(LS [LO 2 (.mv (.const (.slice none 0 0)))] (LS [LO 7 (.lit [(.int .i64 0),(.int .i64 0),(.int .i64 0)] 0 []),LM 3 7] (LS [LM 8 0,LO 9 (.call 70 [(LT 8),(LI 4)]),LM 4 9] (.seq (LS [LM 10 0,LO 11 (.call 70 [(LT 10),(LI 9)]),LM 5 11] (.block 0 (.loop oK))) (LS [LM 33 3,LM 2 33] .ret)))))
def AI:aU:=⟨34,[(.tmp 2)],wH⟩
theorem E0:iY 29=some AI:=by kernel_rfl
end Go.PM
namespace Go.PM
def A1:aH:=(LS [LO 2 (.mv (.const (.pointer none)))] (LS [LM 3 0,LO 4 (.build [(.slice none 0 0),(.int .i64 0),(.int .u64 0)] [(0,1),(1,1),(2,1)] [(0,(LT 3))]),LO 5 (.box (LT 4)),LM 2 5] .ret))
def DY:aU:=⟨6,[(.tmp 2)],A1⟩
theorem Iu:iY 28=some DY:=by kernel_rfl
def pL:aH:=(LS [LO 4 (.mv (LI 0))] (.seq (LS [LM 6 1,LO 7 (.bin .leq (LT 6) (LI 1))] (.cond (LT 7) (LS [LO 4 (.mv (LI 0))] .ret) .skip)) (LS [LM 8 0,LO 9 (.call 102 [(LT 8)]),LM 5 9] (.seq (LS [LM 10 1,LO 11 (.bin .gtr (LT 10) (LI 200))] (.cond (LT 11) (.fG [LM 12 5,LO 13 (.bin .mul (LT 12) (LI 256)),LM 14 0,LO 15 (.call 102 [(LT 14)]),LO 16 (.bin .add (LT 13) (LT 15)),LM 5 16]) .skip)) (LS [LM 17 5,LM 18 1,LO 19 (.bin .rem (LT 17) (LT 18)),LM 4 19] .ret)))))
def rW:aU:=⟨20,[(.tmp 4)],pL⟩
theorem Ad:iY 70=some rW:=by kernel_rfl
def oO:aH:=(LS [LO 4 (.mv (LI 0))] (LS [LM 5 1,LM 6 0,LM 7 1,LO 8 (.len (LT 7)),LO 9 (.call 70 [(LT 6),(LT 8)]),LO 10 (.iaddr 1 (LT 5) (LT 9)),LO 11 (LL 10),LM 4 11] .ret))
def qO:aU:=⟨12,[(.tmp 4)],oO⟩
theorem xZ:iY 71=some qO:=by kernel_rfl
def kM:aH:=(LS [LO 2 (.mv (LI 0))] (LS [LO 3 (.mv (LI 0))] (.seq (LS [LM 4 0,LO 5 (.chk (LT 4)),LO 6 (LA 1 5),LO 7 (LL 6),LM 8 0,LO 9 (.chk (LT 8)),LO 10 (LA 0 9),LO 11 (LL 10),LO 12 (.len (LT 11)),LO 13 (.bin .lss (LT 7) (LT 12))] (.cond (LT 13) (.fG [LM 14 0,LO 15 (.chk (LT 14)),LO 16 (LA 0 15),LO 17 (LL 16),LM 18 0,LO 19 (.chk (LT 18)),LO 20 (LA 1 19),LO 21 (LL 20),LO 22 (.iaddr 1 (LT 17) (LT 21)),LO 23 (LL 22),LO 24 (.cvt .i64 (LT 23)),LM 3 24]) .skip)) (LS [LM 25 0,LO 26 (.chk (LT 25)),LO 27 (LA 1 26),LO 28 (LL 27),LO 29 (.bin .add (LT 28) (LI 1)),LO 30 (.chk (LT 25)),LO 31 (LA 1 30),LN (.store 1 (LT 31) (LT 29))] (LS [LM 32 0,LM 33 0,LO 34 (.chk (LT 33)),LO 35 (LA 2 34),LO 36 (LL 35),LO 37 (.bin .mul (LT 36) (.const (.int .u64 6364136223846793005))),LM 38 3,LO 39 (.cvt .u64 (LT 38)),LO 40 (.bin .add (LT 37) (LT 39)),LO 41 (.bin .add (LT 40) (.const (.int .u64 1442695040888963407))),LO 42 (.chk (LT 32)),LO 43 (LA 2 42),LN (.store 1 (LT 43) (LT 41))] (.seq (LS [LM 44 0,LO 45 (.chk (LT 44)),LO 46 (LA 1 45),LO 47 (LL 46),LM 48 0,LO 49 (.chk (LT 48)),LO 50 (LA 0 49),LO 51 (LL 50),LO 52 (.len (LT 51)),LO 53 (.bin .leq (LT 47) (LT 52))] (.cond (LT 53) (LS [LM 54 3,LM 2 54] .ret) .skip)) (LS [LM 55 0,LO 56 (.chk (LT 55)),LO 57 (LA 2 56),LO 58 (LL 57),LO 59 (.bin .shr (LT 58) (.const (.int .u64 40))),LO 60 (.bin .and (LT 59) (.const (.int .u64 255))),LO 61 (.cvt .i64 (LT 60)),LM 2 61] .ret)))))))
def mO:aU:=⟨62,[(.tmp 2)],kM⟩
theorem Ao:iY 102=some mO:=by kernel_rfl
end Go.PM
namespace Go.PM
theorem jJ (x a b:Int):TC 44 [VI x,VI a,VI b] (.sc (.bool (decide (a≤x∧x≤b)))):=by
 refine TC.walk ⟨true,false⟩ SS rfl (Nat.le_of_ble_eq_true rfl) rfl rfl ?_
 by_cases h1:a≤x<;>by_cases h2:x≤b<;>simp only[QJ,J2,h1,h2,VX,Nat.reduceEqDiff,Nat.reduceAdd]<;>exact aI rfl
theorem NQ {cs:List aJ} {i:Nat} {c:aJ} (hc:Fc c) (h:∀p,cs[i]? = some p→p.t≤c.t):EH cs (i+1) c:=⟨hc,fun p _ hp=>h p (by simpa using hp)⟩
set_option maxHeartbeats 2000000 in
theorem rL (cs:List aJ) (hn:cs.length≤1000000000):TC 32 [fR cs] (.sc (.bool (decide (aN cs)))):=by
 refine TC.walk ⟨true,false⟩ B0 rfl (Nat.le_of_ble_eq_true rfl) (by simp[aO,aT]) rfl ?_
 simp only[vG,rK,VX,Nat.reduceEqDiff,Nat.reduceAdd]
 refine Aw (fun(i:Nat) ρ H=>i≤cs.length∧H=[]∧(∀j c,j<i→cs[j]? = some c→EH cs j c)∧ρ 0=fR cs∧ρ 5=fR cs∧ρ 6=VI cs.length∧ρ 7=VI i) (fun i=>cs.length-i) 0 ⟨Nat.zero_le _,rfl,fun j c h=>by omega,rfl,rfl,rfl,rfl⟩ ?_
 rintro i ρ H ⟨hi,rfl,iN,h0,h5,h6,h7⟩
 by_cases cX:(i:Int)<(cs.length:Int)
 ·obtain⟨c,hc⟩:∃c,cs[i]? = some c:=⟨_,List.getElem?_eq_getElem (by omega)⟩
  have e1:=fun H=>aL (f:=cV) (t := .op) (H:=H) (size:=3) (k := .i64) hc rfl
  have wi:IntKind.i64.wrap ((i:Int)+1)=((i+1:Nat):Int):=wrapN (i+1) (by omega) (by omega)
  have bad:¬EH cs i c→fz depth [cZ.row 0 [cV c] 3 true] (.sc (.bool false))=some (.sc (.bool (decide (aN cs)))):=fun h=>by
   rw[decide_eq_false (fun hk:aN cs=>h (hk.1 i c hc))]
   exact aI rfl
  have next:EH cs i c→∀j c',j<i+1→cs[j]? = some c'→EH cs j c':=fun h j c' hj W8=>by
   rcases Nat.lt_or_ge j i with GH | GH
   ·exact iN j c' GH W8
   ·have:j=i:=by omega
    subst this
    rw[hc] at W8
    injection W8 with W8
    exact W8▸h
  by_cases k1:0≤c.t∧c.t≤10000
  ·by_cases k2:1≤c.w∧c.w≤1000
   ·by_cases k3:0≤c.k∧c.k≤9
    ·have nW:Fc c:=⟨k1,k2,k3⟩
     cases i with
     |
      zero =>
      have hz:¬((0:Int)<((0:Nat):Int)):=by omega
      simp only[cH,h0,h5,h6,h7,cX,e1,mY,wi,k1,k2,k3,hz,jJ,cV,VX,Nat.reduceEqDiff,Nat.reduceAdd,kC,Nat.reduceLeDiff,Nat.reduceLT,Nat.reduceSub]
      refine⟨1,by omega,rfl,by omega,next ⟨nW,fun p h=>by omega⟩,?_⟩
      simp only[bE,h0,h5,h6,cC (aT _),VX,Nat.reduceEqDiff,Nat.reduceAdd,List.take_zero,cR,List.all_nil,List.length_nil,bE,mR,cC]
     |
      succ i =>
      have hp:(0:Int)<((i+1:Nat):Int):=by omega
      have w2:IntKind.i64.wrap (((i+1:Nat):Int)-1)=(i:Int):=wrapN i (by omega) (by omega)
      obtain⟨p,ZU⟩:∃p,cs[i]? = some p:=⟨_,List.getElem?_eq_getElem (by omega)⟩
      have e2:=fun H=>aL (f:=cV) (t := .op) (H:=H) (size:=3) (k := .i64) ZU rfl
      by_cases aR:c.t<p.t
      ·simp only[cH,h0,h5,h6,h7,cX,e1,e2,mY,k1,k2,k3,hp,w2,aR,jJ,cV,VX,Nat.reduceEqDiff,Nat.reduceAdd,kC,Nat.reduceLeDiff,Nat.reduceLT,Nat.reduceSub]
       exact bad fun h=>by have:=h.2 p (by omega) (by simpa using ZU);omega
      ·simp only[cH,h0,h5,h6,h7,cX,e1,e2,mY,wi,k1,k2,k3,hp,w2,aR,jJ,cV,VX,Nat.reduceEqDiff,Nat.reduceAdd,kC,Nat.reduceLeDiff,Nat.reduceLT,Nat.reduceSub]
       refine⟨i+1+1,by omega,rfl,by omega,next (NQ nW fun q hq=>by rw[ZU] at hq;injection hq with hq;subst hq;omega),?_⟩
       simp only[bE,h0,h5,h6,cC (aT _),VX,Nat.reduceEqDiff,Nat.reduceAdd,List.take_zero,cR,List.all_nil,List.length_nil,bE,mR,cC]
    ·simp only[cH,h0,h5,h6,h7,cX,e1,mY,k1,k2,k3,jJ,cV,VX,Nat.reduceEqDiff,Nat.reduceAdd,kC,Nat.reduceLeDiff,Nat.reduceLT,Nat.reduceSub]
     exact bad fun h=>k3 h.1.2.2
   ·simp only[cH,h0,h5,h6,h7,cX,e1,mY,k1,k2,jJ,cV,VX,Nat.reduceEqDiff,Nat.reduceAdd,kC,Nat.reduceLeDiff,Nat.reduceLT,Nat.reduceSub]
    exact bad fun h=>k2 h.1.2.1
  ·simp only[cH,h0,h5,h6,h7,cX,e1,mY,k1,jJ,cV,VX,Nat.reduceEqDiff,Nat.reduceAdd,kC,Nat.reduceLeDiff,Nat.reduceLT,Nat.reduceSub]
   exact bad fun h=>k1 h.1.1
 ·have zK:i=cs.length:=by omega
  subst zK
  simp only[cH,h0,h5,h6,h7,cX,VX,Nat.reduceEqDiff,Nat.reduceAdd]
  have:aN cs↔(cs.length:Int)≤24:=⟨fun h=>by have:=h.2;omega,fun h=>⟨fun j c hc=>iN j c (List.getElem?_eq_some_iff.1 hc).1 hc,by omega⟩⟩
  simp only[this]
  exact aI rfl
end Go.PM
namespace Go.PM
def LR (bN:List Int) (ok:Bool) (n:Nat) (r:VV) (L:aC):Prop :=
 ∃v,r = .eX [v,.sc (.bool ok)]∧((v = .tree [] .nil∧bN=[])∨∃i g c,v = .ref (n+i) g 0 bN.length c∧bN.length≤c∧L[i]? = some (.row g (bN.map nV) 1 true))
theorem yC (xs:List Int) (g:Nat) (p:Int→Bool) (hg:∀x,TC g [VI x] (.sc (.bool (p x)))) (hn:xs.length≤1000000000) :
  ∃k:Int,(0≤k↔xs.any p=true)∧TC 104 [lE xs,.nJ g []] (VI k):=by
 refine⟨match xs.findIdx? p with | some i=>i | none => -1,?_,?_⟩
 ·cases h:xs.findIdx? p with
  |
   none =>
   rw[List.findIdx?_eq_none_iff] at h
   simp only[List.any_eq_true]
   constructor
   ·intro h';omega
   ·rintro⟨x,hx,hp⟩;rw[h x hx] at hp;cases hp
  |
   some i =>
   simp only[List.any_eq_true]
   obtain⟨hi,hp,_⟩:=List.findIdx?_eq_some_iff_getElem.1 h
   exact⟨fun _=>⟨_,List.getElem_mem hi,hp⟩,fun _=>by omega⟩
 ·refine TC.walk ⟨true,false⟩ iP rfl (Nat.le_of_ble_eq_true rfl) (by simp[aO,gG];rfl) rfl ?_
  simp only[fJ,eK,VX,Nat.reduceEqDiff,Nat.reduceAdd]
  refine bJ (fun(i:Nat) ρ H=>i≤xs.length∧H=[]∧(∀j x,j<i→xs[j]? = some x→p x=false)∧ρ 0=lE xs∧ρ 1 = .nJ g []∧ρ 7=VI xs.length∧ρ 8=VI i) (fun i=>xs.length-i) 0 ⟨Nat.zero_le _,rfl,fun j x h=>by omega,rfl,rfl,rfl,rfl⟩ ?_
  rintro i ρ H ⟨hi,rfl,iN,h0,h1,h7,h8⟩
  by_cases cX:(i:Int)<(xs.length:Int)
  ·obtain⟨x,hx⟩:∃x,xs[i]? = some x:=⟨_,List.getElem?_eq_getElem (by omega)⟩
   have e1:=aL (f:=nV) (t := .op) (H:=[]) (size:=1) (k := .i64) hx rfl
   have wi:IntKind.i64.wrap ((i:Int)+1)=((i+1:Nat):Int):=wrapN (i+1) (by omega) (by omega)
   have e2:=hg x
   cases hp:p x with
   |
    false =>
    simp only[aW,h0,h1,h7,h8,cX,e1,e2,hp,wi,VX,Nat.reduceEqDiff,Nat.reduceAdd]
    refine⟨i+1,by omega,by omega,fun j y hj hy => ?_,by (repeat' apply And.intro)<;>first | rfl | trivial⟩
    rcases Nat.lt_or_ge j i with GH | GH
    ·exact iN j y GH hy
    ·have:j=i:=by omega
     subst this
     rw[hx] at hy
     injection hy with hy
     exact hy▸hp
   |
    true =>
    simp only[aW,h0,h1,h7,h8,cX,e1,e2,hp,wi,VX,Nat.reduceEqDiff,Nat.reduceAdd]
    have:xs.findIdx? p=some i:=by
     rw[List.findIdx?_eq_some_iff_getElem]
     obtain⟨aR,vZ⟩:=List.getElem?_eq_some_iff.1 hx
     exact⟨aR,by rw[vZ];exact hp,fun j hj=>by
      have:=iN j _ hj (List.getElem?_eq_getElem (by omega))
      simp[this]⟩
    rw[this]
    exact aI rfl
  ·simp only[aW,h0,h1,h7,h8,cX,VX,Nat.reduceEqDiff,Nat.reduceAdd]
   have:xs.findIdx? p=none:=by
    rw[List.findIdx?_eq_none_iff]
    intro x hx
    obtain⟨j,hj⟩:=List.getElem?_of_mem hx
    exact iN j x (by have:=(List.getElem?_eq_some_iff.1 hj).1;omega) hj
   rw[this]
   exact aI rfl
theorem uD (xs:List Int) (g:Nat) (p:Int→Bool) (hg:∀x,TC g [VI x] (.sc (.bool (p x)))) (hn:xs.length≤1000000000):TC 88 [lE xs,.nJ g []] (.sc (.bool (xs.any p))):=by
 refine TC.walk ⟨true,false⟩ mQ rfl (Nat.le_of_ble_eq_true rfl) (by simp[aO,gG];rfl) rfl ?_
 obtain⟨k,hk,hc⟩:=yC xs g p hg hn
 have e:decide (0≤k)=xs.any p:=by
  cases h:xs.any p with
  | true=>rw[decide_eq_true (hk.2 h)]
  | false=>rw[decide_eq_false fun h'=>by rw[hk.1 h'] at h;cases h]
 simp only[iD,gN,hc,e,VX,Nat.reduceEqDiff,Nat.reduceAdd]
 exact aI rfl
end Go.PM
namespace Go.PM
theorem GD {α:Type} {f:α→VV} {e b g c:Nat} {xs:List α} {H:aC} (hp:∀x,aX (f x)=true) (h:aM H b g=some (xs.map f,e,true)) (hc:xs.length≤c):fz depth H (.ref b g 0 xs.length c)=some (eU f xs):=by
 rw[IT h (by simp) hc (gO hp)]
theorem Ea {H H':aC} {b g:Nat} {x:List VV×Nat×Bool} (hh:H <+: H') (h:aM H b g=some x):aM H' b g=some x:=by
 obtain⟨L,rfl⟩:=hh
 exact DI h
def Seen {α:Type} (f:α→VV) (xs:List α) (H:aC) (r:VV):Prop:=∀H',H <+: H'→fz depth H' r=some (eU f xs)
theorem Seen.now {α:Type} {f:α→VV} {xs:List α} {H:aC} {r:VV} (h:Seen f xs H r):fz depth H r=some (eU f xs):=h H (List.prefix_refl _)
theorem Seen.pre {α:Type} {f:α→VV} {xs:List α} {H H':aC} {r:VV} (h:Seen f xs H r) (hh:H <+: H'):Seen f xs H' r:=fun H'' h'=>h H'' (hh.trans h')
def LV (lo hi:Nat) (bN:List Int) (H:aC) (v:VV):Prop :=
 (v = .tree [] .nil∧bN=[])∨∃b g c,lo≤b∧b<hi∧v = .ref b g 0 bN.length c∧bN.length≤c∧aM H b g=some (bN.map nV,1,true)
theorem LV.oB {lo hi:Nat} {bN:List Int} {H H':aC} {v:VV} (h:LV lo hi bN H v) (hk:∀b g x,lo≤b→b<hi→aM H b g=some x→aM H' b g=some x):LV lo hi bN H' v:=by
 rcases h with h | ⟨b,g,c,h1,h2,h3,h4,h5⟩
 ·exact .inl h
 ·exact .inr ⟨b,g,c,h1,h2,h3,h4,hk _ _ _ h1 h2 h5⟩
theorem LV.pre {lo hi:Nat} {bN:List Int} {H H':aC} {v:VV} (h:LV lo hi bN H v) (hh:H <+: H'):LV lo hi bN H' v:=h.oB fun _ _ _ _ _=>Ea hh
theorem LV.set {lo hi b':Nat} {x:cZ} {bN:List Int} {H:aC} {v:VV} (h:LV lo hi bN H v) (hb:b'<lo∨hi≤b'):LV lo hi bN (H.set b' x) v:=h.oB fun _ _ _ h1 h2=>A2 (by omega)
theorem LV.fz {lo hi:Nat} {bN:List Int} {H:aC} {v:VV} (h:LV lo hi bN H v):fz depth H v=some (lE bN):=by
 rcases h with⟨rfl,rfl⟩ | ⟨b,g,c,h1,h2,rfl,h4,h5⟩
 ·exact IE
 ·exact GD (fun _=>rfl) h5 h4
theorem Yf {F lo:Nat} {args gX:List VV} {bN:List Int} {ok:Bool} {H:aC} {K:VV→aC→Prop} (h:FC F gX (LR bN ok)) (vO:BI.contains F=true) (hf:args.mapM (fz depth H)=some gX)
  (hk:∀v H',H <+: H'→LV H.length H'.length bN H' v→K (.eX [v,.sc (.bool ok)]) H'):cS F args lo H K:=by
 refine h.call vO hf ?_
 rintro r L ⟨v,rfl,hv⟩
 refine hk v _ (List.prefix_append _ _) ?_
 rcases hv with h | ⟨i,g,c,rfl,h2,h3⟩
 ·exact .inl h
 ·have hi:=(List.getElem?_eq_some_iff.1 h3).1
  exact .inr ⟨_,g,c,Nat.le_add_right _ _,by rw[List.length_append];omega,rfl,h2,F7 h3⟩
end Go.PM
namespace Go.PM
abbrev kV (j:Nat):VV:=VI j
abbrev Su (ws:List Nat):VV:=eU kV ws
theorem xA (ws:List Nat):aX (Su ws)=true:=mD (size:=1) (fun _=>rfl) fun _=>rfl
theorem KV (n:Nat) (h:n<18446744073709551616):cY .and (.int .u64 (n:Int)) (.int .u64 4294967295)=some (.int .u64 ((n % 4294967296:Nat):Int)):=by
 simp only[cY,if_true]
 have h1:(BitVec.ofInt IntKind.u64.bits (n:Int) &&& BitVec.ofInt IntKind.u64.bits 4294967295).toNat=n % 4294967296:=by
  rw[BitVec.toNat_and]
  have e1:(BitVec.ofInt IntKind.u64.bits (n:Int)).toNat=n:=by
   rw[BitVec.toNat_ofInt]
   simp only[IntKind.bits]
   omega
  have e2:(BitVec.ofInt IntKind.u64.bits 4294967295).toNat=2^32-1:=by
   rw[BitVec.toNat_ofInt]
   simp only[IntKind.bits]
   omega
  rw[e1,e2,Nat.and_two_pow_sub_one_eq_mod]
 rw[h1,fF _ (by omega)]
theorem H0 {fl:Fl} {lo i:Nat} {P:cN→aC→Prop} {c:aH} {Q:VQ} {ρ:cN} {H:aC} (h:VW fl lo (.block i c) (fun e aP H'=>e = .normal∧P aP H') ρ H) (hq:∀aP H',P aP H'→Q .normal aP H'):VW fl lo c (vY i Q) ρ H:=by
 rw[tX] at h
 refine oW (fun x aP H' hx => ?_) h
 cases x with
 | normal=>exact hq _ _ hx.2
 |
  exit j =>
  rw[vD] at hx ⊢
  by_cases hj:j=i
  ·rw[if_pos hj] at hx ⊢
   exact hq _ _ hx.2
  ·rw[if_neg hj] at hx
   cases hx.1
 | ret=>cases hx.1
end Go.PM
namespace Go.PM
theorem EW {H:aC} {g e:Nat} {es:List VV} {w:Bool}:aM (H++[.row g es e w]) H.length g=some (es,e,w):=F7 (i:=0) rfl
theorem NP {H:aC} {x y:cZ}:(H++[x]).set H.length y=H++[y]:=by
 rw[List.set_append_right _ _ (Nat.le_refl _),Nat.sub_self,List.set_cons_zero]
theorem L8 {H K:aC} {g:Nat}:aM (H++K) H.length g=aM K 0 g:=by
 unfold aM
 rw[List.getElem?_append_right (Nat.le_refl _),Nat.sub_self]
theorem abR {H K:aC} {y:cZ}:(H++K).set H.length y=H++K.set 0 y:=by
 rw[List.set_append_right _ _ (Nat.le_refl _),Nat.sub_self]
def MI (n:Nat) (H:aC):Prop:=∃L,H=List.replicate n .dead++L∧kW n L=true
theorem MI.app {n g e:Nat} {es:List VV} {w:Bool} {H:aC} (h:MI n H) (ho:wS n es=true):MI n (H++[.row g es e w]):=by
 obtain⟨L,rfl,hL⟩:=h
 exact⟨L++[.row g es e w],by rw[List.append_assoc],by simp only[kW,List.all_append,Bool.and_eq_true,List.all_cons,List.all_nil,and_true];exact⟨hL,ho⟩⟩
theorem MI.set {n b g e:Nat} {es:List VV} {w:Bool} {H:aC} (h:MI n H) (hb:n≤b) (ho:wS n es=true):MI n (H.set b (.row g es e w)):=by
 obtain⟨L,rfl,hL⟩:=h
 refine⟨L.set (b-n) (.row g es e w),by rw[List.set_append_right _ _ (by simpa using hb),List.length_replicate],?_⟩
 unfold kW at hL ⊢
 rw[List.all_eq_true] at hL ⊢
 intro x hx
 rcases List.mem_or_eq_of_mem_set hx with h | rfl
 ·exact hL x h
 ·exact ho
theorem MI.len {n:Nat} {H:aC} (h:MI n H):n≤H.length:=by
 obtain⟨L,rfl,_⟩:=h
 simp
def amU (r:Nat×List Int):VV := .ref r.1 0 0 r.2.length r.2.length
structure ahL (lo hi b:Nat) (H:aC) (rs:List (Nat×List Int)):Prop where
 nd:(rs.map (·.1)).Nodup
 row:∀r∈rs,lo≤r.1∧r.1<hi∧r.1≠b∧aM H r.1 0=some (r.2.map nV,1,true)
def RR (lo hi:Nat) (bN:List (List Int)) (H:aC) (v:VV):Prop :=
 (v = .tree [] .nil∧bN=[])∨∃b g c rs,lo≤b∧b<hi∧v = .ref b g 0 bN.length c∧bN.length≤c∧aM H b g=some (rs.map amU,1,true)∧rs.map (·.2)=bN∧ahL lo hi b H rs
theorem RR.oB {lo hi:Nat} {bN:List (List Int)} {H H':aC} {v:VV} (h:RR lo hi bN H v) (hk:∀b g x,lo≤b→b<hi→aM H b g=some x→aM H' b g=some x):RR lo hi bN H' v:=by
 rcases h with h | ⟨b,g,c,rs,h1,h2,h3,h4,h5,h6,h7⟩
 ·exact .inl h
 ·exact .inr ⟨b,g,c,rs,h1,h2,h3,h4,hk _ _ _ h1 h2 h5,h6,h7.nd,fun r hr=>by
   obtain⟨k1,k2,k3,k4⟩:=h7.row r hr
   exact⟨k1,k2,k3,hk _ _ _ k1 k2 k4⟩⟩
theorem RR.pre {lo hi:Nat} {bN:List (List Int)} {H H':aC} {v:VV} (h:RR lo hi bN H v) (hh:H <+: H'):RR lo hi bN H' v:=h.oB fun _ _ _ _ _=>Ea hh
theorem RR.set {lo hi b':Nat} {x:cZ} {bN:List (List Int)} {H:aC} {v:VV} (h:RR lo hi bN H v) (hb:b'<lo∨hi≤b'):RR lo hi bN (H.set b' x) v:=h.oB fun _ _ _ h1 h2=>A2 (by omega)
end Go.PM
namespace Go.PM
def rP:aH:=(LS [LO 2 (.mv (.const (.slice none 0 0)))] (LS [LM 4 0,LO 5 (.call 28 [(LT 4)]),LM 3 5] (LS [LM 6 3,LO 7 (.call 29 [(LT 6)]),LM 2 7] .ret)))
def uS:aU:=⟨8,[(.tmp 2)],rP⟩
theorem BL:iY 7=some uS:=by kernel_rfl
end Go.PM
namespace Go.PM
abbrev u8V (n:Nat):VV:=VK .u8 n
abbrev BQ (xs:List Nat):VV:=eU u8V xs
theorem DC (xs:List Nat):aX (BQ xs)=true:=mD (size:=1) (fun _=>rfl) fun _=>rfl
theorem TF (n:Nat):cY .shr (.int .u64 (n:Int)) (.int .u64 40)=some (.int .u64 ((n / 1099511627776:Nat):Int)):=by
 simp only[cY]
 have h1:¬((40:Int)<0):=by decide
 have h2:Nat.min (Int.toNat 40) IntKind.u64.bits=40:=by decide
 rw[if_neg h1,h2]
 congr 2
 rw[Int.fdiv_eq_ediv_of_nonneg _ (by decide)]
 omega
theorem PS (n:Nat) (h:n<18446744073709551616):cY .and (.int .u64 (n:Int)) (.int .u64 255)=some (.int .u64 ((n % 256:Nat):Int)):=by
 simp only[cY,if_true]
 have h1:(BitVec.ofInt IntKind.u64.bits (n:Int) &&& BitVec.ofInt IntKind.u64.bits 255).toNat=n % 256:=by
  rw[BitVec.toNat_and]
  have e1:(BitVec.ofInt IntKind.u64.bits (n:Int)).toNat=n:=by
   rw[BitVec.toNat_ofInt]
   simp only[IntKind.bits]
   omega
  have e2:(BitVec.ofInt IntKind.u64.bits 255).toNat=2^8-1:=by
   rw[BitVec.toNat_ofInt]
   simp only[IntKind.bits]
   omega
  rw[e1,e2,Nat.and_two_pow_sub_one_eq_mod]
 rw[h1,fF _ (by omega)]
abbrev lZ (code:List Nat) (a uF:Nat):VV := .agg [BQ code,VI a,VK .u64 uF]
def FJ (code:List Nat):Prop:=(∀x∈code,x<256)∧code.length≤1048576
theorem wB (n:Int):∃m:Nat,IntKind.u64.wrap n=(m:Int)∧m<18446744073709551616:=by
 refine⟨(n % 18446744073709551616).toNat,?_,?_⟩
 ·rw[wrap_u64];omega
 ·omega
set_option maxHeartbeats 1000000 in
theorem Ox {lo b:Nat} {H:aC} {code:List Nat} {a uF:Nat} (hc:FJ code) (hr:aM H b 0=some ([lZ code a uF],3,true)) (dP:lo≤b) (ha:a≤1000000000) (hs:uF<18446744073709551616) :
  kH 102 [.ptr b 0 0 0] lo H fun r H'=>∃x qT:Nat,x≤255∧qT<18446744073709551616∧r=VI x∧H'=H.set b (.row 0 [lZ code (a+1) qT] 3 true):=by
 refine kH.walk ⟨true,false⟩ Ao (Nat.le_of_ble_eq_true rfl) ?_
 have oY:b<H.length:=(List.getElem?_eq_some_iff.1 (bF.1 hr)).1
 have h00:=bF.1 hr
 have hR:∀v:VV,aM (H.set b (.row 0 [v] 3 true)) b 0=some ([v],3,true):=fun v=>bF.2 (List.getElem?_set_self oY)
 have l0:bU false 1 (lZ code a uF) 0=some (BQ code):=rfl
 have wa:IntKind.i64.wrap ((a:Int)+1)=((a+1:Nat):Int):=wrapN (a+1) (by omega) (by omega)
 have hlen:=hc.2
 have rdA:∀(p q r:VV),bU false 1 (.agg [p,q,r]) 0=some p:=fun _ _ _=>rfl
 have rdB:∀(p q r:VV),bU false 1 (.agg [p,q,r]) 1=some q:=fun _ _ _=>rfl
 have rdC:∀(p q r:VV),bU false 1 (.agg [p,q,r]) 2=some r:=fun _ _ _=>rfl
 have st1:∀x y z w:Int,dE lo 1 (.ptr b 0 0 1) (VI w) H=some (H.set b (.row 0 [.agg [BQ code,VI w,VK .u64 uF]] 3 true)):=fun x y z w=>by
  simp only[dE,hr,List.getElem?_cons_zero]
  rw[if_pos ⟨rfl,dP,rfl⟩,if_neg (by decide),if_pos ⟨by decide,by decide⟩]
  rfl
 have st2:∀(w:Int),dE lo 1 (.ptr b 0 0 2) (VK .u64 w) (H.set b (.row 0 [.agg [BQ code,VI ((a+1:Nat):Int),VK .u64 uF]] 3 true))=some (H.set b (.row 0 [.agg [BQ code,VI ((a+1:Nat):Int),VK .u64 w]] 3 true)):=fun w=>by
  simp only[dE,hR,List.getElem?_cons_zero]
  rw[if_pos ⟨rfl,dP,rfl⟩,if_neg (by decide),if_pos ⟨by decide,by decide⟩,List.set_set]
  rfl
 have fin:∀x:Nat,x≤255→∀s':Nat,s'<18446744073709551616→∃x_1 qT:Nat,x_1≤255∧qT<18446744073709551616∧VI (x:Int)=VI (x_1:Int)∧H.set b (.row 0 [.agg [BQ code,VI ((a+1:Nat):Int),VK .u64 (s':Int)]] 3 true)=H.set b (.row 0 [lZ code (a+1) qT] 3 true):=fun x hx s' Pa=>⟨x,s',hx,Pa,rfl,rfl⟩
 by_cases cX:(a:Int)<(code.length:Int)
 ·obtain⟨x,hx⟩:∃x,code[a]? = some x:=⟨_,List.getElem?_eq_getElem (by omega)⟩
  have hxb:=hc.1 x (List.mem_of_getElem? hx)
  have e1:=fun H=>aL (f:=u8V) (t := .op) (H:=H) (size:=1) (k := .i64) hx rfl
  have rdu:bU false 1 (u8V x) 0=some (VK .u8 x):=rfl
  have c1:IntKind.i64.wrap (x:Int)=(x:Int):=wrap64 (by omega) (by omega)
  have c2:IntKind.u64.wrap (x:Int)=(x:Int):=fF x (by omega)
  have hle:((a+1:Nat):Int)≤(code.length:Int):=by omega
  obtain⟨s1,h1,_⟩:=wB ((uF:Int)*6364136223846793005)
  obtain⟨s2,h2,_⟩:=wB ((s1:Int)+(x:Int))
  obtain⟨s3,h3,h3'⟩:=wB ((s2:Int)+1442695040888963407)
  simp only[mO,kM,hr,hR,cX,rdA,rdB,rdC,e1,rdu,c1,c2,wa,st1 0 0 0,st2,h1,h2,h3,hle,List.getElem?_cons_zero,VX,Nat.reduceEqDiff,Nat.reduceAdd,kC,Nat.reduceLeDiff,Nat.reduceLT,Nat.reduceSub]
  exact⟨x,s3,by omega,h3',rfl,rfl⟩
 ·have c2:IntKind.u64.wrap 0=0:=fF 0 (by decide)
  have hle:¬((a+1:Nat):Int)≤(code.length:Int):=by omega
  obtain⟨s1,h1,_⟩:=wB ((uF:Int)*6364136223846793005)
  obtain⟨s2,h2,_⟩:=wB ((s1:Int)+0)
  obtain⟨s3,h3,h3'⟩:=wB ((s2:Int)+1442695040888963407)
  have q1:=TF s3
  have q2:=PS (s3 / 1099511627776) (by omega)
  have c3:IntKind.i64.wrap ((s3 / 1099511627776 % 256:Nat):Int)=((s3 / 1099511627776 % 256:Nat):Int):=wrap64 (by omega) (by omega)
  simp only[mO,kM,hr,hR,cX,rdA,rdB,rdC,c2,wa,st1 0 0 0,st2,h1,h2,h3,hle,q1,q2,c3,List.getElem?_cons_zero,VX,Nat.reduceEqDiff,Nat.reduceAdd,kC,Nat.reduceLeDiff,Nat.reduceLT,Nat.reduceSub]
  exact⟨s3 / 1099511627776 % 256,s3,by omega,h3',rfl,rfl⟩
theorem KU (x n:Nat) (hn:n≠0):cY .rem (.int .i64 (x:Int)) (.int .i64 (n:Int))=some (.int .i64 ((x % n:Nat):Int)):=by
 simp only[cY,if_true]
 rw[if_neg (by omega)]
 rfl
theorem qP {lo b:Nat} {H:aC} {code:List Nat} {a uF n:Nat} (hc:FJ code) (hr:aM H b 0=some ([lZ code a uF],3,true)) (dP:lo≤b) (ha:a≤1000000000) (hs:uF<18446744073709551616) (hn:2≤n∧n≤200) :
  kH 70 [.ptr b 0 0 0,VI (n:Int)] lo H fun r H'=>∃x qT:Nat,x<n∧qT<18446744073709551616∧r=VI x∧H'=H.set b (.row 0 [lZ code (a+1) qT] 3 true):=by
 refine kH.walk ⟨true,false⟩ Ad (Nat.le_of_ble_eq_true rfl) ?_
 have h1:¬(n:Int)≤1:=by omega
 have h2:¬(200:Int)<(n:Int):=by omega
 simp only[rW,pL,h1,VX,Nat.reduceEqDiff,Nat.reduceAdd]
 refine cW rfl ((Ox hc hr dP ha hs).mono ?_)
 rintro r H' ⟨x,qT,hx,Pa,rfl,rfl⟩
 have q:=KU x n (by omega)
 simp only[h2,q,VX,Nat.reduceEqDiff,Nat.reduceAdd]
 exact⟨x % n,qT,Nat.mod_lt _ (by omega),Pa,rfl,rfl⟩
theorem KM {lo b:Nat} {H:aC} {code:List Nat} {a uF:Nat} {bN:List Int} {t:TK} (hc:FJ code) (hr:aM H b 0=some ([lZ code a uF],3,true)) (dP:lo≤b) (ha:a≤1000000000) (hs:uF<18446744073709551616) (hn:2≤bN.length∧bN.length≤200) :
  kH 71 [.ptr b 0 0 0,.tree (bN.map nV) t] lo H fun r H'=>∃(v:Int) (qT:Nat),v∈bN∧qT<18446744073709551616∧r=VI v∧H'=H.set b (.row 0 [lZ code (a+1) qT] 3 true):=by
 refine kH.walk ⟨true,false⟩ xZ (Nat.le_of_ble_eq_true rfl) ?_
 simp only[qO,oO,VX,Nat.reduceEqDiff,Nat.reduceAdd]
 refine cW rfl ((qP hc hr dP ha hs hn).mono ?_)
 rintro r H' ⟨x,qT,hx,Pa,rfl,rfl⟩
 obtain⟨v,hv⟩:∃v,bN[x]? = some v:=⟨_,List.getElem?_eq_getElem hx⟩
 have e1:=fun H=>aL (f:=nV) (t:=t) (H:=H) (size:=1) (k := .i64) hv rfl
 have Sm:bU false 1 (nV v) 0=some (VI v):=rfl
 simp only[e1,Sm,VX,Nat.reduceEqDiff,Nat.reduceAdd]
 exact⟨v,qT,List.mem_of_getElem? hv,Pa,rfl,rfl⟩
structure ZQ (cs:List aJ):Prop where
 ok:aN cs
 few:cs.length≤8
 small:∀c∈cs,c.w≤7∧c.t≤75
theorem Pn {cs:List aJ} {c:aJ} (h:aN cs) (hl:cs.length≤23) (hb:∀x∈cs,x.t≤c.t) (hc:Fc c):aN (cs++[c]):=by
 refine⟨fun i x hx => ?_,by simp;omega⟩
 rcases Nat.lt_or_ge i cs.length with h1 | h1
 ·rw[List.getElem?_append_left h1] at hx
  obtain⟨g1,g2⟩:=h.1 i x hx
  refine⟨g1,fun b hb0 xE => ?_⟩
  rw[List.getElem?_append_left (by omega)] at xE
  exact g2 b hb0 xE
 ·have h2:i=cs.length:=by
   have:=(List.getElem?_eq_some_iff.1 hx).1
   simp at this
   omega
  subst h2
  rw[List.getElem?_append_right (Nat.le_refl _),Nat.sub_self] at hx
  injection hx with hx
  subst hx
  refine⟨hc,fun b hb0 xE => ?_⟩
  rw[List.getElem?_append_left (by omega)] at xE
  exact hb b (List.mem_of_getElem? xE)
set_option maxHeartbeats 2000000 in
theorem Fk {lo b:Nat} {H:aC} {code:List Nat} {uF:Nat} (hc:FJ code) (hr:aM H b 0=some ([lZ code 0 uF],3,true)) (dP:lo≤b) (hs:uF<18446744073709551616) :
  kH 29 [.ptr b 0 0 0] lo H fun r H'=>∃(cs:List aJ) (a qT:Nat) (K:aC),ZQ cs∧r = .ref H.length cs.length 0 cs.length cs.length∧H'=H.set b (.row 0 [lZ code a qT] 3 true)++(.row cs.length (cs.map cV) 3 true::K):=by
 refine kH.walk ⟨true,false⟩ E0 (Nat.le_of_ble_eq_true rfl) ?_
 have oY:b<H.length:=(List.getElem?_eq_some_iff.1 (bF.1 hr)).1
 have e0:=fun H=>mW (H:=H) (lr:=false) (z:=[.int .i64 0,.int .i64 0,.int .i64 0]) rfl
 have rB:∀(a s:Nat) (K:aC),aM (H.set b (.row 0 [lZ code a s] 3 true)++K) b 0=some ([lZ code a s],3,true):=fun a s K=>DI (bF.2 (List.getElem?_set_self oY))
 have sB:∀(a s a' s':Nat) (K:aC),(H.set b (.row 0 [lZ code a s] 3 true)++K).set b (.row 0 [lZ code a' s'] 3 true)=H.set b (.row 0 [lZ code a' s'] 3 true)++K:=fun a s a' s' K=>by
  rw[List.set_append_left _ _ (by simpa using oY),List.set_set]
 have k0:∀(a s g:Nat) (K:aC),aM (H.set b (.row 0 [lZ code a s] 3 true)++K) H.length g=aM K 0 g:=fun a s g K=>by
  have:=L8 (H:=H.set b (.row 0 [lZ code a s] 3 true)) (K:=K) (g:=g)
  rwa [List.length_set] at this
 have hPl:∀(a s:Nat) (X:aC),(H.set b (.row 0 [lZ code a s] 3 true)++X).length=H.length+X.length:=fun a s X=>by simp
 have k2:∀(a s g:Nat) (x y:cZ) (K:aC),aM (H.set b (.row 0 [lZ code a s] 3 true)++(x::(K++[y]))) (H.length+(K.length+1)) g=aM [y] 0 g:=fun a s g x y K=>by
  have:=L8 (H:=H.set b (.row 0 [lZ code a s] 3 true)++(x::K)) (K:=[y]) (g:=g)
  rwa [hPl,List.length_cons,List.append_assoc,List.cons_append] at this
 have u0:∀(a s:Nat) (K:aC) (y:cZ),(H.set b (.row 0 [lZ code a s] 3 true)++K).set H.length y=H.set b (.row 0 [lZ code a s] 3 true)++K.set 0 y:=fun a s K y=>by
  have:=abR (H:=H.set b (.row 0 [lZ code a s] 3 true)) (K:=K) (y:=y)
  rwa [List.length_set] at this
 have u2:∀(a s:Nat) (x y z:cZ) (K:aC),(H.set b (.row 0 [lZ code a s] 3 true)++(x::(K++[y]))).set (H.length+(K.length+1)) z=H.set b (.row 0 [lZ code a s] 3 true)++(x::(K++[z])):=fun a s x y z K=>by
  have:=NP (H:=H.set b (.row 0 [lZ code a s] 3 true)++(x::K)) (x:=y) (y:=z)
  rwa [hPl,List.length_cons,List.append_assoc,List.cons_append,List.append_assoc,List.cons_append] at this
 have hH:H=H.set b (.row 0 [lZ code 0 uF] 3 true):=by
  obtain⟨aR,vZ⟩:=List.getElem?_eq_some_iff.1 (bF.1 hr)
  rw[←vZ,List.set_getElem_self]
 have start:∀K,cS 70 [.ptr b 0 0 0,VI 4] lo (H++[.row 0 [] 3 true]) K↔cS 70 [.ptr b 0 0 0,VI 4] lo (H.set b (.row 0 [lZ code 0 uF] 3 true)++[.row 0 [] 3 true]) K:=fun K=>by rw[←hH]
 simp only[AI,wH,e0,List.length_cons,List.length_nil,VX,Nat.reduceEqDiff,Nat.reduceAdd]
 rw[start]
 refine cW rfl ((qP (n:=4) hc (rB 0 uF _) dP (by omega) hs (by decide)).mono ?_)
 rintro r H' ⟨x,s1,hx,C6,rfl,rfl⟩
 rw[sB]
 simp only[VX,Nat.reduceEqDiff,Nat.reduceAdd]
 refine cW rfl ((qP (n:=9) hc (rB 1 s1 _) dP (by omega) C6 (by decide)).mono ?_)
 rintro r H' ⟨y,s2,hy,Xl,rfl,rfl⟩
 rw[sB]
 simp only[VX,Nat.reduceEqDiff,Nat.reduceAdd]
 refine bJ (fun(st:Nat×List aJ×Nat) ρ H'=>st.2.1.length+st.1≤8∧aN st.2.1∧(∀c∈st.2.1,c.t≤(st.2.2:Int)∧c.w≤7∧c.t≤75)∧st.2.2≤3+9*st.2.1.length∧ρ 0 = .ptr b 0 0 0∧ρ 3 = .ref H.length st.2.1.length 0 st.2.1.length st.2.1.length∧ρ 4=VI st.2.2∧ρ 5=VI st.1 ∧
  ∃(a s:Nat) (K:aC),a≤2+3*st.2.1.length∧s<18446744073709551616∧H'=H.set b (.row 0 [lZ code a s] 3 true)++(.row st.2.1.length (st.2.1.map cV) 3 true::K)) (fun st=>st.1) (y,[],x) ⟨by simp only[List.length_nil];omega,⟨fun i c h=>(by cases h),Nat.zero_le _⟩,fun c hc=>(by cases hc),by simp only[List.length_nil];omega,rfl,rfl,rfl,rfl,2,s2,[],by simp,Xl,rfl⟩ ?_
 clear start hx hy C6 Xl s1 s2 x y
 rintro⟨r,cs,t⟩ ρ H' ⟨h1,h2,h3,h4,g0,g3,g4,g5,a,s,K,ha,OJ,rfl⟩
 simp only at h1 h2 h3 h4 g3 g4 g5 ha
 cases r with
 |
  zero =>
  have aR:¬(0:Int)<((0:Nat):Int):=by decide
  simp only[oK,g3,g5,aR,VX,Nat.reduceEqDiff,Nat.reduceAdd]
  exact⟨cs,a,s,K,⟨h2,by omega,fun c hc=>⟨(h3 c hc).2.1,(h3 c hc).2.2⟩⟩,rfl,rfl⟩
 |
  succ r =>
  have aR:(0:Int)<((r+1:Nat):Int):=by omega
  simp only[oK,g0,g3,g4,g5,aR,VX,Nat.reduceEqDiff,Nat.reduceAdd]
  refine cW rfl ((qP (n:=7) hc (rB a s _) dP (by omega) OJ (by decide)).mono ?_)
  rintro q H1 ⟨x,s1,hx,C6,rfl,rfl⟩
  rw[sB]
  have w1:IntKind.i64.wrap (1+(x:Int))=1+(x:Int):=wrap64 (by omega) (by omega)
  have aeO:lo≤H.length+(K.length+1):=by omega
  have ev:∀(z:VV),elemOf [VV.sc (.int .i64 0),.sc (.int .i64 0),.sc (.int .i64 0)] = .agg [VI 0,VI 0,VI 0]:=fun _=>rfl
  simp only[g0,w1,hPl,k2,u2,aeO,List.length_cons,List.append_assoc,List.cons_append,List.nil_append,List.getElem?_cons_zero,VX,Nat.reduceEqDiff,Nat.reduceAdd,kC,Nat.reduceLeDiff,Nat.reduceLT,Nat.reduceSub]
  refine cW rfl ((qP (n:=3) hc (rB (a+1) s1 _) dP (by omega) C6 (by decide)).mono ?_)
  rintro q H1 ⟨y,s3,hy,hs3,rfl,rfl⟩
  rw[sB]
  have arU:cV ⟨t,1+x,y⟩ = .agg [VI t,VI (1+x),VI y]:=rfl
  have eL:∀H,oU false [.int .i64 0,.int .i64 0,.int .i64 0] 1 [(0,.agg [VI t,VI (1+x),VI y])] H=some (.tree [.agg [VI t,VI (1+x),VI y]] (.cl 3),H):=fun H=>lH rfl rfl rfl
  have eS:∀H,cM 3 (.tree [.agg [VI t,VI (1+x),VI y]] (.cl 3)) H=some [.agg [VI t,VI (1+x),VI y]]:=fun H=>hC rfl rfl
  have eP:∀K',dW lo 3 24 (.ref H.length cs.length 0 cs.length cs.length) [.agg [VI t,VI (1+x),VI y]] (H.set b (.row 0 [lZ code (a+1+1) s3] 3 true)++(.row cs.length (cs.map cV) 3 true::K'))=some (.ref H.length (cs.length+1) 0 (cs.length+1) (cs.length+1),H.set b (.row 0 [lZ code (a+1+1) s3] 3 true)++(.row (cs.length+1) ((cs++[(⟨t,1+x,y⟩:aJ)]).map cV) 3 true::K')):=fun K'=>by
   have:=lP (f:=cV) (xs:=cs) (x:=⟨t,1+x,y⟩) (lo:=lo) (b:=H.length) (g:=cs.length) (n:=cs.length) (e:=3) (bytes:=24) (H:=H.set b (.row 0 [lZ code (a+1+1) s3] 3 true)++(.row cs.length (cs.map cV) 3 true::K')) (by rw[k0,bK]) rfl (by omega) (by decide) (by decide) (by omega)
   rw[u0,List.set_cons_zero] at this
   exact this
  have eM:∀H,oU false [.int .i64 0] 7 [(0,VI 0),(1,VI 0),(2,VI 1),(3,VI 2),(4,VI 3),(5,VI 5),(6,VI 9)] H=some (.tree (([0,0,1,2,3,5,9]:List Int).map nV) (.cl 1),H):=fun H=>by simp[oU,qI,aB,cB,gL,elemOf,kQ,List.replicate_succ]
  have ag:bU true 3 (.agg [VI t,VI (1+x),VI y]) 0=some (.agg [VI t,VI (1+x),VI y]):=rfl
  simp only[g0,g3,g4,hPl,k2,u2,aeO,eL,eS,eP,eM,ag,List.getElem?_cons_zero,VX,Nat.reduceEqDiff,Nat.reduceAdd,kC,Nat.reduceLeDiff,Nat.reduceLT,Nat.reduceSub]
  refine cW rfl ((KM (bN:=[0,0,1,2,3,5,9]) hc (rB (a+1+1) s3 _) dP (by omega) hs3 (by decide)).mono ?_)
  rintro q H1 ⟨v,s4,hv,hs4,rfl,rfl⟩
  rw[sB]
  have hvb:0≤v∧v≤9:=by
   simp only[List.mem_cons,List.not_mem_nil,or_false] at hv
   omega
  have w2:IntKind.i64.wrap ((t:Int)+v)=(((t+v.toNat:Nat):Nat):Int):=wrapN (t+v.toNat) (by omega) (by omega)
  have w3:IntKind.i64.wrap (((r+1:Nat):Int)-1)=(r:Int):=wrapN r (by omega) (by omega)
  simp only[g5,w2,w3,VX,Nat.reduceEqDiff,Nat.reduceAdd]
  refine⟨(r,cs++[⟨t,1+x,y⟩],t+v.toNat),by simp only;omega,by simp only[List.length_append,List.length_cons,List.length_nil];omega,Pn h2 (by omega) (fun c Xw=>(h3 c Xw).1) ⟨⟨by simp only;omega,by simp only;omega⟩,⟨by simp only;omega,by simp only;omega⟩,⟨by simp only;omega,by simp only;omega⟩⟩,fun c Xw => ?_,by simp only[List.length_append,List.length_cons,List.length_nil];omega,?_⟩
  ·simp only
   rcases List.mem_append.1 Xw with Xw | Xw
   ·have:=h3 c Xw
    omega
   ·rw[List.mem_singleton] at Xw
    subst Xw
    simp only
    omega
  ·simp only[g0,List.length_append,List.length_cons,List.length_nil,Nat.zero_add,VX,Nat.reduceEqDiff,Nat.reduceAdd]
   exact⟨a+1+1+1,s4,_,by omega,hs4,rfl⟩
theorem BS {lo:Nat} {H:aC} {code:List Nat} (hc:FJ code) (dP:lo≤H.length) :
  kH 7 [BQ code] lo H fun r H'=>∃(cs:List aJ) (x:cZ) (K:aC),ZQ cs∧r = .ref (H.length+1) cs.length 0 cs.length cs.length∧H'=H++(x :: .row cs.length (cs.map cV) 3 true::K):=by
 refine kH.walk ⟨true,false⟩ BL (Nat.le_of_ble_eq_true rfl) ?_
 simp only[uS,rP,VX,Nat.reduceEqDiff,Nat.reduceAdd]
 have hF:kH 28 [BQ code] lo H fun r H'=>r = .ptr H.length 0 0 0∧H'=H++[.row 0 [lZ code 0 0] 3 true]:=by
  refine kH.walk ⟨false,false⟩ Iu (Nat.le_of_ble_eq_true rfl) ?_
  simp only[DY,A1,List.length_cons,List.length_nil,aB,List.all_cons,List.all_nil,VX,Nat.reduceEqDiff,Nat.reduceAdd,kC,Nat.reduceLeDiff,Nat.reduceLT,Nat.reduceSub]
  rfl
 refine cW rfl (hF.mono ?_)
 rintro r H' ⟨rfl,rfl⟩
 simp only[VX,Nat.reduceEqDiff,Nat.reduceAdd]
 refine cW rfl ((Fk (uF:=0) hc (by rw[L8,bK]) dP (by decide)).mono ?_)
 rintro r H' ⟨cs,a,s,K,hD,rfl,rfl⟩
 simp only[VX,Nat.reduceEqDiff,Nat.reduceAdd]
 refine⟨cs,.row 0 [lZ code a s] 3 true,K,hD,by simp,?_⟩
 rw[NP,List.append_assoc]
 rfl
end Go.PM
namespace Go.Proofs.YtinhiblbgejbdaaGreatDoor
open Go.ChangeShapes Go.WideShapes Go.ChangeAt Go.RowKit Go.PM
def cb (n:Nat):List Value:=[.int .u8 (n:Int)]
theorem Zm:Cd cb 1:=⟨fun _=>rfl,fun _=>rfl,by decide⟩
theorem KE {T:Type} {T5:TypeId×Value→T} {W:World} (fuel:Nat) (cs:List Value) (y:DataW T×List MemPlace) (h:DataW.trod T5 Tryz.prog W 0 (fun _=>true) true fuel 5 cs=some y):∃x:Nat,cs=cb x∧x<256:=by
 obtain⟨n,e,_,w⟩:=DataW.trod_int Tryz.underlying5 h
 simp only[Lit.wf,Bool.and_eq_true,decide_eq_true_eq] at w
 have w1:(0:Int)≤n:=w.1
 have w2:n≤255:=w.2
 refine⟨n.toNat,?_,by omega⟩
 rw[e]
 unfold cb
 rw[Int.toNat_of_nonneg w1]
theorem J8 (m:cK) (x:Nat) (_:x<256) (i:Nat) (hi:i<1):RV m ((cb x).getD i undef) ((cb x).getD i undef):=by
 match i,hi with
 | 0,_=>exact .int _ _
end Go.Proofs.YtinhiblbgejbdaaGreatDoor
namespace Go.PM
theorem TC.vt {f:Nat} {args:List VV} {r:VV} (h:TC f args r) (vO:BI.contains f=false) (hp:aO args=true):VT f args r:=by
 have h1:=h 0 [] fun x _=>x=r
 unfold cS at h1
 simp only[vO,hp,Bool.false_eq_true,if_false,if_true] at h1
 have h2:Eb f args fun x=>x=r:=by rw[h1];trivial
 unfold Eb tk at h2
 split at h2
 ·rename_i x hx
  rw[←h2]
  exact(L2 hx).2.2
 ·exact h2.elim
theorem TC.yes {f:Nat} {args:List VV} {dQ:List Value} {H:aF} (h:TC f args (.sc (.bool true))) (vO:BI.contains f=false) (hp:aO args=true) (hl:VL (bare (· < H.length) H) args dQ) :
  ∃v H',nK f dQ H.length H=some (v,H')∧v = .bool true:=by
 obtain⟨P',pv,h1,_,h2⟩:=h.vt vO hp (· < H.length) H dQ H.length (fun _ h=>h) hl (Nat.le_refl _)
 cases h2
 exact⟨_,P',h1,rfl⟩
theorem VR.grow {H L:aF} {x:VV} {v:Value} (h:VR (bare (· < H.length) H) x v):VR (bare (· < (H++L).length) (H++L)) x v :=
 h.CR fun b hb=>⟨by show b<_;rw[List.length_append];omega,List.getElem?_append_left hb⟩
theorem Re {α:Type} {enc:α→List Value} {f:α→VV} {dA n c:Nat} {H:aF} {pa:Option Addr} {xs:List α} (hA:Arr enc dA H pa n xs) (hc:n≤c) (hf:∀x,aB (f x)=(enc x).map .sc) (hs:∀x,(enc x).all kQ=true) (hlen:∀x,(enc x).length=dA)
  (hb:(pa=none∧xs=[]∧n=0∧c=0)∨∃b r p,pa=some ⟨b,0,none⟩∧H[b]? = some (.row r dA p)∧n*dA≤r.length∧r.take (n*dA)=xs.flatMap enc):VR (bare (· < H.length) H) (eU f xs) (.slice pa n c):=by
 rcases hb with⟨rfl,rfl,rfl,rfl⟩ | ⟨b,r,p,rfl,h1,h2,h3⟩
 ·exact .mN _ (.inl rfl)
 ·have hn:=hA.len
  subst hn
  have hl:xs.length=(xs.map f).length:=by simp
  have key:VL (bare (· < H.length) H) ((xs.map f).flatMap aB) (xs.flatMap enc):=by
   clear h3 h2 hl hc hA
   induction xs with
   | nil=>exact .nil
   |
    cons x xs ih =>
    simp only[List.map_cons,List.flatMap_cons,hf]
    have hx:=hs x
    revert hx
    generalize enc x=cs
    intro hx
    induction cs with
    | nil=>exact ih
    |
     cons v vs ih2 =>
     simp only[List.all_cons,Bool.and_eq_true] at hx
     exact .cons _ _ _ _ (.sc v hx.1) (ih2 hx.2)
  have:=VR.tree (V:=bare (· < H.length) H) (xs.map f) .op b 0 c r dA p (by show b<_;exact(List.getElem?_eq_some_iff.1 h1).1) h1 (by rw[←hl];omega) (by rw[←hl];exact hc) (fun y hy=>by
   obtain⟨x,_,rfl⟩:=List.mem_map.1 hy
   rw[hf,List.length_map,hlen]) trivial (by rw[←hl,List.drop_zero,h3];exact key)
  rw[←hl] at this
  exact this
end Go.PM
namespace Go.PM
def lQ (cs:List aJ) (i:Nat):Int:=((cs[i]?).map (·.t)).getD 0
def rQ (cs:List aJ) (i:Nat):Int:=((cs[i]?).map (·.w)).getD 0
def klC (cs:List aJ) (i:Nat):Int:=((cs[i]?).map (·.k)).getD 0
def dL (st:List Int) (i:Nat):Int:=(st[i]?).getD 0
theorem pU {cs:List aJ} {i:Nat} {x:aJ} (h:cs[i]? = some x):lQ cs i=x.t:=by simp[lQ,h]
theorem Ew {cs:List aJ} {i:Nat} {x:aJ} (h:cs[i]? = some x):rQ cs i=x.w:=by simp[rQ,h]
theorem Vr {cs:List aJ} {i:Nat} {x:aJ} (h:cs[i]? = some x):klC cs i=x.k:=by simp[klC,h]
theorem pQ {st:List Int} {i:Nat} {x:Int} (h:st[i]? = some x):dL st i=x:=by simp[dL,h]
def CC (cs:List aJ) (st:List Int) (t:Int) (i:Nat):Bool:=decide (0≤dL st i)&&decide (dL st i≤t)&&decide (t<dL st i+rQ cs i)
def bz (cs:List aJ) (st:List Int) (t:Int):Nat:=(List.range cs.length).countP (CC cs st t)
def Xq (cs:List aJ) (st:List Int) (t:Int) (i:Nat):Bool:=decide (dL st i<0)&&decide (lQ cs i≤t)
def wt (cs:List aJ) (st:List Int) (t:Int):List Nat:=(List.range cs.length).filter (Xq cs st t)
def uA (aA:Int) (cs:List aJ) (i k:Nat):Bool :=
 if aA=1 then true else if aA=2 then decide (rQ cs i<rQ cs k) else if aA=3 then decide (klC cs i<klC cs k) else false
def kS (aA:Int) (cs:List aJ) (b:Option Nat) (i:Nat):Option Nat:=match b with
 | none=>some i
 | some k=>if uA aA cs i k then some i else some k
def OE (aA:Int) (cs:List aJ) (st:List Int) (t:Int):Option Nat:=(wt cs st t).foldl (kS aA cs) none
def fill (aA aE:Int) (cs:List aJ) (t:Int):Nat→List Int→List Int
 | 0,st=>st
 |
  n+1,st=>if (bz cs st t:Int)<aE then (match OE aA cs st t with
  | none=>st
  | some k=>fill aA aE cs t n (st.set k t)) else st
def full (aA aE:Int) (cs:List aJ) (st:List Int) (t:Int):Prop:=aE≤(bz cs st t:Int)∨OE aA cs st t=none
def runT (aA aE:Int) (cs:List aJ):Int→Nat→List Int→List Int
 | _,0,st=>st
 | t,n+1,st=>runT aA aE cs (t+1) n (fill aA aE cs t cs.length st)
def gR (aA aE:Int) (cs:List aJ):List Int:=runT aA aE cs 0 100000 (List.replicate cs.length (-1))
section
variable {aA aE:Int} {cs:List aJ} {st:List Int} {t:Int}
theorem pZ (h:full aA aE cs st t) (n:Nat):fill aA aE cs t n st=st:=by
 cases n with
 | zero=>rfl
 |
  succ n =>
  rw[fill]
  rcases h with h | h
  ·rw[if_neg (by omega)]
  ·split
   ·rw[h]
   ·rfl
theorem ET (m:Nat):∀(t:Int) (n:Nat),(∀u,t≤u→u<t+m→full aA aE cs st u)→m≤n→runT aA aE cs t n st=runT aA aE cs (t+m) (n-m) st:=by
 induction m with
 | zero=>intro t n _ _;simp
 |
  succ m ih =>
  intro t n h hm
  obtain⟨n,rfl⟩:∃k,n=k+1:=⟨n-1,by omega⟩
  rw[runT,pZ (h t (Int.le_refl _) (by omega)),ih (t+1) n (fun u h1 h2=>h u (by omega) (by omega)) (by omega)]
  congr 1
  ·omega
  ·omega
theorem SI (n:Nat):∀(t:Int),(∀u,t≤u→full aA aE cs st u)→runT aA aE cs t n st=st:=by
 intro t h
 rw[ET n t n (fun u h1 _=>h u h1) (Nat.le_refl _),Nat.sub_self]
 rfl
theorem Rz {a b:Int} (ha:0≤a) (Hy:a≤b) (hb:b≤100000) (h:∀u,a≤u→u<b→full aA aE cs st u):runT aA aE cs a (100000-a).toNat st=runT aA aE cs b (100000-b).toNat st:=by
 rw[ET (b-a).toNat a _ (fun u h1 h2=>h u h1 (by omega)) (by omega)]
 congr 1
 ·omega
 ·omega
theorem Wg {a:Int} (ha:0≤a) (hb:a<100000):runT aA aE cs a (100000-a).toNat st=runT aA aE cs (a+1) (100000-(a+1)).toNat (fill aA aE cs a cs.length st):=by
 rw[show (100000-a).toNat=(100000-(a+1)).toNat+1 by omega,runT]
theorem KB {ws:List Nat} {k:Nat}:∃j,(ws.foldl (kS aA cs) (some k))=some j∧(j=k∨j∈ws):=by
 induction ws generalizing k with
 | nil=>exact⟨k,rfl,.inl rfl⟩
 |
  cons i ws ih =>
  rw[List.foldl_cons]
  have:∃q,kS aA cs (some k) i=some q∧(q=k∨q=i):=by
   unfold kS
   simp only
   split
   ·exact⟨i,rfl,.inr rfl⟩
   ·exact⟨k,rfl,.inl rfl⟩
  obtain⟨q,hq,hqq⟩:=this
  rw[hq]
  obtain⟨j,h1,h2⟩:=ih (k:=q)
  refine⟨j,h1,?_⟩
  rcases h2 with rfl | h2
  ·rcases hqq with rfl | rfl
   ·exact .inl rfl
   ·exact .inr List.mem_cons_self
  ·exact .inr (List.mem_cons_of_mem _ h2)
theorem lL:OE aA cs st t=none↔wt cs st t=[]:=by
 unfold OE
 cases h:wt cs st t with
 | nil=>exact⟨fun _=>rfl,fun _=>rfl⟩
 |
  cons i ws =>
  refine⟨fun h2 => ?_,fun h2=>(by cases h2)⟩
  rw[List.foldl_cons] at h2
  obtain⟨j,h3,_⟩:=KB (aA:=aA) (cs:=cs) (ws:=ws) (k:=i)
  rw[show kS aA cs none i=some i from rfl,h3] at h2
  cases h2
theorem oP {k:Nat} (h:OE aA cs st t=some k):k∈wt cs st t:=by
 unfold OE at h
 cases hw:wt cs st t with
 | nil=>rw[hw] at h;cases h
 |
  cons i ws =>
  rw[hw,List.foldl_cons] at h
  obtain⟨j,h3,h4⟩:=KB (aA:=aA) (cs:=cs) (ws:=ws) (k:=i)
  rw[show kS aA cs none i=some i from rfl,h3] at h
  injection h with h
  subst h
  rcases h4 with rfl | h4
  ·exact List.mem_cons_self
  ·exact List.mem_cons_of_mem _ h4
theorem kN {k:Nat}:k∈wt cs st t↔k<cs.length∧dL st k<0∧lQ cs k≤t:=by
 simp[wt,Xq]
theorem Wp:(wt cs st t).Nodup:=List.Pairwise.filter _ List.nodup_range
theorem lS {k i:Nat} (hk:k<st.length):dL (st.set k t) i=if i=k then t else dL st i:=by
 unfold dL
 rw[List.getElem?_set]
 by_cases h:i=k
 ·subst h
  simp[hk]
 ·rw[if_neg (fun h'=>h h'.symm),if_neg h]
theorem KQ {p q:Nat→Bool} {k:Nat} (hp:p k=false) (h:∀i,i≠k→q i=p i):∀n,(List.range n).countP q=(List.range n).countP p+if k<n∧q k=true then 1 else 0:=by
 intro n
 induction n with
 | zero=>simp
 |
  succ n ih =>
  rw[List.range_succ,List.countP_append,List.countP_append,ih]
  by_cases hk:n=k
  ·subst hk
   simp only[List.countP_singleton,hp]
   cases hq:q n<;>simp
  ·rw[List.countP_singleton,List.countP_singleton,h n hk]
   have:(k<n+1∧q k=true)↔(k<n∧q k=true):=by
    constructor
    ·rintro⟨h1,h2⟩;exact⟨by omega,h2⟩
    ·rintro⟨h1,h2⟩;exact⟨by omega,h2⟩
   simp only[this]
   omega
theorem VO {k:Nat} {u:Int} (hk:k<cs.length) (hl:st.length=cs.length) (hs:dL st k<0) (h0:0≤t):bz cs (st.set k t) u=bz cs st u+if t≤u∧u<t+rQ cs k then 1 else 0:=by
 unfold bz
 rw[KQ (p:=CC cs st u) (q:=CC cs (st.set k t) u) (k:=k)]
 ·congr 1
  have:(k<cs.length∧CC cs (st.set k t) u k=true)↔(t≤u∧u<t+rQ cs k):=by
   simp only[CC,lS (t:=t) (i:=k) (by omega:k<st.length),if_true,Bool.and_eq_true,decide_eq_true_eq]
   constructor
   ·rintro⟨_,⟨_,h1⟩,h2⟩;exact⟨h1,h2⟩
   ·rintro⟨h1,h2⟩;exact⟨hk,⟨h0,h1⟩,h2⟩
  simp only[this]
 ·simp only[CC]
  rw[decide_eq_false (by omega)]
  rfl
 ·intro i hi
  simp only[CC,lS (t:=t) (i:=i) (by omega:k<st.length),if_neg hi]
theorem aaL {k:Nat} {u:Int} (hl:st.length=cs.length) (hk:k<cs.length) (h0:0≤t):wt cs (st.set k t) u=(wt cs st u).filter (· != k):=by
 unfold wt
 rw[List.filter_filter]
 refine List.filter_congr fun i hi => ?_
 simp only[Xq,lS (t:=t) (i:=i) (by omega:k<st.length)]
 by_cases h:i=k
 ·subst h
  simp
  omega
 ·simp[h]
def tE (st:List Int):Nat:=st.countP (fun s=>decide (s<0))
theorem qL {k:Nat} (hk:k<st.length) (hs:dL st k<0) (h0:0≤t):tE (st.set k t)+1=tE st:=by
 unfold tE
 rw[List.countP_set hk]
 have hx:st[k]=dL st k:=by
  rw[pQ (x:=st[k]) (List.getElem?_eq_getElem hk)]
 have h1:decide (st[k]<0)=true:=by rw[hx];exact decide_eq_true hs
 have h2:decide (t<0)=false:=decide_eq_false (by omega)
 have h3:0<st.countP (fun s=>decide (s<0)):=by
  rw[List.countP_pos_iff]
  exact⟨st[k],List.getElem_mem hk,h1⟩
 simp only[h1,h2,if_true,Bool.false_eq_true,if_false]
 omega
theorem Ky (hl:st.length=cs.length) (h0:0≤t):∀(n m:Nat),tE st≤n→tE st≤m→fill aA aE cs t n st=fill aA aE cs t m st:=by
 intro n
 induction n generalizing st with
 |
  zero =>
  intro m hn hm
  have hf:full aA aE cs st t:=by
   right
   rw[lL]
   cases hw:wt cs st t with
   | nil=>rfl
   |
    cons i ws =>
    have h1:i∈wt cs st t:=by rw[hw];exact List.mem_cons_self
    obtain⟨h2,h3,_⟩:=kN.1 h1
    have:=qL (t:=t) (by omega:i<st.length) h3 h0
    omega
  rw[pZ hf,pZ hf]
 |
  succ n ih =>
  intro m hn hm
  cases m with
  |
   zero =>
   have hf:full aA aE cs st t:=by
    right
    rw[lL]
    cases hw:wt cs st t with
    | nil=>rfl
    |
     cons i ws =>
     have h1:i∈wt cs st t:=by rw[hw];exact List.mem_cons_self
     obtain⟨h2,h3,_⟩:=kN.1 h1
     have:=qL (t:=t) (by omega:i<st.length) h3 h0
     omega
   rw[pZ hf,pZ hf]
  |
   succ m =>
   rw[fill,fill]
   split
   ·split
    ·rfl
    ·rename_i k hk
     obtain⟨h2,h3,_⟩:=kN.1 (oP hk)
     have:=qL (t:=t) (by omega:k<st.length) h3 h0
     exact ih (by simp[hl]) m (by omega) (by omega)
   ·rfl
theorem uG:tE st≤st.length:=List.countP_le_length
theorem R1 {k:Nat} (hl:st.length=cs.length) (h0:0≤t) (hb:(bz cs st t:Int)<aE) (hk:OE aA cs st t=some k):fill aA aE cs t cs.length (st.set k t)=fill aA aE cs t cs.length st:=by
 obtain⟨h2,h3,_⟩:=kN.1 (oP hk)
 have h4:=qL (t:=t) (by omega:k<st.length) h3 h0
 have h5:=uG (st:=st)
 rw[Ky (st:=st) hl h0 cs.length (cs.length+1) (by omega) (by omega)]
 conv=>rhs;rw[fill,if_pos hb,hk]
def evT (cs:List aJ) (st:List Int) (i:Nat):Int:=if 0≤dL st i then dL st i+rQ cs i else lQ cs i
def ZX (cs:List aJ) (st:List Int) (t:Int) (b:Int) (i:Nat):Int:=if t<evT cs st i∧(b<0∨evT cs st i<b) then evT cs st i else b
def later (cs:List aJ) (st:List Int) (t:Int):Int:=(List.range cs.length).foldl (ZX cs st t) (-1)
structure Way (cs:List aJ) (st:List Int) (t:Int):Prop where
 len:st.length=cs.length
 low:∀i,i<cs.length → -1≤dL st i
 high:∀i,i<cs.length→dL st i≤t
 bd:∀i,i<cs.length→dL st i+1000*(tE st:Int)≤10000+1000*(cs.length:Int)
 tm:0≤t∧t+1000*(tE st:Int)≤11000+1000*(cs.length:Int)
theorem Way.set {k:Nat} (h:Way cs st t) (hk:k<cs.length) (hs:dL st k<0):Way cs (st.set k t) t:=by
 have hl:=h.len
 have Jm:=h.tm
 have h4:=qL (t:=t) (by omega:k<st.length) hs Jm.1
 refine⟨by simp[hl],fun i hi => ?_,fun i hi => ?_,fun i hi => ?_,Jm.1,by omega⟩
 all_goals rw[lS (by omega:k<st.length)]
 ·have:=h.low i hi
  split<;>omega
 ·have:=h.high i hi
  split<;>omega
 ·have:=h.bd i hi
  split<;>omega
theorem Way.le (h:Way cs st t) (hc:aN cs):t≤35000∧∀i,i<cs.length→dL st i≤34000:=by
 have hlen:=hc.2
 have Jm:=h.tm
 refine⟨by omega,fun i hi => ?_⟩
 have:=h.bd i hi
 omega
theorem aN.G0 (hc:aN cs) {i:Nat} (hi:i<cs.length):(0≤lQ cs i∧lQ cs i≤10000)∧(1≤rQ cs i∧rQ cs i≤1000):=by
 have hx:cs[i]? = some cs[i]:=List.getElem?_eq_getElem hi
 have:=hc.at hx
 rw[pU hx,Ew hx]
 exact⟨this.1,this.2.1⟩
def nA (aA:Int) (cs:List aJ) (ws:List Nat):Nat :=
 if aA=1 then ws.length-1 else if aA=2∨aA=3 then (List.range ws.length).foldl (fun b k=>if uA aA cs (ws.getD k 0) (ws.getD b 0) then k else b) 0 else 0
theorem Pd {ws:List Nat} {k:Nat} (h:∀i j,uA aA cs i j=false):ws.foldl (kS aA cs) (some k)=some k:=by
 induction ws with
 | nil=>rfl
 |
  cons i ws ih =>
  rw[List.foldl_cons]
  have:kS aA cs (some k) i=some k:=by
   unfold kS
   simp only[h]
   rfl
  rw[this,ih]
theorem Vc {ws:List Nat} (cI:ws≠[]) (hr:0≤aA∧aA≤3):nA aA cs ws<ws.length∧ws[nA aA cs ws]? = ws.foldl (kS aA cs) none:=by
 have hlen:0<ws.length:=List.length_pos_iff.2 cI
 unfold nA
 by_cases h1:aA=1
 ·rw[if_pos h1]
  rcases List.eq_nil_or_concat ws with rfl | ⟨xs,y,rfl⟩
  ·exact absurd rfl cI
  ·rw[List.concat_eq_append,List.foldl_append]
   refine⟨by simp,?_⟩
   simp only[List.length_append,List.length_cons,List.length_nil,Nat.zero_add,Nat.add_sub_cancel,List.foldl_cons,List.foldl_nil]
   rw[List.getElem?_append_right (Nat.le_refl _),Nat.sub_self]
   unfold kS
   split
   ·rfl
   ·simp only[uA,if_pos h1,if_true]
    rfl
 ·rw[if_neg h1]
  by_cases h2:aA=2∨aA=3
  ·rw[if_pos h2]
   have amA:∀i,uA aA cs i i=false:=fun i=>by
    unfold uA
    rw[if_neg h1]
    split
    ·exact decide_eq_false (by omega)
    ·split
     ·exact decide_eq_false (by omega)
     ·rfl
   have key:∀n,n<ws.length→(List.range (n+1)).foldl (fun b k=>if uA aA cs (ws.getD k 0) (ws.getD b 0) then k else b) 0<ws.length ∧
     ws[(List.range (n+1)).foldl (fun b k=>if uA aA cs (ws.getD k 0) (ws.getD b 0) then k else b) 0]? = (ws.take (n+1)).foldl (kS aA cs) none:=by
    intro n
    induction n with
    |
     zero =>
     intro _
     have:(List.range (0+1)).foldl (fun b k=>if uA aA cs (ws.getD k 0) (ws.getD b 0) then k else b) 0=0:=by
      simp[List.range_succ,amA]
     rw[this]
     refine⟨hlen,?_⟩
     cases ws with
     | nil=>exact absurd rfl cI
     | cons i ws=>rfl
    |
     succ n ih =>
     intro hn
     obtain⟨g1,g2⟩:=ih (by omega)
     rw[List.range_succ,List.foldl_append,List.foldl_cons,List.foldl_nil]
     generalize (List.range (n+1)).foldl (fun b k=>if uA aA cs (ws.getD k 0) (ws.getD b 0) then k else b) 0=b at *
     obtain⟨x,hx⟩:∃x,ws[n+1]? = some x:=⟨_,List.getElem?_eq_getElem hn⟩
     obtain⟨y,hy⟩:∃y,ws[b]? = some y:=⟨_,List.getElem?_eq_getElem g1⟩
     rw[List.take_add_one,hx,List.foldl_append,←g2,hy]
     simp only[Option.toList_some,List.foldl_cons,List.foldl_nil,List.getD_eq_getElem?_getD,hx,hy,Option.getD_some,kS]
     split
     ·exact⟨hn,hx⟩
     ·exact⟨g1,hy⟩
   have:=key (ws.length-1) (by omega)
   rw[show ws.length-1+1=ws.length by omega,List.take_of_length_le (Nat.le_refl _)] at this
   exact this
  ·rw[if_neg h2]
   refine⟨hlen,?_⟩
   have hb:∀i j,uA aA cs i j=false:=fun i j=>by
    unfold uA
    rw[if_neg h1,if_neg (by omega),if_neg (by omega)]
   cases ws with
   | nil=>exact absurd rfl cI
   |
    cons i ws =>
    rw[List.foldl_cons,show kS aA cs none i=some i from rfl,Pd hb]
    rfl
end
end Go.PM
namespace Go.PM
def nL (st:List Int) (i:Nat):Bool:=decide (dL st i<0)
def Aj (u e:Int):Bool:=decide (u<e)
section
variable {aA aE:Int} {cs:List aJ} {st:List Int} {t:Int}
theorem aN.sorted (hc:aN cs):∀ {i j:Nat},i≤j→j<cs.length→lQ cs i≤lQ cs j:=by
 intro i j IW hj
 induction j with
 |
  zero =>
  have:i=0:=by omega
  subst this
  exact Int.le_refl _
 |
  succ j ih =>
  rcases Nat.lt_or_ge i (j+1) with h | h
  ·have h1:=ih (by omega) (by omega)
   have hx:cs[j+1]? = some cs[j+1]:=List.getElem?_eq_getElem hj
   have hy:cs[j]? = some cs[j]:=List.getElem?_eq_getElem (by omega)
   have h2:=(hc.1 (j+1) _ hx).2 _ (by omega) (by rw[Nat.add_sub_cancel];exact hy)
   rw[pU hx]
   rw[pU hy] at h1
   omega
  ·have:i=j+1:=by omega
   subst this
   exact Int.le_refl _
theorem mF {aD:Nat} (MZ:aD≤cs.length) (past:∀i,i<aD→lQ cs i≤t) (Gl:∀i,aD≤i→i<cs.length→t<lQ cs i):wt cs st t=(List.range aD).filter (nL st):=by
 unfold wt
 rw[show cs.length=aD+(cs.length-aD) by omega,List.range_add,List.filter_append]
 have h1:(List.range aD).filter (Xq cs st t)=(List.range aD).filter (nL st):=by
  refine List.filter_congr fun i hi => ?_
  rw[List.mem_range] at hi
  simp[Xq,nL,past i hi]
 have h2:((List.range (cs.length-aD)).map fun x=>aD+x).filter (Xq cs st t)=[]:=by
  rw[List.filter_eq_nil_iff]
  intro i hi
  obtain⟨j,hj,rfl⟩:=List.mem_map.1 hi
  rw[List.mem_range] at hj
  have:=Gl (aD+j) (by omega) (by omega)
  simp only[Xq,Bool.and_eq_true,decide_eq_true_eq]
  omega
 rw[h1,h2,List.append_nil]
structure wO (aA aE:Int) (cs:List aJ) (st:List Int) (t:Int) (aD:Nat) (ws:List Nat) (ends:List Int):Prop where
 len:st.length=cs.length
 low:∀i,i<cs.length → -1≤dL st i
 high:∀i,i<cs.length→dL st i≤t
 bd:∀i,i<cs.length→dL st i+1000*(tE st:Int)≤10000+1000*(cs.length:Int)
 tm : -1≤t
 DA:aD≤cs.length
 past:∀i,i<aD→lQ cs i≤t
 Gl:∀i,aD≤i→i<cs.length→t<lQ cs i∧dL st i<0
 vW:ws=wt cs st t
 Qp:∀u,t≤u→ends.countP (Aj u)=bz cs st u
 ef:∀e∈ends,t<e
 eb:∀e∈ends,e+1000*(tE st:Int)≤11000+1000*(cs.length:Int)
 fl:full aA aE cs st t
 room:ws.length+ends.length≤aD
 es:(ends.length:Int)≤aE
 run:runT aA aE cs (t+1) (100000-(t+1)).toNat st=gR aA aE cs
theorem uU {n i:Nat} (h:i<n):dL (List.replicate n (-1)) i = -1:=pQ (by rw[List.getElem?_replicate,if_pos h])
theorem wO.start (hc:aN cs) (hs:1≤aE):wO aA aE cs (List.replicate cs.length (-1)) (-1) 0 [] []:=by
 have hw:wt cs (List.replicate cs.length (-1)) (-1)=[]:=by
  rw[mF (Nat.zero_le _) (fun i hi=>by omega) fun i _ hi=>by have:=hc.G0 hi;omega]
  rfl
 have hu:tE (List.replicate cs.length (-1))=cs.length:=by simp[tE,List.countP_replicate]
 refine⟨by simp,fun i hi=>by rw[uU hi];decide,fun i hi=>by rw[uU hi];decide,fun i hi=>by rw[uU hi,hu];omega,by decide,Nat.zero_le _,fun i hi=>by omega,fun i _ hi=>⟨by have:=hc.G0 hi;omega,by rw[uU hi];decide⟩,hw.symm,fun u _ => ?_,fun e he=>(by cases he),fun e he=>(by cases he),.inr (lL.2 hw),Nat.le_refl _,by simp;omega,rfl⟩
 unfold bz
 rw[(List.countP_eq_zero (p:=CC cs (List.replicate cs.length (-1)) u)).2]
 ·rfl
 ·intro i hi
  rw[List.mem_range] at hi
  simp only[CC,uU hi,Bool.and_eq_true,decide_eq_true_eq]
  omega
def C5 (w:Bool) (b e:Int):Int:=if b<0∨(w=true∧e<b) then e else b
theorem VC {es:List Int} {b:Int} (h:0≤b):es.foldl (C5 false) b=b:=by
 induction es with
 | nil=>rfl
 |
  cons e es ih =>
  rw[List.foldl_cons]
  have:C5 false b e=b:=by
   unfold C5
   rw[if_neg (by simp;omega)]
  rw[this,ih]
theorem UP:∀ {es:List Int} {b:Int},(∀e∈es,0≤e)→(es.foldl (C5 true) b=b∨es.foldl (C5 true) b∈es)∧(∀e∈es,es.foldl (C5 true) b≤e)∧(0≤b→es.foldl (C5 true) b≤b)∧(es≠[]→0≤es.foldl (C5 true) b)
 | [],b,_=>⟨.inl rfl,fun e he=>(by cases he),fun _=>Int.le_refl _,fun h=>absurd rfl h⟩
 |
  e::es,b,h=>by
  rw[List.foldl_cons]
  have h1:=h e List.mem_cons_self
  have h2:∀e'∈es,0≤e':=fun e' he=>h e' (List.mem_cons_of_mem _ he)
  have hm:(C5 true b e=b∨C5 true b e=e)∧C5 true b e≤e∧(0≤b→C5 true b e≤b)∧0≤C5 true b e:=by
   unfold C5
   by_cases hc:b<0∨(true=true∧e<b)
   ·rw[if_pos hc]
    refine⟨.inr rfl,Int.le_refl _,fun hb => ?_,h1⟩
    rcases hc with hc | hc<;>omega
   ·rw[if_neg hc]
    simp at hc
    exact⟨.inl rfl,hc.2,fun _=>Int.le_refl _,hc.1⟩
  obtain⟨m1,m2,m3,m4⟩:=hm
  obtain⟨g1,g2,g3,g4⟩:=UP (es:=es) (b:=C5 true b e) h2
  have g3:=g3 m4
  refine⟨?_,?_,fun hb=>by have:=m3 hb;omega,fun _ => ?_⟩
  ·rcases g1 with g1 | g1
   ·rw[g1]
    rcases m1 with m1 | m1
    ·exact .inl m1
    ·rw[m1];exact .inr List.mem_cons_self
   ·exact .inr (List.mem_cons_of_mem _ g1)
  ·intro e' he
   rcases List.mem_cons.1 he with rfl | he
   ·omega
   ·exact g2 e' he
  ·rcases g1 with g1 | g1
   ·rw[g1];exact m4
   ·exact h2 _ g1
def qA (cs:List aJ) (aD:Nat):Int:=if aD<cs.length then lQ cs aD else -1
def pX (cs:List aJ) (aD:Nat) (ws:List Nat) (ends:List Int):Int:=ends.foldl (C5 (decide (0<ws.length))) (qA cs aD)
theorem wO.LU {aD:Nat} {ws:List Nat} {ends:List Int} (h:wO aA aE cs st t aD ws ends):ends.length=bz cs st t:=by
 rw[←h.Qp t (Int.le_refl _),List.countP_eq_length.2]
 intro e he
 exact decide_eq_true (h.ef e he)
theorem wO.time {aD:Nat} {ws:List Nat} {ends:List Int} (h:wO aA aE cs st t aD ws ends) (hc:aN cs) (hs:1≤aE) (hg:aD<cs.length∨0<ws.length) :
  (t<pX cs aD ws ends∧pX cs aD ws ends+1000*(tE st:Int)≤11000+1000*(cs.length:Int))∧(∀i,aD≤i→i<cs.length→pX cs aD ws ends≤lQ cs i) ∧
   (aD<cs.length∧lQ cs aD=pX cs aD ws ends∨0<ws.length∧pX cs aD ws ends∈ends)∧runT aA aE cs (pX cs aD ws ends) (100000-pX cs aD ws ends).toNat st=gR aA aE cs:=by
 have Jm:=h.tm
 have Kp:=uG (st:=st)
 have hlen:=h.len
 have he0:∀e∈ends,0≤e:=fun e he=>by have:=h.ef e he;omega
 have amP:=hc.2
 by_cases hw:0<ws.length
 ·have ZM:aE≤(bz cs st t:Int):=by
   rcases h.fl with hf | hf
   ·exact hf
   ·rw[lL,←h.vW] at hf
    rw[hf] at hw
    simp at hw
  have cI:ends≠[]:=by
   intro he
   have:=h.LU
   rw[he] at this
   simp at this
   omega
  obtain⟨g1,g2,g3,g4⟩:=UP (es:=ends) (b:=qA cs aD) he0
  have HG:pX cs aD ws ends=ends.foldl (C5 true) (qA cs aD):=by unfold pX;rw[decide_eq_true hw]
  rw[HG]
  generalize ends.foldl (C5 true) (qA cs aD)=w at *
  have g4:=g4 cI
  have B4:(aD<cs.length∧lQ cs aD=w)∨w∈ends:=by
   rcases g1 with g1 | g1
   ·unfold qA at g1
    split at g1
    ·rename_i jM
     exact .inl ⟨jM,g1.symm⟩
    ·omega
   ·exact .inr g1
  have htw:t<w∧w+1000*(tE st:Int)≤11000+1000*(cs.length:Int):=by
   rcases B4 with⟨h1,h2⟩ | h1
   ·have:=h.Gl aD (Nat.le_refl _) h1
    have:=hc.G0 h1
    omega
   ·exact⟨h.ef _ h1,h.eb _ h1⟩
  refine⟨htw,fun i h1 h2 => ?_,B4.imp id fun h1=>⟨hw,h1⟩,?_⟩
  ·have h3:=hc.sorted h1 h2
   have h4:=hc.G0 (i:=aD) (by omega)
   have h5:qA cs aD=lQ cs aD:=by unfold qA;rw[if_pos (by omega)]
   have:=g3 (by rw[h5];omega)
   omega
  ·rw[←h.run]
   refine(Rz (by omega) (by omega) (by omega) fun u h1 h2 => .inl ?_).symm
   rw[←h.Qp u (by omega),(List.countP_eq_length (p:=Aj u)).2 fun e he=>decide_eq_true (by have:=g2 e he;omega),h.LU]
   exact ZM
 ·have jM:aD<cs.length:=by omega
  have h5:qA cs aD=lQ cs aD:=by unfold qA;rw[if_pos jM]
  have h4:=hc.G0 jM
  have hf:=(h.Gl aD (Nat.le_refl _) jM).1
  have HG:pX cs aD ws ends=lQ cs aD:=by unfold pX;rw[decide_eq_false hw,VC (by rw[h5];omega),h5]
  rw[HG]
  refine⟨⟨hf,by omega⟩,fun i h1 h2=>hc.sorted h1 h2,.inl ⟨jM,rfl⟩,?_⟩
  rw[←h.run]
  refine(Rz (by omega) (by omega) (by omega) fun u h1 h2 => .inr ?_).symm
  rw[lL,mF h.DA (fun i hi=>by have:=h.past i hi;omega) fun i h3 h4=>by have:=hc.sorted h3 h4;omega]
  have e1:=mF (st:=st) h.DA h.past fun i h3 h4=>(h.Gl i h3 h4).1
  rw[←e1,←h.vW]
  exact List.eq_nil_of_length_eq_zero (by omega)
theorem wO.done {aD:Nat} {ws:List Nat} {ends:List Int} (h:wO aA aE cs st t aD ws ends) (MZ:¬aD<cs.length) (hw:¬0<ws.length):st=gR aA aE cs:=by
 rw[←h.run]
 refine(SI _ _ fun u hu => .inr ?_).symm
 have jM:=h.DA
 have e1:=mF (st:=st) h.DA h.past fun i h3 h4=>(h.Gl i h3 h4).1
 rw[lL,mF h.DA (fun i hi=>by have:=h.past i hi;omega) fun i h3 h4=>by omega,←e1,←h.vW]
 exact List.eq_nil_of_length_eq_zero (by omega)
structure Yl (aA aE:Int) (cs:List aJ) (OB:List Int) (now:Int) (aD Td:Nat) (st:List Int) (ws:List Nat) (ends:List Int):Prop where
 C7:Way cs st now
 vW:ws=wt cs st now
 Qp:∀u,now≤u→ends.countP (Aj u)=bz cs st u
 ef:∀e∈ends,now<e
 eb:∀e∈ends,e+1000*(tE st:Int)≤11000+1000*(cs.length:Int)
 fl:fill aA aE cs now cs.length st=fill aA aE cs now cs.length OB
 past:∀i,i<aD→lQ cs i≤now
 Gl:∀i,aD≤i→i<cs.length→now<lQ cs i∧dL st i<0
 Td:ws.length+ends.length=Td
 es:(ends.length:Int)≤aE
theorem zU:∀ {l:List Nat} {i k:Nat},l.Nodup→l[i]? = some k→l.eraseIdx i=l.filter (· != k)
 | [],_,_,_,h=>by cases h
 |
  x::l,0,k,hn,h=>by
  injection h with h
  subst h
  rw[List.nodup_cons] at hn
  rw[List.eraseIdx_cons_zero,List.filter_cons_of_neg (by simp),List.filter_eq_self.2]
  intro y hy
  have:y≠x:=fun he=>hn.1 (he▸hy)
  simpa using this
 |
  x::l,i+1,k,hn,h=>by
  rw[List.nodup_cons] at hn
  rw[List.getElem?_cons_succ] at h
  have hx:x≠k:=fun he=>hn.1 (he▸List.mem_of_getElem? h)
  rw[List.eraseIdx_cons_succ,List.filter_cons_of_pos (by simpa using hx),zU hn.2 h]
theorem Yl.step {now:Int} {OB:List Int} {aD Td:Nat} {ws:List Nat} {ends:List Int} (h:Yl aA aE cs OB now aD Td st ws ends) (hc:aN cs) (hr:0≤aA∧aA≤3) (hb:(ends.length:Int)<aE) (cI:0<ws.length) :
  ∃k,ws[nA aA cs ws]? = some k∧k<cs.length∧nA aA cs ws<ws.length∧(0≤now∧now≤35000)∧Yl aA aE cs OB now aD Td (st.set k now) (ws.eraseIdx (nA aA cs ws)) (ends++[now+rQ cs k]):=by
 have Sj:ws≠[]:=fun he=>by rw[he] at cI;simp at cI
 obtain⟨g1,g2⟩:=Vc (cs:=cs) Sj hr
 obtain⟨k,hk⟩:∃k,ws[nA aA cs ws]? = some k:=⟨_,List.getElem?_eq_getElem g1⟩
 have hnx:OE aA cs st now=some k:=by
  unfold OE
  rw[←h.vW,←g2,hk]
 obtain⟨m1,m2,m3⟩:=kN.1 (oP hnx)
 have Jm:=h.C7.tm
 have hle:=(h.C7.le hc).1
 have ZM:(bz cs st now:Int)=ends.length:=by
  rw[←h.Qp now (Int.le_refl _),(List.countP_eq_length (p:=Aj now)).2 fun e he=>decide_eq_true (h.ef e he)]
 have I0:k<st.length:=by rw[h.C7.len];exact m1
 have hus:=qL (t:=now) I0 m2 Jm.1
 have hwk:=(hc.G0 m1).2
 refine⟨k,hk,m1,g1,⟨Jm.1,hle⟩,h.C7.set m1 m2,?_,?_,?_,?_,?_,h.past,?_,?_,?_⟩
 ·rw[aaL h.C7.len m1 Jm.1,←h.vW]
  exact zU (by rw[h.vW];exact Wp) hk
 ·intro u hu
  rw[List.countP_append,h.Qp u hu,VO m1 h.C7.len m2 Jm.1,List.countP_singleton]
  congr 1
  simp only[Aj,decide_eq_true_eq]
  by_cases hq:u<now+rQ cs k
  ·rw[if_pos hq,if_pos ⟨hu,hq⟩]
  ·rw[if_neg hq,if_neg fun h'=>hq h'.2]
 ·intro e he
  rcases List.mem_append.1 he with he | he
  ·exact h.ef e he
  ·rw[List.mem_singleton] at he
   omega
 ·intro e he
  rcases List.mem_append.1 he with he | he
  ·have:=h.eb e he
   omega
  ·rw[List.mem_singleton] at he
   omega
 ·rw[R1 h.C7.len Jm.1 (by rw[ZM];exact hb) hnx,h.fl]
 ·intro i h1 h2
  have h3:=h.Gl i h1 h2
  refine⟨h3.1,?_⟩
  rw[lS I0,if_neg (fun he=>by subst he;omega)]
  exact h3.2
 ·rw[List.length_eraseIdx_of_lt g1,List.length_append,List.length_cons,List.length_nil]
  have:=h.Td
  omega
 ·rw[List.length_append,List.length_cons,List.length_nil]
  omega
theorem Yl.done {now:Int} {OB:List Int} {aD Td:Nat} {ws:List Nat} {ends:List Int} (h:Yl aA aE cs OB now aD Td st ws ends) (hc:aN cs) (jM:aD≤cs.length) (ht:Td≤aD) (hf:aE≤(ends.length:Int)∨ws=[])
  (hr:runT aA aE cs now (100000-now).toNat OB=gR aA aE cs):wO aA aE cs st now aD ws ends:=by
 have Jm:=h.C7.tm
 have hle:=(h.C7.le hc).1
 have ZM:(bz cs st now:Int)=ends.length:=by
  rw[←h.Qp now (Int.le_refl _),(List.countP_eq_length (p:=Aj now)).2 fun e he=>decide_eq_true (h.ef e he)]
 have Y7:full aA aE cs st now:=by
  rcases hf with hf | hf
  ·exact .inl (by rw[ZM];exact hf)
  ·exact .inr (lL.2 (by rw[←h.vW];exact hf))
 refine⟨h.C7.len,h.C7.low,h.C7.high,h.C7.bd,by omega,jM,h.past,h.Gl,h.vW,h.Qp,h.ef,h.eb,Y7,by rw[h.Td];exact ht,h.es,?_⟩
 have h1:=pZ Y7 cs.length
 rw[h.fl] at h1
 rw[Wg Jm.1 (by omega),h1] at hr
 exact hr
theorem wO.ph4 {aD Cr:Nat} {now:Int} {ws:List Nat} {ends:List Int} (h:wO aA aE cs st t aD ws ends) (hc:aN cs) (ht:t<now) (hn:now+1000*(tE st:Int)≤11000+1000*(cs.length:Int)) (h1:aD≤Cr) (h2:Cr≤cs.length)
  (h3:∀i,aD≤i→i<Cr→lQ cs i=now) (h4:∀i,Cr≤i→i<cs.length→now<lQ cs i) :
  Yl aA aE cs st now Cr (((List.range Cr).filter (nL st)).length+(ends.filter (Aj now)).length) st ((List.range Cr).filter (nL st)) (ends.filter (Aj now)):=by
 have Jm:=h.tm
 have past:∀i,i<Cr→lQ cs i≤now:=fun i hi=>by
  rcases Nat.lt_or_ge i aD with aR | vZ
  ·have:=h.past i aR
   omega
  ·rw[h3 i vZ hi]
   exact Int.le_refl _
 refine⟨⟨h.len,h.low,fun i hi=>by have:=h.high i hi;omega,h.bd,by omega,hn⟩,?_,?_,?_,?_,rfl,past,?_,rfl,?_⟩
 ·rw[mF h2 past h4]
 ·intro u hu
  rw[List.countP_filter,←h.Qp u (by omega)]
  refine List.countP_congr fun e he => ?_
  simp only[Aj,Bool.and_eq_true,decide_eq_true_eq]
  omega
 ·intro e he
  have:=(List.mem_filter.1 he).2
  simpa[Aj] using this
 ·intro e he
  exact h.eb e (List.mem_filter.1 he).1
 ·intro i h5 h6
  exact⟨h4 i h5 h6,(h.Gl i (by omega) h6).2⟩
 ·have:=List.length_filter_le (Aj now) ends
  have:=h.es
  omega
end
end Go.PM