/- Texts of a claim, in one: part 14. -/
import Derived.KernelRfl
import Derived.Test.YtjmflicajplclaaGreatDoorKAm
open And renaming intro → aMk
open Bool renaming not_false → aOi,not_true → aOj
open Int renaming mul_ne_zero → aOm,natAbs_mul → aNi,natAbs_natCast → aNj
open List renaming all_eq_true → aKS,cons_append → aL4,getD_eq_getElem?_getD → aKB,getElem?_cons_succ → aMo,getElem?_cons_zero → aKY,getElem?_eq_getElem → aKL,length_cons → aKO,length_eq_zero_iff → aMM,length_nil → aMh,mapM_cons → aL1,mem_of_getElem? → aLy,nil_append → aLW,prefix_append → aMy
open Nat renaming add_mul → aK9,add_sub_cancel_left → aMv,le_of_ble_eq_true → aMs,le_refl → aKE,le_trans → aKF,lt_irrefl → aOk,lt_of_lt_of_le → aKG,lt_or_ge → aKH,mul_comm → aL6,mul_le_mul_right → aK5,mul_lt_mul'' → aOd,pow_le_pow_right → aMH,zero_add → aMc,zero_le → aK8,zero_lt_one → aNW
open Option renaming getD_some → aNS
open Rat renaming intCast_mul → aOe,le_refl → aOa,mul_nonneg → aOn,zero_mul → aOl
set_option linter.unusedSimpArgs false
set_option linter.unusedVariables false
namespace Go.PM
def dA:aE:=(.seq (LS [LM 77 10,LM 78 4,LO 79 (.bin .lss (LT 77) (LT 78))] (.cond (LT 79) .skip (.exit 0))) (.seq (.block 1 (LS [LM 83 0,LO 84 (.chk (LT 83)),LO 85 (LA 1 84),LO 86 (LL 85),LM 87 10,LO 88 (.iaddr 1 (LT 86) (LT 87)),LO 89 (LL 88),LO 90 (.call 57 [(LT 89)]),LM 82 90,LO 91 (LX 82 0),LO 92 (LX 82 1),LM 11 91,LM 12 92] (.seq (LS [LM 93 12,LO 94 (.un .not (LT 93)),LM 95 94,LZ 95 96 (.mv (LT 11)),LZ 95 97 (.len (LT 96)),LZ 95 98 (.mv (LT 4)),LZ 95 99 (.bin .neq (LT 97) (LT 98)),LO 100 (.pick (LT 95) LG (LT 99)),LM 101 100,LZ 101 102 (.mv (LT 11)),LZ 101 103 (.call 58 [(LT 102)]),LZ 101 104 (.un .not (LT 103)),LO 105 (.pick (LT 101) LG (LT 104)),LM 106 105,LZ 106 107 (.mv (LT 11)),LZ 106 108 (.mv (LT 10)),LZ 106 109 (.iaddr 3 (LT 107) (LT 108)),LZ 106 110 (LK 109),LZ 106 111 (.call 59 [(LT 110)]),LZ 106 112 (.un .not (LT 111)),LO 113 (.pick (LT 106) LG (LT 112))] (.cond (LT 113) (LS [LO 114 (LK 5),LN (.store 3 (LT 2) (LT 114)),LO 3 (.mv LF)] .ret) .skip)) (.cT [LO 115 (LA 1 5),LO 116 (LL 115),LM 117 11,LO 118 (.lit [(.slice none 0 0)] 1 [(0,(LT 117))]),LO 119 (.app 1 24 (LT 116) (LT 118)),LO 120 (LA 1 5),LN (.store 1 (LT 120) (LT 119))])))) (.cT [LM 80 10,LO 81 (.bin .add (LT 80) (LI 1)),LM 10 81])))
def dT:aE:=(LS [LO 2 (.new [(.slice none 0 0),(.slice none 0 0),(.slice none 0 0)]),LO 3 (.mv LF)] (LS [LM 13 0,LO 14 (.chk (LT 13)),LO 15 (LA 0 14),LO 16 (LL 15),LO 17 (.len (LT 16)),LM 4 17] (LS [LO 18 (.build [(.slice none 0 0),(.slice none 0 0),(.slice none 0 0)] [(0,1),(1,1),(2,1)] []),LO 5 (.new [(.slice none 0 0),(.slice none 0 0),(.slice none 0 0)]),LN (.store 3 (LT 5) (LT 18))] (.seq (LS [LM 19 4,LO 20 (.bin .lss (LT 19) (LI 1)),LM 21 20,LZ 21 22 (.mv (LT 4)),LZ 21 23 (.bin .gtr (LT 22) (LI 6)),LO 24 (.pick (LT 21) LG (LT 23)),LM 25 24,LZ 25 26 (.mv (LT 0)),LZ 25 27 (.chk (LT 26)),LZ 25 28 (LA 1 27),LZ 25 29 (LL 28),LZ 25 30 (.len (LT 29)),LZ 25 31 (.mv (LT 4)),LZ 25 32 (.bin .neq (LT 30) (LT 31)),LO 33 (.pick (LT 25) LG (LT 32)),LM 34 33,LZ 34 35 (.mv (LT 0)),LZ 34 36 (.chk (LT 35)),LZ 34 37 (LA 2 36),LZ 34 38 (LL 37),LZ 34 39 (.len (LT 38)),LZ 34 40 (.mv (LT 4)),LZ 34 41 (.bin .neq (LT 39) (LT 40)),LO 42 (.pick (LT 34) LG (LT 41))] (.cond (LT 42) (LS [LO 43 (LK 5),LN (.store 3 (LT 2) (LT 43)),LO 3 (.mv LF)] .ret) .skip)) (LS [LM 45 0,LO 46 (.chk (LT 45)),LO 47 (LA 0 46),LO 48 (LL 47),LO 49 (.call 57 [(LT 48)]),LM 44 49,LO 50 (LX 44 0),LO 51 (LX 44 1),LM 6 50,LM 7 51] (LS [LM 53 0,LO 54 (.chk (LT 53)),LO 55 (LA 2 54),LO 56 (LL 55),LO 57 (.call 57 [(LT 56)]),LM 52 57,LO 58 (LX 52 0),LO 59 (LX 52 1),LM 8 58,LM 9 59] (.seq (LS [LM 60 7,LO 61 (.un .not (LT 60)),LM 62 61,LZ 62 63 (.mv (LT 9)),LZ 62 64 (.un .not (LT 63)),LO 65 (.pick (LT 62) LG (LT 64)),LM 66 65,LZ 66 67 (.mv (LT 6)),LZ 66 68 (.call 96 [(LT 67)]),LZ 66 69 (.un .not (LT 68)),LO 70 (.pick (LT 66) LG (LT 69)),LM 71 70,LZ 71 72 (.mv (LT 8)),LZ 71 73 (.call 58 [(LT 72)]),LZ 71 74 (.un .not (LT 73)),LO 75 (.pick (LT 71) LG (LT 74))] (.cond (LT 75) (LS [LO 76 (LK 5),LN (.store 3 (LT 2) (LT 76)),LO 3 (.mv LF)] .ret) .skip)) (.seq (LS [LO 10 (.mv (LI 0))] (.block 0 (.loop dA))) (LS [LM 121 6,LO 122 (LA 0 5),LN (.store 1 (LT 122) (LT 121))] (LS [LM 123 8,LO 124 (LA 2 5),LN (.store 1 (LT 124) (LT 123))] (LS [LO 125 (LK 5),LQ 126 (.call 166 [(LT 5)]),LN (.store 3 (LT 2) (LT 125)),LM 3 126] .ret)))))))))))
def gD:aT:=⟨127,[(.cell 2 true 3),(.tmp 3)],dT⟩
theorem MX:fP 109=some gD:=by kernel_rfl
def eG:aE:=(.seq (LS [LM 44 7,LM 45 3,LO 46 (.bin .lss (LT 44) (LT 45))] (.cond (LT 46) .skip (.exit 4))) (.seq (.block 5 (.cT [LM 49 4,LM 50 6,LM 51 4,LM 52 6,LO 53 (.iaddr 1 (LT 51) (LT 52)),LO 54 (LL 53),LM 55 54,LZ 55 56 (.mv (LT 4)),LZ 55 57 (.mv (LT 7)),LZ 55 58 (.iaddr 1 (LT 56) (LT 57)),LZ 55 59 (LL 58),LZ 55 60 (.mv (LT 59)),LY 60 61 (.mv (LT 0)),LY 60 62 (.chk (LT 61)),LY 60 63 (LA 1 62),LY 60 64 (LL 63),LY 60 65 (.mv (LT 6)),LY 60 66 (.iaddr 1 (LT 64) (LT 65)),LY 60 67 (LL 66),LY 60 68 (.mv (LT 7)),LY 60 69 (.iaddr 3 (LT 67) (LT 68)),LY 60 70 (LK 69),LY 60 71 (.call 59 [(LT 70)]),LY 60 72 (.un .not (LT 71)),LZ 55 73 (.pick (LT 60) (LT 72) LF),LO 74 (.pick (LT 55) LG (LT 73)),LO 75 (.iaddr 1 (LT 49) (LT 50)),LN (.store 1 (LT 75) (LT 74))])) (.cT [LM 47 7,LO 48 (.bin .add (LT 47) (LI 1)),LM 7 48])))
def iM:aE:=(.seq (LS [LM 21 6,LM 22 3,LO 23 (.bin .lss (LT 21) (LT 22))] (.cond (LT 23) .skip (.exit 2))) (.seq (.block 3 (LS [LM 26 4,LM 27 6,LM 28 4,LM 29 6,LO 30 (.iaddr 1 (LT 28) (LT 29)),LO 31 (LL 30),LM 32 31,LZ 32 33 (.mv (LT 0)),LZ 32 34 (.chk (LT 33)),LZ 32 35 (LA 2 34),LZ 32 36 (LL 35),LZ 32 37 (.mv (LT 6)),LZ 32 38 (.iaddr 3 (LT 36) (LT 37)),LZ 32 39 (LK 38),LZ 32 40 (.call 59 [(LT 39)]),LZ 32 41 (.un .not (LT 40)),LO 42 (.pick (LT 32) LG (LT 41)),LO 43 (.iaddr 1 (LT 26) (LT 27)),LN (.store 1 (LT 43) (LT 42))] (LS [LO 7 (.mv (LI 0))] (.block 4 (.loop eG))))) (.cT [LM 24 6,LO 25 (.bin .add (LT 24) (LI 1)),LM 6 25])))
def tJ:aE:=(.seq (LS [LM 16 5,LM 17 3,LO 18 (.bin .lss (LT 16) (LT 17))] (.cond (LT 18) .skip (.exit 0))) (.seq (.block 1 (LS [LO 6 (.mv (LI 0))] (.block 2 (.loop iM)))) (.cT [LM 19 5,LO 20 (.bin .add (LT 19) (LI 1)),LM 5 20])))
def nQ:aE:=(.seq (LS [LM 76 8,LM 77 3,LO 78 (.bin .lss (LT 76) (LT 77))] (.cond (LT 78) .skip (.exit 6))) (.seq (.block 7 (LS [LM 81 4,LM 82 8,LO 83 (.iaddr 1 (LT 81) (LT 82)),LO 84 (LL 83),LO 85 (.un .not (LT 84))] (.cond (LT 85) (LS [LO 2 (.mv LF)] .ret) .skip))) (.cT [LM 79 8,LO 80 (.bin .add (LT 79) (LI 1)),LM 8 80])))
def Bl:aE:=(LS [LO 2 (.mv LF)] (LS [LM 9 0,LO 10 (.chk (LT 9)),LO 11 (LA 0 10),LO 12 (LL 11),LO 13 (.len (LT 12)),LM 3 13] (LS [LM 14 3,LO 15 (.make [(.bool false)] 1 (LT 14) (LT 14)),LM 4 15] (.seq (LS [LO 5 (.mv (LI 0))] (.block 0 (.loop tJ))) (.seq (LS [LO 8 (.mv (LI 0))] (.block 6 (.loop nQ))) (LS [LO 2 (.mv LG)] .ret))))))
def DB:aT:=⟨86,[(.tmp 2)],Bl⟩
theorem Iv:fP 166=some DB:=by kernel_rfl
def iJ:aE:=(LS [LO 2 (.box (LT 0)),LO 4 (.mv (.const (.string ⟨#[]⟩))),LO 5 (.mv LF)] (LS [LO 9 (.call 109 [(LT 2)]),LM 8 9,LO 10 (LX 8 0),LO 11 (LX 8 1),LO 6 (.new [(.slice none 0 0),(.slice none 0 0),(.slice none 0 0)]),LN (.store 3 (LT 6) (LT 10)),LM 7 11] (.seq (LS [LM 12 7,LO 13 (.un .not (LT 12)),LM 14 13,LZ 14 15 (.mv (LT 1)),LZ 14 16 (.call 88 [(LT 15),(LI 0),(LI 6)]),LZ 14 17 (.un .not (LT 16)),LO 18 (.pick (LT 14) LG (LT 17))] (.cond (LT 18) (LS [LO 4 (.mv (.const (.string ⟨#[]⟩))),LO 5 (.mv LF)] .ret) .skip)) (LS [LM 19 1,LO 20 (.call 122 [(LT 6),(LT 19)]),LO 21 (.call 112 [(LT 20)]),LO 22 (LX 21 0),LO 23 (LX 21 1),LM 4 22,LM 5 23] .ret))))
def jX:aT:=⟨24,[(.tmp 4),(.tmp 5)],iJ⟩
theorem Eb:fP 49=some jX:=by kernel_rfl
def yR:aE:=(.seq (LS [LM 8 6,LM 9 1,LO 10 (.len (LT 9)),LO 11 (.bin .lss (LT 8) (LT 10))] (.cond (LT 11) .skip (.exit 0))) (.seq (.block 1 (.cT [LO 14 (LK 5),LM 15 0,LO 16 (.chk (LT 15)),LO 17 (LA 0 16),LO 18 (LL 17),LM 19 6,LO 20 (.iaddr 3 (LT 18) (LT 19)),LO 21 (LK 20),LM 22 1,LM 23 6,LO 24 (.iaddr 3 (LT 22) (LT 23)),LO 25 (LK 24),LQ 26 (.call 125 [(LT 21),(LT 25)]),LQ 27 (.call 79 [(LT 14),(LT 26)]),LN (.store 3 (LT 5) (LT 27))])) (.cT [LM 12 6,LO 13 (.bin .add (LT 12) (LI 1)),LM 6 13])))
def EX:aE:=(LS [LO 4 (.new [(.bool false),(.slice none 0 0),(.slice none 0 0)])] (LS [LO 7 (.call 77 []),LO 5 (.new [(.bool false),(.slice none 0 0),(.slice none 0 0)]),LN (.store 3 (LT 5) (LT 7))] (.seq (LS [LO 6 (.mv (LI 0))] (.block 0 (.loop yR))) (LS [LO 28 (LK 5),LN (.store 3 (LT 4) (LT 28))] .ret))))
def HI:aT:=⟨29,[(.cell 4 true 3)],EX⟩
theorem MW:fP 113=some HI:=by kernel_rfl
def xR:aE:=(.seq (LS [LM 26 11,LM 27 7,LO 28 (.bin .lss (LT 26) (LT 27))] (.cond (LT 28) .skip (.exit 2))) (.seq (.block 3 (.cT [LM 31 10,LM 32 0,LO 33 (.chk (LT 32)),LO 34 (LA 1 33),LO 35 (LL 34),LM 36 9,LO 37 (.iaddr 1 (LT 35) (LT 36)),LO 38 (LL 37),LM 39 11,LO 40 (.iaddr 3 (LT 38) (LT 39)),LO 41 (LK 40),LO 42 (.call 157 [(LT 41)]),LO 43 (.lit [(.bool false),(.slice none 0 0),(.slice none 0 0)] 1 [(0,(LT 42))]),LO 44 (.app 3 56 (LT 31) (LT 43)),LM 10 44])) (.cT [LM 29 11,LO 30 (.bin .add (LT 29) (LI 1)),LM 11 30])))
def yH:aE:=(.seq (LS [LM 20 9,LM 21 7,LO 22 (.bin .lss (LT 20) (LT 21))] (.cond (LT 22) .skip (.exit 0))) (.seq (.block 1 (LS [LO 25 (.lit [(.bool false),(.slice none 0 0),(.slice none 0 0)] 0 []),LM 10 25] (.seq (LS [LO 11 (.mv (LI 0))] (.block 2 (.loop xR))) (LS [LM 45 10,LM 46 9,LM 47 0,LO 48 (.chk (LT 47)),LO 49 (LA 1 48),LO 50 (LL 49),LM 51 9,LO 52 (.iaddr 1 (LT 50) (LT 51)),LO 53 (LL 52),LQ 54 (.call 60 [(LT 53)]),LM 55 0,LO 56 (.chk (LT 55)),LO 57 (LA 2 56),LO 58 (LL 57),LM 59 9,LO 60 (.iaddr 3 (LT 58) (LT 59)),LO 61 (LK 60),LQ 62 (.call 79 [(LT 54),(LT 61)]),LO 63 (LK 4),LQ 64 (.call 79 [(LT 62),(LT 63)]),LO 65 (.iaddr 3 (LT 45) (LT 46)),LN (.store 3 (LT 65) (LT 64))] (.cT [LM 66 8,LM 67 10,LM 68 2,LM 69 9,LO 70 (.iaddr 3 (LT 68) (LT 69)),LO 71 (LK 70),LO 72 (.lit [(.bool false),(.slice none 0 0),(.slice none 0 0)] 1 [(0,(LT 71))]),LO 73 (.app 3 56 (LT 67) (LT 72)),LO 74 (.lit [(.slice none 0 0)] 1 [(0,(LT 73))]),LO 75 (.app 1 24 (LT 66) (LT 74)),LM 8 75]))))) (.cT [LM 23 9,LO 24 (.bin .add (LT 23) (LI 1)),LM 9 24])))
def EL:aE:=(LS [LO 4 (.box (LT 1)),LO 6 (.mv (.const (.slice none 0 0)))] (LS [LM 14 0,LO 15 (.chk (LT 14)),LO 16 (LA 0 15),LO 17 (LL 16),LO 18 (.len (LT 17)),LM 7 18] (LS [LO 19 (.lit [(.slice none 0 0)] 0 []),LM 8 19] (.seq (LS [LO 9 (.mv (LI 0))] (.block 0 (.loop yH))) (LS [LM 77 8,LO 78 (.call 134 [(LT 77)]),LM 76 78,LO 79 (LX 76 0),LO 80 (LX 76 1),LM 12 79,LM 13 80] (LS [LM 81 12,LM 6 81] .ret))))))
def H6:aT:=⟨82,[(.tmp 6)],EL⟩
theorem MR:fP 114=some H6:=by kernel_rfl
def xB:aE:=(.seq (LS [LM 11 6,LM 12 0,LO 13 (.chk (LT 12)),LO 14 (LA 0 13),LO 15 (LL 14),LO 16 (.len (LT 15)),LO 17 (.bin .lss (LT 11) (LT 16))] (.cond (LT 17) .skip (.exit 0))) (.seq (.block 1 (.cT [LM 20 5,LO 21 (.call 83 []),LO 22 (.lit [(.bool false),(.slice none 0 0),(.slice none 0 0)] 1 [(0,(LT 21))]),LO 23 (.app 3 56 (LT 20) (LT 22)),LM 5 23])) (.cT [LM 18 6,LO 19 (.bin .add (LT 18) (LI 1)),LM 6 19])))
def vR:aE:=(.seq (LS [LM 30 9,LM 31 5,LO 32 (.len (LT 31)),LO 33 (.bin .lss (LT 30) (LT 32))] (.cond (LT 33) .skip (.exit 4))) (.seq (.block 5 (.cT [LM 36 8,LM 37 7,LQ 38 (.call 130 [(LT 37)]),LM 39 5,LM 40 9,LO 41 (.iaddr 3 (LT 39) (LT 40)),LO 42 (LK 41),LQ 43 (.call 125 [(LT 38),(LT 42)]),LQ 44 (.lit [(.bool false),(.slice none 0 0),(.slice none 0 0)] 1 [(0,(LT 43))]),LO 45 (.app 3 56 (LT 36) (LT 44)),LM 8 45])) (.cT [LM 34 9,LO 35 (.bin .add (LT 34) (LI 1)),LM 9 35])))
def vW:aE:=(.seq (LS [LM 24 7,LM 25 1,LO 26 (.bin .leq (LT 24) (LT 25))] (.cond (LT 26) .skip (.exit 2))) (.seq (.block 3 (LS [LO 29 (.lit [(.bool false),(.slice none 0 0),(.slice none 0 0)] 0 []),LM 8 29] (.seq (LS [LO 9 (.mv (LI 0))] (.block 4 (.loop vR))) (.cT [LM 46 0,LO 47 (.call 77 []),LM 48 8,LO 49 (.call 114 [(LT 46),(LT 47),(LT 48)]),LM 5 49])))) (.cT [LM 27 7,LO 28 (.bin .add (LT 27) (LI 1)),LM 7 28])))
def C9:aE:=(LS [LO 4 (.new [(.bool false),(.slice none 0 0),(.slice none 0 0)])] (LS [LO 10 (.lit [(.bool false),(.slice none 0 0),(.slice none 0 0)] 0 []),LM 5 10] (.seq (LS [LO 6 (.mv (LI 0))] (.block 0 (.loop xB))) (.seq (LS [LO 7 (.mv (LI 1))] (.block 2 (.loop vW))) (LS [LM 50 0,LM 51 5,LO 52 (.call 113 [(LT 50),(LT 51)]),LN (.store 3 (LT 4) (LT 52))] .ret)))))
def FG:aT:=⟨53,[(.cell 4 true 3)],C9⟩
theorem K6:fP 122=some FG:=by kernel_rfl
end Go.PM
namespace Go.PM
open Go.Lib
def SvS (s:vJ) (lo hi:Nat) (H:aA) (v:VV):Prop:=(∃a b c,v = .agg [a,b,c]∧bP a=true∧bP b=true∧bP c=true∧∀n,n≤lo→jW n a=true∧jW n b=true∧jW n c=true)∧Jy (vU s) lo hi H v
theorem SvS.dB {s:vJ}:∀ {lo hi H H' v},SvS s lo hi H v→jQ lo hi H H'→SvS s lo hi H' v:=fun h hk=>⟨h.1,h.2.dB hk⟩
theorem SvS.wide {s:vJ}:∀ {lo hi fW qQ:Nat} {H:aA} {v:VV},SvS s lo hi H v→fW≤lo→hi≤qQ→SvS s fW qQ H v:=fun h hl hh=>by
 obtain⟨⟨a,b,c,h1,h2,h3,h4,h5⟩,h6⟩:=h
 exact⟨⟨a,b,c,h1,h2,h3,h4,fun n hn=>h5 n (by omega)⟩,fun H' hk=>h6 H' (hk.sub hl hh)⟩
theorem SvS.ag {s:vJ} {lo hi:Nat} {H:aA} {v:VV} (h:SvS s lo hi H v) (n:Nat) (hn:n≤lo):∃a b c,v = .agg [a,b,c]∧bP a=true∧bP b=true∧bP c=true∧jW n a=true∧jW n b=true∧jW n c=true:=by
 obtain⟨⟨a,b,c,h1,h2,h3,h4,h5⟩,_⟩:=h
 exact⟨a,b,c,h1,h2,h3,h4,h5 n hn⟩
end Go.PM
namespace Go.PM
open Go.Lib
theorem acS (b:List Rat) (g:List (List Rat)) (e:List Rat):aY (CJ aN b g e)=true:=by
 show aO [aC aN b,aC (aC aN) g,aC aN e]=true
 simp only[aO,rJ,acP,Bool.and_self]
theorem LsO.own {α:Type} {f:α→VV} {e lo hi n:Nat} {H:aA} {v:VV} {o:Option (List α)} (h:LsO f e o lo hi H v) (hn:n≤lo):jW n v=true:=by
 cases o with
 |
  none =>
  have h:v = .tree [] .nil:=h
  subst h
  rfl
 |
  some ys =>
  obtain⟨b,g,c,h1,h2,rfl,h3⟩:=h
  simp[jW];omega
theorem Wc.own {α:Type} {f:α→VV} {e lo hi n:Nat} {H:aA} {v:VV} {cH:List (List α)} (h:Wc f e cH lo hi H v) (hn:n≤lo):jW n v=true:=by
 rcases h with⟨rfl,_⟩ | ⟨b,g,rs,q1,q2,rfl,_⟩
 ·rfl
 ·simp[jW];omega
end Go.PM
namespace Go.PM
open Go.Lib
end Go.PM
namespace Go.PM
open Go.Lib
end Go.PM
namespace Go.PM
open Go.Lib
end Go.PM
namespace Go.PM
open Go.Lib
section
variable {b:List Rat} {g:List (List Rat)} {e row:List Rat} {n i:Nat} {st:List Bool}
abbrev svP (b:List Rat) (g:List (List Rat)) (e:List Rat):VV:=(CJ aN b g e).cG 0
theorem Wm {q:Rat} (h:0≤q):decide (0<q) = !decide (q=0):=by
 by_cases hz:q=0
 ·rw[decide_eq_true hz,hz];rfl
 ·rw[decide_eq_false hz,decide_eq_true (by grind)];rfl
set_option maxHeartbeats 2000000 in
theorem anH (hn:n≤1000000) (hi:i<n) (vL:st.length=n) (mA:row.length=n) (W9:g[i]? = some row) (lR:∀q∈row,0≤q) {r:Int} {ρ:cV} {Q:VQ} (g0:ρ 0=svP b g e) (g3:ρ 3=VI n) (g4:ρ 4 = .ref 0 0 0 n n) (g5:ρ 5=VI r) (g6:ρ 6=VI i) (g7:ρ 7=VI 0)
  (hQ:∀aQ,aQ 0=svP b g e→aQ 3=VI n→aQ 4 = .ref 0 0 0 n n→aQ 5=VI r→aQ 6=VI i→Q .normal aQ [tP (QW row i st n)]) :
  VW ⟨true,false⟩ 0 (.loop eG) (tH 4 Q) ρ [tP st]:=by
 refine aP (fun(j:Nat) aQ H=>j≤n∧H=[tP (QW row i st j)]∧aQ 0=svP b g e∧aQ 3=VI n∧aQ 4 = .ref 0 0 0 n n∧aQ 5=VI r∧aQ 6=VI i∧aQ 7=VI j) (fun j=>n-j) 0 ⟨aK8 _,rfl,g0,g3,g4,g5,g6,g7⟩ ?_
 clear g0 g3 g4 g5 g6 g7
 rintro j aQ H ⟨hj,rfl,g0,g3,g4,g5,g6,g7⟩
 have hl:(QW row i st j).length=n:=by rw[Su,vL]
 have Cf:QW row i st (j+1)=orJ row i (QW row i st j) j:=sB
 generalize hs:QW row i st j=s at *
 by_cases bW:(j:Int)<(n:Int)
 ·have Eo:j<n:=by omega
  obtain⟨q,hq⟩:∃q,row[j]? = some q:=⟨_,aKL (by omega)⟩
  have wi:IntKind.i64.wrap ((j:Int)+1)=((j+1:Nat):Int):=wrapN (j+1) (by omega) (by omega)
  have e2:=sG q
  have hpz:=Wm (lR q (aLy hq))
  have a1:=fun K=>yD (st:=s) (n:=n) hi K
  have a2:=fun K=>xP (st:=s) (i:=i) (by omega) K
  have a3:=fun K=>yD (st:=s) (n:=n) Eo K
  have a4:=fun K=>xP (st:=s) (i:=j) (by omega) K
  have a5:=fun v K=>DQ (st:=s) (i:=i) (by omega) v K
  have a6:=fun H=>aH (f:=aC aN) (t := .op) (H:=H) (size:=1) (k := .i64) W9 rfl
  have a7:=fun H=>aH (f:=aN) (t := .op) (H:=H) (size:=3) (k := .i64) hq rfl
  have pY:∀v:Bool,v=(s.getD i false||(decide (0<q)&&s.getD j false))→s.set i v=QW row i st (j+1):=by
   intro v hv
   rw[Cf,orJ,hv,aKB (l:=row),hq,aNS]
  cases Xh:s.getD i false with
  |
   true =>
   rw[Xh] at a2
   simp only[eG,CJ,g0,g3,g4,g6,g7,bW,a1,a2,a5,wi,dR,VX,Nat.reduceEqDiff,Nat.reduceAdd,Nat.reduceLeDiff,Nat.reduceLT,Nat.reduceSub]
   exact⟨j+1,by omega,by omega,by rw[←pY true (by rw[Xh];rfl)],by (repeat' apply aMk)<;>first | rfl | trivial | assumption⟩
  |
   false =>
   rw[Xh] at a2
   cases hsj:s.getD j false with
   |
    false =>
    rw[hsj] at a4
    simp only[eG,CJ,g0,g3,g4,g6,g7,bW,a1,a2,a3,a4,a5,wi,dR,VX,Nat.reduceEqDiff,Nat.reduceAdd,Nat.reduceLeDiff,Nat.reduceLT,Nat.reduceSub]
    exact⟨j+1,by omega,by omega,by rw[←pY false (by rw[Xh,hsj,Bool.and_false];rfl)],by (repeat' apply aMk)<;>first | rfl | trivial | assumption⟩
   |
    true =>
    rw[hsj] at a4
    by_cases hz:q=0
    ·rw[decide_eq_true hz] at e2 hpz
     simp only[eG,CJ,g0,g3,g4,g6,g7,bW,a1,a2,a3,a4,a5,a6,a7,e2,wi,dU,cI,aMc,aKY,aMo,dR,VX,Nat.reduceEqDiff,Nat.reduceAdd,Nat.reduceLeDiff,Nat.reduceLT,Nat.reduceSub]
     exact⟨j+1,by omega,by omega,by rw[←pY false (by rw[Xh,hpz];rfl)],by (repeat' apply aMk)<;>first | rfl | trivial | assumption⟩
    ·rw[decide_eq_false hz] at e2 hpz
     simp only[eG,CJ,g0,g3,g4,g6,g7,bW,a1,a2,a3,a4,a5,a6,a7,e2,wi,dU,cI,aMc,aKY,aMo,dR,VX,Nat.reduceEqDiff,Nat.reduceAdd,Nat.reduceLeDiff,Nat.reduceLT,Nat.reduceSub]
     exact⟨j+1,by omega,by omega,by rw[←pY true (by rw[Xh,hsj,hpz];rfl)],by (repeat' apply aMk)<;>first | rfl | trivial | assumption⟩
 ·have Tw:j=n:=by omega
  subst Tw
  subst hs
  simp only[eG,g3,g7,bW,dR,VX,Nat.reduceEqDiff,Nat.reduceAdd,Nat.reduceLeDiff,Nat.reduceLT,Nat.reduceSub]
  refine hQ _ ?_ ?_ ?_ ?_ ?_<;>first | exact g0 | exact g3 | exact g4 | exact g5 | exact g6 | rfl
set_option maxHeartbeats 2000000 in
theorem ajU (hn:n≤1000000) (vL:st.length=n) (hg:g.length=n) (W9:∀w∈g,w.length=n∧∀q∈w,0≤q) (he:e.length=n) (hep:∀q∈e,0≤q) {r:Int} {ρ:cV} {Q:VQ} (g0:ρ 0=svP b g e) (g3:ρ 3=VI n) (g4:ρ 4 = .ref 0 0 0 n n) (g5:ρ 5=VI r) (g6:ρ 6=VI 0)
  (hQ:∀aQ,aQ 0=svP b g e→aQ 3=VI n→aQ 4 = .ref 0 0 0 n n→aQ 5=VI r→Q .normal aQ [tP (mJ g e n st n)]) :
  VW ⟨true,false⟩ 0 (.loop iM) (tH 2 Q) ρ [tP st]:=by
 refine aP (fun(i:Nat) aQ H=>i≤n∧H=[tP (mJ g e n st i)]∧aQ 0=svP b g e∧aQ 3=VI n∧aQ 4 = .ref 0 0 0 n n∧aQ 5=VI r∧aQ 6=VI i) (fun i=>n-i) 0 ⟨aK8 _,rfl,g0,g3,g4,g5,g6⟩ ?_
 clear g0 g3 g4 g5 g6
 rintro i aQ H ⟨hi,rfl,g0,g3,g4,g5,g6⟩
 have hl:(mJ g e n st i).length=n:=by rw[H8,vL]
 have Cf:mJ g e n st (i+1)=MH g e n (mJ g e n st i) i:=sB
 generalize hs:mJ g e n st i=s at *
 by_cases bW:(i:Int)<(n:Int)
 ·have Eo:i<n:=by omega
  obtain⟨q,hq⟩:∃q,e[i]? = some q:=⟨_,aKL (by omega)⟩
  obtain⟨row,hr⟩:∃row,g[i]? = some row:=⟨_,aKL (by omega)⟩
  have BZ:=W9 row (aLy hr)
  have wi:IntKind.i64.wrap ((i:Int)+1)=((i+1:Nat):Int):=wrapN (i+1) (by omega) (by omega)
  have e2:=sG q
  have hpz:=Wm (hep q (aLy hq))
  have a1:=fun K=>yD (st:=s) (n:=n) Eo K
  have a2:=fun K=>xP (st:=s) (i:=i) (by omega) K
  have a5:=fun v K=>DQ (st:=s) (i:=i) (by omega) v K
  have a7:=fun H=>aH (f:=aN) (t := .op) (H:=H) (size:=3) (k := .i64) hq rfl
  have pY:∀v:Bool,v=(s.getD i false||decide (0<q))→QW row i (s.set i v) n=mJ g e n st (i+1):=by
   intro v hv
   rw[Cf,MH,hv,aKB (l:=g),hr,aNS,aKB (l:=e),hq,aNS]
  have post:∀(v:Bool) (tK:cV),v=(s.getD i false||decide (0<q))→tK 0=svP b g e→tK 3=VI n→tK 4 = .ref 0 0 0 n n→tK 5=VI r→tK 6=VI i→tK 7=VI 0 →
    ∀(Q':VQ),(∀wS,wS 0=svP b g e→wS 3=VI n→wS 4 = .ref 0 0 0 n n→wS 5=VI r→wS 6=VI i→Q' .normal wS [tP (mJ g e n st (i+1))])→VW ⟨true,false⟩ 0 (.loop eG) (tH 4 Q') tK [tP (s.set i v)]:=by
   intro v tK hv k0 k3 k4 k5 k6 k7 Q' hQ'
   refine anH hn Eo (by rw[List.length_set,hl]) BZ.1 hr BZ.2 k0 k3 k4 k5 k6 k7 fun wS m0 m3 m4 m5 m6 => ?_
   rw[pY v hv]
   exact hQ' wS m0 m3 m4 m5 m6
  cases Xh:s.getD i false with
  |
   true =>
   rw[Xh] at a2 post
   simp only[iM,CJ,g0,g3,g4,g6,bW,a1,a2,a5,dR,VX,Nat.reduceEqDiff,Nat.reduceAdd,Nat.reduceLeDiff,Nat.reduceLT,Nat.reduceSub]
   refine post true _ (by simp) ?_ ?_ ?_ ?_ ?_ ?_ _ fun wS m0 m3 m4 m5 m6 => ?_
   all_goals first | exact g0 | exact g3 | exact g4 | exact g5 | exact g6 | rfl | skip
   simp only[m6,wi,dR,VX,Nat.reduceEqDiff,Nat.reduceAdd,Nat.reduceLeDiff,Nat.reduceLT,Nat.reduceSub]
   exact⟨i+1,by omega,by omega,by (repeat' apply aMk)<;>first | rfl | trivial | assumption⟩
  |
   false =>
   rw[Xh] at a2 post
   by_cases hz:q=0
   ·rw[decide_eq_true hz] at e2 hpz
    simp only[iM,CJ,g0,g3,g4,g6,bW,a1,a2,a5,a7,e2,dU,cI,aMc,aKY,aMo,dR,VX,Nat.reduceEqDiff,Nat.reduceAdd,Nat.reduceLeDiff,Nat.reduceLT,Nat.reduceSub]
    refine post false _ (by rw[hpz];rfl) ?_ ?_ ?_ ?_ ?_ ?_ _ fun wS m0 m3 m4 m5 m6 => ?_
    all_goals first | exact g0 | exact g3 | exact g4 | exact g5 | exact g6 | rfl | skip
    simp only[m6,wi,dR,VX,Nat.reduceEqDiff,Nat.reduceAdd,Nat.reduceLeDiff,Nat.reduceLT,Nat.reduceSub]
    exact⟨i+1,by omega,by omega,by (repeat' apply aMk)<;>first | rfl | trivial | assumption⟩
   ·rw[decide_eq_false hz] at e2 hpz
    simp only[iM,CJ,g0,g3,g4,g6,bW,a1,a2,a5,a7,e2,dU,cI,aMc,aKY,aMo,dR,VX,Nat.reduceEqDiff,Nat.reduceAdd,Nat.reduceLeDiff,Nat.reduceLT,Nat.reduceSub]
    refine post true _ (by rw[hpz];rfl) ?_ ?_ ?_ ?_ ?_ ?_ _ fun wS m0 m3 m4 m5 m6 => ?_
    all_goals first | exact g0 | exact g3 | exact g4 | exact g5 | exact g6 | rfl | skip
    simp only[m6,wi,dR,VX,Nat.reduceEqDiff,Nat.reduceAdd,Nat.reduceLeDiff,Nat.reduceLT,Nat.reduceSub]
    exact⟨i+1,by omega,by omega,by (repeat' apply aMk)<;>first | rfl | trivial | assumption⟩
 ·have mH:i=n:=by omega
  subst mH
  subst hs
  simp only[iM,g3,g6,bW,dR,VX,Nat.reduceEqDiff,Nat.reduceAdd,Nat.reduceLeDiff,Nat.reduceLT,Nat.reduceSub]
  refine hQ _ ?_ ?_ ?_ ?_<;>first | exact g0 | exact g3 | exact g4 | exact g5 | rfl
theorem WW (b:List Rat) (g:List (List Rat)) (e:List Rat):aY (svP b g e)=true:=acS b g e
set_option maxHeartbeats 1000000 in
theorem Ih (hn:n≤1000000) (hb:b.length=n) (hg:g.length=n) (W9:∀w∈g,w.length=n∧∀q∈w,0≤q) (he:e.length=n) (hep:∀q∈e,0≤q):TC 166 [svP b g e] (VB ((qJ g e n n).all id)):=by
 refine TC.walk ⟨true,false⟩ Iv rfl (aMs rfl) (KR (WW b g e)) rfl ?_
 have e0:∀H,Bc [.bool false] 1 (VI n) (VI n) H=some (.ref H.length 0 0 n n,H++[tP (List.replicate n false)]):=fun H=>oB (f:=fun b=>VB b) rfl (by omega) (by omega)
 have xM:((b.length:Nat):Int)=(n:Int):=by omega
 simp only[DB,Bl,CJ,xM,e0,dU,aMc,aKY,aMo,aLW,aMh,dR,VX,Nat.reduceEqDiff,Nat.reduceAdd,Nat.reduceLeDiff,Nat.reduceLT,Nat.reduceSub]
 refine aP (fun(i:Nat) aQ H=>i≤n∧H=[tP (qJ g e n i)]∧aQ 0=svP b g e∧aQ 3=VI n∧aQ 4 = .ref 0 0 0 n n∧aQ 5=VI i) (fun i=>n-i) 0 ⟨aK8 _,rfl,rfl,rfl,rfl,rfl⟩ ?_
 rintro i aQ H ⟨hi,rfl,g0,g3,g4,g5⟩
 have hl:=DS g e n i
 have Cf:qJ g e n (i+1)=mJ g e n (qJ g e n i) n:=sB
 by_cases bW:(i:Int)<(n:Int)
 ·have wi:IntKind.i64.wrap ((i:Int)+1)=((i+1:Nat):Int):=wrapN (i+1) (by omega) (by omega)
  simp only[tJ,g3,g5,bW,dR,VX,Nat.reduceEqDiff,Nat.reduceAdd,Nat.reduceLeDiff,Nat.reduceLT,Nat.reduceSub]
  refine ajU (r:=(i:Int)) (b:=b) hn hl hg W9 he hep ?_ ?_ ?_ ?_ ?_ fun wS m0 m3 m4 m5 => ?_
  all_goals first | exact g0 | exact g3 | exact g4 | exact g5 | rfl | skip
  simp only[m5,wi,dR,VX,Nat.reduceEqDiff,Nat.reduceAdd,Nat.reduceLeDiff,Nat.reduceLT,Nat.reduceSub]
  exact⟨i+1,by omega,by omega,by rw[Cf],by (repeat' apply aMk)<;>first | rfl | trivial | assumption⟩
 ·have mH:i=n:=by omega
  subst mH
  simp only[tJ,g3,g5,bW,dR,VX,Nat.reduceEqDiff,Nat.reduceAdd,Nat.reduceLeDiff,Nat.reduceLT,Nat.reduceSub]
  generalize qJ g e i i=s at *
  refine aP (fun(j:Nat) aQ H=>j≤i∧H=[tP s]∧(∀x∈s.take j,x=true)∧aQ 3=VI i∧aQ 4 = .ref 0 0 0 i i∧aQ 8=VI j) (fun j=>i-j) 0 ⟨aK8 _,rfl,by simp,by simp only[dR,VX,Nat.reduceEqDiff,Nat.reduceAdd,Nat.reduceLeDiff,Nat.reduceLT,Nat.reduceSub];exact g3,by simp only[dR,VX,Nat.reduceEqDiff,Nat.reduceAdd,Nat.reduceLeDiff,Nat.reduceLT,Nat.reduceSub];exact g4,rfl⟩ ?_
  clear g0 g3 g4 g5 bW
  rintro j aQ H ⟨hj,rfl,ht,g3,g4,g8⟩
  by_cases bW:(j:Int)<(i:Int)
  ·have Ee:j<i:=by omega
   have wj:IntKind.i64.wrap ((j:Int)+1)=((j+1:Nat):Int):=wrapN (j+1) (by omega) (by omega)
   have a3:=fun K=>yD (st:=s) (n:=i) Ee K
   have a4:=fun K=>xP (st:=s) (i:=j) (by omega) K
   obtain⟨x,hx⟩:∃x,s[j]? = some x:=⟨_,aKL (by omega)⟩
   have hxd:s.getD j false=x:=by rw[aKB,hx];rfl
   rw[hxd] at a4
   cases x with
   |
    false =>
    have:s.all id=false:=by
     cases h:s.all id with
     | false=>rfl
     | true=>exact absurd (aKS.1 h false (aLy hx)) (by decide)
    rw[this]
    simp only[nQ,g3,g4,g8,bW,a3,a4,aOi,dR,VX,Nat.reduceEqDiff,Nat.reduceAdd,Nat.reduceLeDiff,Nat.reduceLT,Nat.reduceSub]
    exact aJ rfl
   |
    true =>
    simp only[nQ,g3,g4,g8,bW,a3,a4,wj,aOj,dR,VX,Nat.reduceEqDiff,Nat.reduceAdd,Nat.reduceLeDiff,Nat.reduceLT,Nat.reduceSub]
    refine⟨j+1,by omega,by omega,fun y hy => ?_,by (repeat' apply aMk)<;>first | rfl | trivial | assumption⟩
    rw[sP hx] at hy
    rcases List.mem_append.1 hy with h | h
    ·exact ht y h
    ·rw[List.mem_singleton] at h
     exact h
  ·have Tw:j=i:=by omega
   subst Tw
   have:s.all id=true:=by
    rw[List.take_of_length_le (by omega)] at ht
    exact aKS.2 ht
   rw[this]
   simp only[nQ,g3,g8,bW,dR,VX,Nat.reduceEqDiff,Nat.reduceAdd,Nat.reduceLeDiff,Nat.reduceLT,Nat.reduceSub]
   exact aJ rfl
end
def Df (c:List (List ByteArray)):Nat→List (List Rat)
 | 0=>[]
 |
  i+1=>match iR c i,iC c.length i (c.getD i []) with
  | some out,some r=>out++[r]
  | some out,none=>out
  | none,_=>Df c i
theorem Vv {c:List (List ByteArray)} {i:Nat} {out:List (List Rat)} (h:iR c i=some out) (hr:iC c.length i (c.getD i [])=none):∀j,i+1≤j→Df c j=out:=by
 have hn:iR c (i+1)=none:=by rw[iR,h,hr]
 intro j hj
 induction j with
 | zero=>omega
 |
  succ j ih =>
  by_cases he:i=j
  ·subst he
   rw[Df,h,hr]
  ·rw[Df,DV hn j (by omega)]
   exact ih (by omega)
def M9 (s:vJ):List (List Rat):=if (1≤s.b.length∧s.b.length≤6)∧s.g.length=s.b.length∧s.e.length=s.b.length then
  match mT s.b,tC s.e with
  | some _,some r=>if (r.any fun q=>decide (q<0))=false then Df s.g s.b.length else []
  | _,_=>[]
 else []
def M7 (s:vJ):VV:=match eH s with
 | some x => .dW [CJ aN x.1 x.2.1 x.2.2,VB (EW x)]
 | none => .dW [.agg [.tree [] .op,aC (aC aN) (M9 s),.tree [] .op],VB false]
theorem Wz (b:List Rat) (g:List (List Rat)) (e:List Rat):gU (CJ aN b g e)=true:=by
 show sO [aC aN b,aC (aC aN) g,aC aN e]=true
 simp only[sO,G7,ajH,Bool.and_self]
theorem anQ (s:vJ):gU (M7 s)=true:=by
 unfold M7
 split
 ·exact zY (Wz _ _ _) rfl
 ·exact zY (Wz [] _ []) rfl
end Go.PM
namespace Go.PM
open Go.Lib
theorem NF {out:List (List Rat)} (h:out.length=0) (K:aA):PM.fz 6 K (.tree [] .nil)=some (aC (aC aN) out):=by
 have ho:out=[]:=aMM.1 h
 subst ho
 exact Cd
theorem NH {out:List (List Rat)} {i:Nat} {X Y:fO} (h:out.length=i+1):PM.fz 6 [X,Y,.row i (out.map (aC aN)) 1 true] (.ref 2 i 0 (i+1) (i+1))=some (aC (aC aN) out):=by
 have:=G5 (d:=4) (c:=i+1) (b:=2) (g:=i) (e:=1) (w:=true) (H:=[X,Y,.row i (out.map (aC aN)) 1 true]) (rJ ·) (by rw[eO,eO,aU]) (by omega)
 rw[h] at this
 exact this
def YB (i:Nat) (out:List (List Rat)):aA:=match i with
 | 0=>[kQ,kQ]
 | i+1=>[kQ,.row 0 [.agg [.tree [] .nil,.ref 2 i 0 (i+1) (i+1),.tree [] .nil]] 3 true,.row i (out.map (aC aN)) 1 true]
theorem WX {H:aA} {u v:VV} (h:PM.fz 6 H u=some v):PM.fz depth H (.dW [.agg [.tree [] .nil,u,.tree [] .nil],VB false])=some (.dW [.agg [.tree [] .op,v,.tree [] .op],VB false]):=by
 refine bN (d:=6) (GQ (d:=5) ?_) (aM (v:=VB false) rfl)
 rw[aL1,Cd,aL1,h,aL1,Cd]
 rfl
set_option maxHeartbeats 4000000 in
set_option maxRecDepth 20000 in
theorem MQ (s:vJ) (hb:Sx s):TC 109 [(vU s).cG 0] (M7 s):=by
 refine TC.walk ⟨true,false⟩ MX rfl (aMs rfl) (KR (show aY (vU s)=true from rE _)) (anQ _) ?_
 have zD:=hb.b4
 have hel:=hb.e4
 have bad:eH s=none→M9 s=[]→∀K,PM.fz depth K (.dW [.agg [.tree [] .nil,.tree [] .nil,.tree [] .nil],VB false])=some (M7 s):=fun h hp K=>by
  have:M7 s = .dW [.agg [.tree [] .op,.tree [] .op,.tree [] .op],VB false]:=by unfold M7;rw[h,hp];rfl
  rw[this]
  exact WX Cd
 have st1:bL 0 3 (.ptr 1 0 0 0) (.agg [.tree [] .nil,.tree [] .nil,.tree [] .nil]) [kQ,kQ]=some [kQ,kQ]:=by
  rw[bS (e:=3) (g:=0) (j:=0) (eO.trans aU) (by exact aNW) (by omega) rfl rfl]
  rfl
 have K7:bL 0 3 (.ptr 0 0 0 0) (.agg [.tree [] .nil,.tree [] .nil,.tree [] .nil]) [kQ,kQ]=some [kQ,kQ]:=by
  rw[bS (e:=3) (g:=0) (j:=0) aU (by exact aNW) (aKE _) rfl rfl]
  rfl
 have S8:bF true 3 (.ptr 0 0 0 0) [kQ,kQ]=some (.agg [.tree [] .nil,.tree [] .nil,.tree [] .nil]):=rfl
 have ld1:bF true 3 (.ptr 1 0 0 0) [kQ,kQ]=some (.agg [.tree [] .nil,.tree [] .nil,.tree [] .nil]):=rfl
 by_cases h1:(s.b.length:Int)<1
 ·have bad:=bad (by unfold eH;exact if_neg (by omega)) (by unfold M9;exact if_neg (by omega))
  simp only[gD,dT,vU,h1,K7,st1,S8,ld1,dU,aKY,aMo,aMc,aLW,aMh,aL4,aKO,dR,VX,Nat.reduceEqDiff,Nat.reduceAdd,Nat.reduceLeDiff,Nat.reduceLT,Nat.reduceSub]
  exact bad _
 by_cases h6:(6:Int)<(s.b.length:Int)
 ·have bad:=bad (by unfold eH;exact if_neg (by omega)) (by unfold M9;exact if_neg (by omega))
  simp only[gD,dT,vU,h1,h6,K7,st1,S8,ld1,dU,aKY,aMo,aMc,aLW,aMh,aL4,aKO,dR,VX,Nat.reduceEqDiff,Nat.reduceAdd,Nat.reduceLeDiff,Nat.reduceLT,Nat.reduceSub]
  exact bad _
 by_cases hg:(s.g.length:Int)=(s.b.length:Int)
 case neg =>
  have bad:=bad (by unfold eH;exact if_neg (by omega)) (by unfold M9;exact if_neg (by omega))
  simp only[gD,dT,vU,h1,h6,hg,K7,st1,S8,ld1,dU,aKY,aMo,aMc,aLW,aMh,aL4,aKO,ne_eq,not_false_eq_true,decide_true,dR,VX,Nat.reduceEqDiff,Nat.reduceAdd,Nat.reduceLeDiff,Nat.reduceLT,Nat.reduceSub]
  exact bad _
 by_cases he:(s.e.length:Int)=(s.b.length:Int)
 case neg =>
  have bad:=bad (by unfold eH;exact if_neg (by omega)) (by unfold M9;exact if_neg (by omega))
  simp only[gD,dT,vU,h1,h6,hg,he,K7,st1,S8,ld1,dU,aKY,aMo,aMc,aLW,aMh,aL4,aKO,ne_eq,not_false_eq_true,not_true_eq_false,decide_true,decide_false,dR,VX,Nat.reduceEqDiff,Nat.reduceAdd,Nat.reduceLeDiff,Nat.reduceLT,Nat.reduceSub]
  exact bad _
 have uO:(1≤s.b.length∧s.b.length≤6)∧s.g.length=s.b.length∧s.e.length=s.b.length:=by omega
 have e1:=BQ s.b (by omega) hb.bs
 have e2:=BQ s.e (by omega) hb.es
 cases hwr:tC s.b with
 |
  none =>
  rw[hwr,En] at e1
  have hw:=L8 hwr
  have bad:=bad (by unfold eH;rw[if_pos uO,hw]) (by unfold M9;rw[if_pos uO,hw])
  cases hr:tC s.e with
  |
   none =>
   rw[hr,En] at e2
   simp only[gD,dT,vU,h1,h6,hg,he,e1,e2,K7,st1,S8,ld1,dU,aKY,aMo,aMc,aLW,aMh,aL4,aKO,ne_eq,not_true_eq_false,decide_false,dR,VX,Nat.reduceEqDiff,Nat.reduceAdd,Nat.reduceLeDiff,Nat.reduceLT,Nat.reduceSub]
   exact bad _
  |
   some r =>
   rw[hr,Ei] at e2
   simp only[gD,dT,vU,h1,h6,hg,he,e1,e2,K7,st1,S8,ld1,dU,aKY,aMo,aMc,aLW,aMh,aL4,aKO,ne_eq,not_true_eq_false,decide_false,dR,VX,Nat.reduceEqDiff,Nat.reduceAdd,Nat.reduceLeDiff,Nat.reduceLT,Nat.reduceSub]
   exact bad _
 |
  some w =>
  rw[hwr,Ei] at e1
  obtain⟨hwb,hwl,_⟩:=nH hwr
  have QV:=J6 w hwb hwl
  cases hr:tC s.e with
  |
   none =>
   rw[hr,En] at e2
   have bad:=bad (by unfold eH;rw[if_pos uO,hr];cases mT s.b<;>rfl) (by unfold M9;rw[if_pos uO,hr];cases mT s.b<;>rfl)
   simp only[gD,dT,vU,h1,h6,hg,he,e1,e2,K7,st1,S8,ld1,dU,aKY,aMo,aMc,aLW,aMh,aL4,aKO,ne_eq,not_true_eq_false,decide_false,dR,VX,Nat.reduceEqDiff,Nat.reduceAdd,Nat.reduceLeDiff,Nat.reduceLT,Nat.reduceSub]
   exact bad _
  |
   some r =>
   rw[hr,Ei] at e2
   obtain⟨A2,BZ,adE⟩:=nH hr
   cases hww:kE w with
   |
    false =>
    rw[hww] at QV
    have hw:mT s.b=none:=by rw[F7 hwr,if_neg (by simp[hww])]
    have bad:=bad (by unfold eH;rw[if_pos uO,hw]) (by unfold M9;rw[if_pos uO,hw])
    simp only[gD,dT,vU,h1,h6,hg,he,e1,QV,e2,K7,st1,S8,ld1,dU,aKY,aMo,aMc,aLW,aMh,aL4,aKO,ne_eq,not_true_eq_false,decide_false,dR,VX,Nat.reduceEqDiff,Nat.reduceAdd,Nat.reduceLeDiff,Nat.reduceLT,Nat.reduceSub]
    exact bad _
   |
    true =>
    rw[hww] at QV
    have hw:mT s.b=some w:=by rw[F7 hwr,if_pos hww]
    have e3:=uU r (by omega)
    cases Ae:r.any (fun q=>decide (q<0)) with
    |
     true =>
     rw[Ae] at e3
     have bad:=bad (by unfold eH;rw[if_pos uO,hw,hr];exact if_neg (by rw[Ae];decide)) (by unfold M9;rw[if_pos uO,hw,hr];exact if_neg (by rw[Ae];decide))
     simp only[gD,dT,vU,h1,h6,hg,he,e1,QV,e2,e3,K7,st1,S8,ld1,dU,aKY,aMo,aMc,aLW,aMh,aL4,aKO,aOj,ne_eq,not_true_eq_false,decide_false,dR,VX,Nat.reduceEqDiff,Nat.reduceAdd,Nat.reduceLeDiff,Nat.reduceLT,Nat.reduceSub]
     exact bad _
    |
     false =>
     rw[Ae] at e3
     have Gn:eH s=(iR s.g s.b.length).map fun m=>(w,m,r):=by unfold eH;rw[if_pos uO,hw,hr];exact if_pos Ae
     have Dq:M9 s=Df s.g s.b.length:=by unfold M9;rw[if_pos uO,hw,hr];exact if_pos Ae
     clear bad
     simp only[gD,dT,vU,h1,h6,hg,he,e1,QV,e2,e3,st1,dU,aKY,aMo,aMc,aLW,aMh,aL4,aKO,aOi,aOj,ne_eq,not_true_eq_false,decide_false,dR,VX,Nat.reduceEqDiff,Nat.reduceAdd,Nat.reduceLeDiff,Nat.reduceLT,Nat.reduceSub]
     refine aP (fun(i:Nat) ρ H=>i≤s.b.length∧(∃out,iR s.g i=some out∧H=YB i out)∧ρ 0=(vU s).cG 0∧ρ 2 = .ptr 0 0 0 0∧ρ 4=VI s.b.length∧ρ 5 = .ptr 1 0 0 0∧ρ 6=aC aN w∧ρ 8=aC aN r∧ρ 10=VI i) (fun i=>s.b.length-i) 0
      ⟨aK8 _,⟨[],rfl,rfl⟩,by (repeat' apply aMk)<;>first | rfl | trivial | assumption⟩ ?_
     rintro i ρ H ⟨hi,⟨out,wM,rfl⟩,g0,g2,g4,g5,g6,g8,g10⟩
     obtain⟨gZ,hof⟩:=tZ wM
     by_cases bW:(i:Int)<(s.b.length:Int)
     ·obtain⟨x,hx⟩:∃x,s.g[i]? = some x:=⟨_,aKL (by omega)⟩
      have hxm:=aLy hx
      have hgd:s.g.getD i []=x:=by rw[aKB,hx];rfl
      have a1:=fun H=>aH (f:=gJ) (t := .op) (H:=H) (size:=1) (k := .i64) hx rfl
      have wi:IntKind.i64.wrap ((i:Int)+1)=((i+1:Nat):Int):=wrapN (i+1) (by omega) (by omega)
      have e4:=BQ x (hb.g9.2 x hxm) (hb.gs x hxm)
      have vL:iR s.g (i+1)=match iC s.g.length i x with | some q=>some (out++[q]) | none=>none:=by
       rw[iR,wM,hgd]
       cases iC s.g.length i x<;>rfl
      have bad:iC s.g.length i x=none→∀(u:VV) (K:aA),PM.fz 6 K u=some (aC (aC aN) out)→PM.fz depth K (.dW [.agg [.tree [] .nil,u,.tree [] .nil],VB false])=some (M7 s):=fun h u K hK=>by
       have hp:M7 s = .dW [.agg [.tree [] .op,aC (aC aN) out,.tree [] .op],VB false]:=by
        have h1:eH s=none:=by
         rw[h] at vL
         rw[Gn,DV vL s.b.length (by omega)]
         rfl
        unfold M7
        rw[h1,Dq,Vv wM (by rw[hgd];exact h) s.b.length (by omega)]
       rw[hp]
       exact WX hK
      cases HY:tC x with
      |
       none =>
       rw[HY,En] at e4
       have bd:=bad (by unfold iC;rw[HY])
       cases i with
       |
        zero =>
        simp only[dA,YB,vU,g0,g2,g4,g5,g10,bW,a1,e4,dU,gG,Nat.reduceLeDiff,Nat.reduceLT,Nat.reduceSub,nM,cD,cP,gN,lY,pS,bne_iff_ne,ne_eq,not_false_eq_true,not_true_eq_false,VX,Nat.reduceEqDiff,Nat.reduceAdd]
        exact bd _ _ (NF gZ _)
       |
        succ i =>
        simp only[dA,YB,vU,g0,g2,g4,g5,g10,bW,a1,e4,dU,gG,Nat.reduceLeDiff,Nat.reduceLT,Nat.reduceSub,nM,cD,cP,gN,lY,pS,bne_iff_ne,ne_eq,not_false_eq_true,not_true_eq_false,VX,Nat.reduceEqDiff,Nat.reduceAdd]
        exact bd _ _ (NH gZ)
      |
       some y =>
       rw[HY,Ei] at e4
       obtain⟨hyb,hyl,_⟩:=nH HY
       by_cases hl:(y.length:Int)=(s.b.length:Int)
       case neg =>
        have bd:=bad (by unfold iC;rw[HY];exact if_neg (fun h=>hl (by omega)))
        cases i with
        |
         zero =>
         simp only[dA,YB,vU,g0,g2,g4,g5,g10,bW,a1,e4,hl,dU,ne_eq,not_false_eq_true,decide_true,gG,Nat.reduceLeDiff,Nat.reduceLT,Nat.reduceSub,nM,cD,cP,gN,lY,pS,bne_iff_ne,ne_eq,not_false_eq_true,not_true_eq_false,VX,Nat.reduceEqDiff,Nat.reduceAdd]
         exact bd _ _ (NF gZ _)
        |
         succ i =>
         simp only[dA,YB,vU,g0,g2,g4,g5,g10,bW,a1,e4,hl,dU,ne_eq,not_false_eq_true,decide_true,gG,Nat.reduceLeDiff,Nat.reduceLT,Nat.reduceSub,nM,cD,cP,gN,lY,pS,bne_iff_ne,ne_eq,not_false_eq_true,not_true_eq_false,VX,Nat.reduceEqDiff,Nat.reduceAdd]
         exact bd _ _ (NH gZ)
       have e5:=uU y (by omega)
       cases I5:y.any (fun q=>decide (q<0)) with
       |
        true =>
        rw[I5] at e5
        have bd:=bad (by unfold iC;rw[HY];exact if_neg (fun h=>by rw[I5] at h;cases h.2.1))
        cases i with
        |
         zero =>
         simp only[dA,YB,vU,g0,g2,g4,g5,g10,bW,a1,e4,e5,hl,dU,aOj,ne_eq,not_true_eq_false,decide_false,gG,Nat.reduceLeDiff,Nat.reduceLT,Nat.reduceSub,nM,cD,cP,gN,lY,pS,bne_iff_ne,ne_eq,not_false_eq_true,not_true_eq_false,VX,Nat.reduceEqDiff,Nat.reduceAdd]
         exact bd _ _ (NF gZ _)
        |
         succ i =>
         simp only[dA,YB,vU,g0,g2,g4,g5,g10,bW,a1,e4,e5,hl,dU,aOj,ne_eq,not_true_eq_false,decide_false,gG,Nat.reduceLeDiff,Nat.reduceLT,Nat.reduceSub,nM,cD,cP,gN,lY,pS,bne_iff_ne,ne_eq,not_false_eq_true,not_true_eq_false,VX,Nat.reduceEqDiff,Nat.reduceAdd]
         exact bd _ _ (NH gZ)
       |
        false =>
        rw[I5] at e5
        obtain⟨q,hq⟩:∃q,y[i]? = some q:=⟨_,aKL (by omega)⟩
        have hqd:y.getD i 0=q:=by rw[aKB,hq];rfl
        have a2:=fun H=>aH (f:=aN) (t := .op) (H:=H) (size:=3) (k := .i64) hq rfl
        have e6:=sG q
        by_cases hz:q=0
        case neg =>
         rw[decide_eq_false hz] at e6
         have bd:=bad (by unfold iC;rw[HY];exact if_neg (fun h=>hz (by rw[←hqd];exact h.2.2)))
         cases i with
         |
          zero =>
          simp only[dA,YB,vU,g0,g2,g4,g5,g10,bW,a1,a2,e4,e5,e6,hl,dU,cI,aOi,ne_eq,not_true_eq_false,decide_false,gG,Nat.reduceLeDiff,Nat.reduceLT,Nat.reduceSub,nM,cD,cP,gN,lY,pS,bne_iff_ne,ne_eq,not_false_eq_true,not_true_eq_false,VX,Nat.reduceEqDiff,Nat.reduceAdd]
          exact bd _ _ (NF gZ _)
         |
          succ i =>
          simp only[dA,YB,vU,g0,g2,g4,g5,g10,bW,a1,a2,e4,e5,e6,hl,dU,cI,aOi,ne_eq,not_true_eq_false,decide_false,gG,Nat.reduceLeDiff,Nat.reduceLT,Nat.reduceSub,nM,cD,cP,gN,lY,pS,bne_iff_ne,ne_eq,not_false_eq_true,not_true_eq_false,VX,Nat.reduceEqDiff,Nat.reduceAdd]
          exact bd _ _ (NH gZ)
        rw[decide_eq_true hz] at e6
        have mA:iC s.g.length i x=some y:=by unfold iC;rw[HY];exact if_pos ⟨by omega,I5,by rw[hqd,hz]⟩
        rw[mA] at vL
        have eL:∀K,mV false [.slice none 0 0] 1 [(0,aC aN y)] K=some (.tree [aC aN y] (.cl 1),K):=fun K=>iU rfl rfl rfl
        have eS:∀K,cW 1 (.tree [aC aN y] (.cl 1)) K=some [aC aN y]:=fun K=>eU rfl rfl
        cases i with
        |
         zero =>
         have ho:out=[]:=aMM.1 gZ
         subst ho
         have eP:∀K:aA,dO 0 1 24 (.tree [] .nil) [aC aN y] K=some (.ref K.length 0 0 1 1,K++[.row 0 [aC aN y] 1 true]):=fun K=>by simp[dO]
         simp only[dA,YB,vU,g0,g2,g4,g5,g10,bW,a1,a2,e4,e5,e6,hl,eL,eS,eP,wi,dU,cI,aOi,aOj,ne_eq,not_true_eq_false,decide_false,aKO,aMh,aL4,aLW,gG,Nat.reduceLeDiff,Nat.reduceLT,Nat.reduceSub,nM,cD,cP,gN,lY,pS,bne_iff_ne,ne_eq,not_false_eq_true,not_true_eq_false,VX,Nat.reduceEqDiff,Nat.reduceAdd]
         exact⟨1,by omega,by omega,⟨[y],vL,rfl⟩,by (repeat' apply aMk)<;>first | rfl | trivial | assumption⟩
        |
         succ i =>
         have eP:dO 0 1 24 (.ref 2 i 0 (i+1) (i+1)) [aC aN y] (YB (i+1) out)=some (.ref 2 (i+1) 0 (i+2) (i+2),[kQ,.row 0 [.agg [.tree [] .nil,.ref 2 i 0 (i+1) (i+1),.tree [] .nil]] 3 true,.row (i+1) ((out++[y]).map (aC aN)) 1 true]):=by
          rw[YB,jV (f:=aC aN) (xs:=out) (by rw[eO,eO,aU]) gZ.symm (aK8 _) (by decide) (by decide) (by omega)]
          rfl
         simp only[YB] at eP
         simp only[dA,YB,vU,g0,g2,g4,g5,g10,bW,a1,a2,e4,e5,e6,hl,eL,eS,eP,wi,dU,cI,aOi,aOj,ne_eq,not_true_eq_false,decide_false,gG,Nat.reduceLeDiff,Nat.reduceLT,Nat.reduceSub,nM,cD,cP,gN,lY,pS,bne_iff_ne,ne_eq,not_false_eq_true,not_true_eq_false,VX,Nat.reduceEqDiff,Nat.reduceAdd]
         exact⟨i+2,by omega,by omega,⟨out++[y],vL,rfl⟩,by (repeat' apply aMk)<;>first | rfl | trivial | assumption⟩
     ·have mH:i=s.b.length:=by omega
      rw[mH] at wM gZ
      obtain⟨k,hk⟩:∃k,s.b.length=k+1:=⟨s.b.length-1,by omega⟩
      have WJ:i=k+1:=by omega
      subst WJ
      have aB5:r.length=s.b.length:=by omega
      have aFX:w.length=s.b.length:=(nH hwr).2.2
      have akJ:M7 s = .dW [CJ aN w out r,VB (EW (w,out,r))]:=by unfold M7;rw[Gn,wM];rfl
      rw[akJ]
      have aBC:∀q∈r,0≤q:=fun q hq=>Rat.not_lt.1 (by have:=List.any_eq_false.1 Ae q hq;simpa using this)
      have hF:=Ih (b:=w) (g:=out) (e:=r) (n:=r.length) (by omega) (by omega) (by omega) (fun z hz=>⟨by have:=(hof z hz).1;omega,fun q hq=>((hof z hz).2 q hq).1⟩) rfl aBC
      have Rf:∀Y X:fO,aG [Y,X,.row k (out.map (aC aN)) 1 true] 2 k=some (out.map (aC aN),1,true):=fun Y X=>by rw[eO,eO,aU]
      have akB:=fun Y X=>G5 (d:=4) (c:=k+1) (rJ ·) (Rf Y X) (by omega)
      rw[hk] at gZ
      rw[gZ] at akB
      have hfa:∀Y X,PM.fz 7 [Y,X,.row k (out.map (aC aN)) 1 true] (.agg [aC aN w,.ref 2 k 0 (k+1) (k+1),aC aN r])=some (CJ aN w out r):=fun Y X=>by
       refine GQ (d:=5) ?_
       rw[aL1,aM (rJ w),aL1,akB,aL1,aM (rJ r)]
       rfl
      have hp1:PM.fz depth [kQ,.row 0 [.agg [aC aN w,.ref 2 k 0 (k+1) (k+1),aC aN r]] 3 true,.row k (out.map (aC aN)) 1 true] (.ptr 1 0 0 0)=some (svP w out r):=awR (o:=0) (b:=1) (g:=0) (j:=0) (es:=[.agg [aC aN w,.ref 2 k 0 (k+1) (k+1),aC aN r]]) (x := .agg [aC aN w,.ref 2 k 0 (k+1) (k+1),aC aN r]) (x':=CJ aN w out r) (eO.trans aU) rfl (hfa _ _)
      have hE2:=fun lo K=>TC.flat (args:=[.ptr 1 0 0 0]) (mF:=[svP w out r]) hF rfl (KR (WW _ _ _)) (fz1 hp1) rfl lo K
      simp only[dA,YB,g2,g4,g5,g6,g8,g10,bW,hE2,dU,gG,Nat.reduceLeDiff,Nat.reduceLT,Nat.reduceSub,nM,cD,cP,gN,lY,pS,bne_iff_ne,ne_eq,not_false_eq_true,not_true_eq_false,VX,Nat.reduceEqDiff,Nat.reduceAdd]
      exact bN (d:=6) (hfa _ _) (aM (v:=VB _) rfl)
end Go.PM
namespace Go.PM
end Go.PM
namespace Go.PM
theorem pV (q:Rat):(aB (aN q)).all bP=true:=rfl
theorem amU {lo k:Nat} {H K:aA} {x:VV} {q:Rat} (h:lo≤H.length) (hK:K[k]? = some (.row 0 [x] 3 true)):bL lo 3 (.ptr (H.length+k) 0 0 0) (aN q) (H++K)=some (H++K.set k (.row 0 [aN q] 3 true)):=by
 have hr:aG (H++K) (H.length+k) 0=some ([x],3,true):=by
  rw[cB,List.getElem?_append_right (by omega),aMv]
  exact hK
 rw[bS (e:=3) hr (by exact aNW) (by omega) (jE q) (pV q),List.set_append_right _ _ (by omega),aMv]
 rfl
theorem aBn {H:aA} {b:Nat} {q:Rat} (h:aG H b 0=some ([aN q],3,true)):bF true 3 (.ptr b 0 0 0) H=some (aN q):=by
 rw[bK,h]
 exact cI q
end Go.PM
namespace Go.PM
open Go.Lib
section
variable {lo fW hi N b g c:Nat} {H:aA} {L:List P9}
structure Tq (f:Rat→VV) (lo hi N b g:Nat) (L:List P9) (H:aA):Prop where
 t:Tb f lo hi N N b g (iX L) H
 b:∀t∈L,aL t.2.2≤1331
 l:L.length≤400
theorem Tq.bits {f:Rat→VV} (h:Tq f lo hi N b g L H) (i j:Nat):aL (iX L i j)≤1000000:=by
 have h1:=PY h.b i j
 have h2:L.length*(1331+1)≤400*(1331+1):=aK5 _ h.l
 omega
theorem Tq.dB {f:Rat→VV} {H':aA} (h:Tq f lo hi N b g L H) (hk:jQ lo hi H H'):Tq f lo hi N b g L H':=⟨h.t.dB hk,h.b,h.l⟩
theorem Tq.pre {f:Rat→VV} {H':aA} (h:Tq f lo hi N b g L H) (hh:H <+: H'):Tq f lo hi N b g L H':=h.dB (jQ.pre hh)
theorem Tq.snoc {f:Rat→VV} {H':aA} {i j:Nat} {q:Rat} (h:Tq f lo hi N b g L H) (hT:Tb f lo hi N N b g (iX (L++[(i,j,q)])) H') (hq:aL q≤1331) (hl:L.length<400):Tq f lo hi N b g (L++[(i,j,q)]) H' :=
 ⟨hT,fun t ht=>by
  rcases List.mem_append.1 ht with ht | ht
  ·exact h.b t ht
  ·rw[List.mem_singleton] at ht
   subst ht
   exact hq,by rw[List.length_append];exact hl⟩
theorem Tq.same {f:Rat→VV} {i:Nat} {q:Rat} (h:Tq f lo hi N b g L H) (hq:aL q≤1331) (hl:L.length<400):Tq f lo hi N b g (L++[(i,i,q)]) H:=h.snoc (by rw[YL];exact h.t) hq hl
end
theorem awZ {H:aA} {es:List VV} {k:Nat} (hp:aO es=true):PM.fz depth H (.tree es (.cl k))=some (.tree es .op):=by
 have h0:aY (.tree es (.cl k))=false:=by simp[aY]
 show PM.fz (7+1) H _=_
 unfold PM.fz
 simp only[h0,Bool.false_eq_true,if_false]
 rw[mapM_pure (n:=6) hp]
 rfl
theorem acI {H:aA} {es:List VV} {k:Nat} (hp:aO es=true):iT depth H (.tree es (.cl k))=[]:=by
 have h0:aY (.tree es (.cl k))=false:=by simp[aY]
 show iT (7+1) H _=_
 unfold iT
 simp only[h0,Bool.false_eq_true,if_false]
 exact AN hp
theorem TC.cl {f lo k:Nat} {H:aA} {es:List VV} {r:VV} {K:VV→aA→Prop} (h:TC f [.tree es .op] r) (hr:Gi.contains f=false) (hp:aO es=true) (BY:aY (.tree es .op)=true):dH f [.tree es (.cl k)] lo H K=K r H:=by
 have h0:aY (.tree es (.cl k))=false:=by simp[aY]
 rw[h.Dj (H:=H) (lo:=lo) (k:=K) hr (KR BY) (fz1 (awZ hp)) (by simp[aO,h0]),List.flatMap_cons,acI hp]
 split<;>rfl
theorem TabIs.fz {f:Rat→VV} {m:List (List Rat)} {lo hi:Nat} {H:aA} {v:VV} (h:TabIs f 3 m lo hi H v) (hpu:∀x,aY (f x)=true):PM.fz depth H v=some (aC (aC f) m):=by
 obtain⟨b,g,c,rs,rfl,k1,hM,hrs⟩:=h
 have BZ:rs.length=m.length:=by rw[←hrs,List.length_map]
 have hfz:=hM.fz (d:=5) (c:=c) (by omega) hpu
 rw[hrs,BZ] at hfz
 exact hfz
theorem wN {x:Int} (k:Nat) (h:x=k) (hk:k≤1000000000):IntKind.i64.wrap x=(k:Int):=by
 subst h
 exact wrapN k (by omega) (by omega)
theorem QOk.told {p:Nat×List P9} (hp:QOk p):(UA (Pm p)).length≤1000000∧∀r∈UA (Pm p),r.length≤1000000∧∀q∈r,aL q≤1099511627776:=by
 have hn:=hp.n
 obtain⟨el,eb⟩:=acA XJ (B:=600000) hp.rows (by omega) (by omega)
 exact⟨by omega,fun r hr=>⟨by have:=(eb r hr).1;omega,fun q hq=>by have:=(eb r hr).2 q hq;omega⟩⟩
end Go.PM
namespace Go.PM
structure aaJ (s:vJ):Prop where
 b:s.b.length≤100
 g:s.g.length≤100
 r:∀x∈s.g,x.length≤100
 e:s.e.length≤100
theorem DN {β:Type}:∀ {xs:List (List β)} {n:Nat},(∀x∈xs,x.length≤n)→IK xs≤xs.length*n
 | [],n,_=>by simp[IK]
 |
  x::xs,n,h=>by
  have h1:=h x List.mem_cons_self
  have h2:=DN (xs:=xs) (n:=n) fun y hy=>h y (List.mem_cons_of_mem _ hy)
  have e:IK (x::xs)=x.length+IK xs:=by simp[IK]
  rw[e,aKO,aK9,Nat.one_mul]
  omega
theorem aaJ.n {s:vJ} (h:aaJ s):svN s≤10200:=by
 have h1:=DN h.r
 have h2:s.g.length*100≤100*100:=aK5 _ h.g
 have h3:=h.b
 have h4:=h.e
 unfold svN
 omega
end Go.PM
namespace Go.PM
open Go.Lib
theorem LsO.wide {α:Type} {f:α→VV} {e:Nat} {o:Option (List α)}:∀ {lo hi fW qQ:Nat} {H:aA} {v:VV},LsO f e o lo hi H v→fW≤lo→hi≤qQ→LsO f e o fW qQ H v:=by
 intro lo hi fW qQ H v h hl hh
 cases o with
 | none=>exact h
 |
  some ys =>
  obtain⟨b,g,c,h1,h2,h3⟩:=h
  exact⟨b,g,c,by omega,by omega,h3⟩
end Go.PM
namespace Go.PM
structure Zp (s:List (List ByteArray)):Prop where
 g:s.length≤100
 r:∀x∈s,x.length≤100
theorem Zp.n {s:List (List ByteArray)} (h:Zp s):IK s≤10000:=by
 have h1:=DN h.r
 have h2:s.length*100≤100*100:=aK5 _ h.g
 omega
end Go.PM
namespace Go.PM
end Go.PM
namespace Go.PM
open Go.Lib
end Go.PM
namespace Go.PM
open Go.Lib
def Hx (A:Nat→Nat→Rat) (b:Nat→Rat) (n i j:Nat):Rat:=if j<n then A i j else b i
def jnA (i:Nat) (A:Nat→Nat→Rat) (b:Nat→Rat) (n:Nat):Nat→Nat→Rat:=Hx (Hm (cDg i A) i A) (TV (cDg i A) i b) n
def jnR (i:Nat) (A:Nat→Nat→Rat) (b:Nat→Rat) (n r a c:Nat):Rat:=if a<r then jnA i A b n a c else Hx A b n a c
def jnC (i:Nat) (A:Nat→Nat→Rat) (b:Nat→Rat) (n r j a c:Nat):Rat:=if a=r∧c<j then jnA i A b n r c else jnR i A b n r a c
section
variable {i n r:Nat} {A:Nat→Nat→Rat} {b:Nat→Rat}
theorem IN {a c:Nat} (h:c<n):Hx A b n a c=A a c:=if_pos h
theorem aaX {a:Nat}:Hx A b n a n=b a:=if_neg (aOk _)
theorem Yh {a c:Nat}:jnA i A b n a c=Hx A b n a c-cDg i A a*Hx A b n i c:=by
 unfold jnA Hx Hm TV
 split<;>rfl
theorem ZG {c:Nat}:jnA i A b n i c=Hx A b n i c:=by
 rw[Yh,show cDg i A i=0 from if_pos rfl,aOl]
 grind
theorem amW (h:A r i=0) {c:Nat}:jnA i A b n r c=Hx A b n r c:=by
 rw[Yh]
 have:cDg i A r=0:=by
  unfold cDg
  split
  ·rfl
  ·rw[h,Rat.div_def,aOl]
 rw[this,aOl]
 grind
theorem aoA (h:r≠i) {c:Nat}:jnA i A b n r c=Hx A b n r c-A r i / A i i*Hx A b n i c:=by
 rw[Yh,show cDg i A r=A r i / A i i from if_neg h]
theorem TP {c:Nat}:jnR i A b n r r c=Hx A b n r c:=if_neg (aOk _)
theorem aaM {c:Nat}:jnR i A b n r i c=Hx A b n i c:=by
 unfold jnR
 split
 ·exact ZG
 ·rfl
theorem UY (h:r=i∨A r i=0) {a c:Nat}:jnR i A b n r a c=jnR i A b n (r+1) a c:=by
 unfold jnR
 by_cases h1:a<r
 ·rw[if_pos h1,if_pos (by omega)]
 ·rw[if_neg h1]
  by_cases h2:a=r
  ·subst h2
   rw[if_pos (by omega)]
   rcases h with h | h
   ·subst h;exact ZG.symm
   ·exact(amW h).symm
  ·rw[if_neg (by omega)]
theorem adO (hz:∀c,c<i→A i c=0) (bW:i<n) (h:r≠i) {a c:Nat}:jnR i A b n r a c=jnC i A b n r i a c:=by
 unfold jnC
 by_cases h1:a=r∧c<i
 ·obtain⟨rfl,h2⟩:=h1
  rw[if_pos ⟨rfl,h2⟩,TP,aoA h,IN (by omega:c<n),IN (by omega:c<n),hz c h2]
  grind
 ·rw[if_neg h1]
theorem asD {j:Nat}:jnC i A b n r j r j=Hx A b n r j:=by
 unfold jnC
 rw[if_neg (by omega),TP]
theorem apR {j c:Nat} (h:r≠i):jnC i A b n r j i c=Hx A b n i c:=by
 unfold jnC
 rw[if_neg (by omega),aaM]
theorem anD {j a c:Nat}:PO (jnC i A b n r j) r j (jnA i A b n r j) a c=jnC i A b n r (j+1) a c:=by
 unfold PO jnC
 by_cases h1:a=r∧c=j
 ·obtain⟨rfl,rfl⟩:=h1
  rw[if_pos ⟨rfl,rfl⟩,if_pos ⟨rfl,by omega⟩]
 ·rw[if_neg h1]
  by_cases h2:a=r∧c<j
  ·rw[if_pos h2,if_pos ⟨h2.1,by omega⟩]
  ·rw[if_neg h2,if_neg (by omega)]
theorem apV {a c:Nat} (hc:c<n+1):jnC i A b n r (n+1) a c=jnR i A b n (r+1) a c:=by
 unfold jnC
 by_cases h1:a=r∧c<n+1
 ·obtain⟨rfl,_⟩:=h1
  rw[if_pos ⟨rfl,hc⟩]
  unfold jnR
  rw[if_pos (by omega)]
 ·rw[if_neg h1]
  unfold jnR
  by_cases h2:a<r
  ·rw[if_pos h2,if_pos (by omega)]
  ·rw[if_neg h2,if_neg (by omega)]
theorem aqQ {k m a c:Nat}:swp k m (Hx A b n) a c=Hx (swp k m A) (swp k m b) n a c:=by
 unfold swp Hx
 by_cases h1:a=k
 ·simp only[h1,if_true]
 ·simp only[h1,if_false]
  by_cases h2:a=m
  ·simp only[h2,if_true]
  ·simp only[h2,if_false]
end
theorem PR {lo fW hi N M b g c:Nat} {F:Nat→Nat→Rat} {H:aA} {k m:Nat} (h:Tb aN fW hi N M b g F H) (hk:k<N) (hm:m<N) (dS:lo≤fW) :
  jD 179 [.ref b g 0 N c,VI k,VI m] lo H fun _ H'=>Qm fW hi H H'∧Tb aN fW hi N M b g (swp k m F) H':=by
 refine jD.walk ⟨true,false⟩ Pv (aMs rfl) ?_
 obtain⟨u,v,e1,e2,e3⟩:=h.swap hk hm
 obtain⟨Ha,Hb,e4,e5,e6,e7,e8,e9⟩:=e3 lo dS
 have a1:=h.addr (c:=c) hk
 have a2:=h.addr (c:=c) hm
 simp only[Kc,F5,a1,a2,e1,e2,e4,e5,e6,dR,VX,Nat.reduceEqDiff,Nat.reduceAdd,Nat.reduceLeDiff,Nat.reduceLT,Nat.reduceSub]
 exact⟨e8,e9⟩
set_option maxHeartbeats 16000000 in
set_option maxRecDepth 30000 in
theorem M5 {lo fW hi n b g c G η:Nat} {H:aA} {A0:Nat→Nat→Rat} {b0 X:Nat→Rat} (hT:Tb aN fW hi n (n+1) b g (Hx A0 b0 n) H) (hU:DgS n 0 G A0 b0 X) (hX:dG η n X) (hn:n≤12) (hG:2^n*(G+1)≤68719476736) (hη:η≤274877906944) (dS:lo≤fW) (hlH:lo≤H.length) (hhi:hi≤H.length) :
  jD 134 [.ref b g 0 n c] lo H fun r H'=>∃v,r = .dW [v,VB true]∧H.length≤H'.length∧JR aN 3 (vec n X) H.length H'.length H' v∧∀b' g' x,(b'<fW∨hi≤b')→aG H b' g'=some x→aG H' b' g'=some x:=by
 refine jD.walk ⟨true,false⟩ Ni (aMs rfl) ?_
 have el:=hT.len (c:=c)
 simp only[Hw,EA,el,dR,VX,Nat.reduceEqDiff,Nat.reduceAdd,Nat.reduceLeDiff,Nat.reduceLT,Nat.reduceSub]
 have hgk:∀k,k≤n→gk G k≤68719476736:=fun k hk=>aKF (auX hk) hG
 have wn:∀k:Nat,k≤n+1→IntKind.i64.wrap ((k:Int)+1)=((k+1:Nat):Int):=fun k hk=>wN _ (by omega) (by omega)
 have trB:∀ {lo hi:Nat} {H H' Uo:aA},(H.length≤H'.length∧∀b' g' x,(b'<lo∨hi≤b')→aG H b' g'=some x→aG H' b' g'=some x)→(H'.length≤Uo.length∧∀b' g' x,(b'<lo∨hi≤b')→aG H' b' g'=some x→aG Uo b' g'=some x)→H.length≤Uo.length∧∀b' g' x,(b'<lo∨hi≤b')→aG H b' g'=some x→aG Uo b' g'=some x:=fun h h'=>⟨aKF h.1 h'.1,fun b g x k1 k2=>h'.2 b g x k1 (h.2 b g x k1 k2)⟩
 have ofR:∀ {lo hi:Nat} {H H':aA},Qm lo hi H H'→(H.length≤H'.length∧∀b' g' x,(b'<lo∨hi≤b')→aG H b' g'=some x→aG H' b' g'=some x):=fun h=>⟨Nat.le_of_eq h.1.symm,h.2⟩
 have ofA:∀ {lo hi:Nat} {H L:aA},(H.length≤(H++L).length∧∀b' g' x,(b'<lo∨hi≤b')→aG H b' g'=some x→aG (H++L) b' g'=some x):=fun {_ _ H L}=>⟨by simp,fun _ _ _ _ h=>eV h⟩
 refine aP (fun(k:Nat) ρ H1=>k≤n∧(∃A bb,DgS n k (gk G k) A bb X∧Tb aN fW hi n (n+1) b g (Hx A bb n) H1)∧(H.length≤H1.length∧∀b' g' x,(b'<fW∨hi≤b')→aG H b' g'=some x→aG H1 b' g'=some x)∧ρ 0 = .ref b g 0 n c∧ρ 4=VI n∧ρ 5=VI k) (fun k=>n-k) 0
  ⟨aK8 _,⟨A0,b0,hU,hT⟩,⟨aKE _,fun _ _ _ _ h=>h⟩,by (repeat' apply aMk)<;>first | rfl | trivial | assumption⟩ ?_
 rintro k ρ H1 ⟨hk,⟨A,bb,Ur,hT1⟩,hO1,g0,g4,g5⟩
 by_cases TT:(k:Int)<(n:Int)
 ·have oM:k<n:=by omega
  obtain⟨pm,hp1,hp2,hp3⟩:=Ur.f.ahS oM Ur.u.upper
  simp only[yF,g0,g4,g5,TT,dR,VX,Nat.reduceEqDiff,Nat.reduceAdd,Nat.reduceLeDiff,Nat.reduceLT,Nat.reduceSub]
  refine aP (fun(m:Nat) aQ H2=>H2=H1∧k≤m∧m≤n∧(∀r,k≤r→r<m→A r k=0)∧aQ 0 = .ref b g 0 n c∧aQ 4=VI n∧aQ 5=VI k∧aQ 6=VI m) (fun m=>n-m) k
   ⟨rfl,aKE _,hk,fun r h1 h2=>by omega,by (repeat' apply aMk)<;>first | rfl | trivial | assumption⟩ ?_
  clear g0 g4 g5
  rintro m ρ H2 ⟨rfl,hkm,hmn,hzero,g0,g4,g5,g6⟩
  have hm:m<n:=by
   rcases aKH m n with h | h
   ·exact h
   ·exact absurd (hzero pm hp1 (by omega)) hp3
  have aiW:(m:Int)<(n:Int):=by omega
  have a1:=hT1.addr (c:=c) hm
  obtain⟨rb1,rg1,rc1,c1,c2,c3,_⟩:=hT1.spot (i:=m) (j:=k) hm (by omega) jE pV
  have c3:=(c3 true).trans (cI _)
  rw[IN oM] at c3
  have es:=sG (A m k)
  by_cases CL:A m k=0
  ·rw[decide_eq_true CL] at es
   simp only[yO,g0,g4,g5,g6,aiW,a1,c1,c2,c3,es,wn m (by omega),dR,VX,Nat.reduceEqDiff,Nat.reduceAdd,Nat.reduceLeDiff,Nat.reduceLT,Nat.reduceSub]
   exact⟨m+1,by omega,by omega,by omega,fun r h1 h2=>by
    rcases aKH r m with h | h
    ·exact hzero r h1 h
    ·rw[show r=m by omega]
     exact CL,by (repeat' apply aMk)<;>first | rfl | trivial | assumption⟩
  ·rw[decide_eq_false CL] at es
   have gF:¬(m:Int)=(n:Int):=by omega
   have Yy:=Ur.swp hkm hm
   have SB:swp k m A k k≠0:=by unfold Go.PM.swp;rw[if_pos rfl];exact CL
   simp only[yO,g0,g4,g5,g6,aiW,a1,c1,c2,c3,es,gF,dR,VX,Nat.reduceEqDiff,Nat.reduceAdd,Nat.reduceLeDiff,Nat.reduceLT,Nat.reduceSub]
   refine fU rfl ((PR (c:=c) hT1 oM hm dS).mono ?_)
   rintro _ Hs ⟨hOs,hTs⟩
   have hTs:=hTs.congr fun a c _ _=>aqQ
   have hOs:=trB hO1 (ofR hOs)
   generalize hA':Go.PM.swp k m A=A' at *
   generalize xM:Go.PM.swp k m bb=Iy at *
   simp only[g0,g4,g5,dR,VX,Nat.reduceEqDiff,Nat.reduceAdd,Nat.reduceLeDiff,Nat.reduceLT,Nat.reduceSub]
   refine aP (fun(i:Nat) aQ H2=>i≤n∧Tb aN fW hi n (n+1) b g (jnR k A' Iy n i) H2∧(H.length≤H2.length∧∀b' g' x,(b'<fW∨hi≤b')→aG H b' g'=some x→aG H2 b' g'=some x)∧aQ 0 = .ref b g 0 n c∧aQ 4=VI n∧aQ 5=VI k∧aQ 7=VI i) (fun i=>n-i) 0
    ⟨aK8 _,hTs.congr fun a c _ _=>(if_neg (Nat.not_lt_zero a)).symm,hOs,by (repeat' apply aMk)<;>first | rfl | trivial | assumption⟩ ?_
   clear g0 g4 g5 g6 hTs hOs
   rintro i ρ H2 ⟨bW,R9,Rq,g0,g4,g5,g7⟩
   have hg:=hgk k hk
   have bits:∀a c,a<n→c<n+1→aL (Hx A' Iy n a c)≤343597383684:=fun a c ha hc=>by
    rcases aKH c n with h | h
    ·rw[IN h]
     have:=Yy.z.bits ha h
     omega
    ·rw[show c=n by omega,aaX]
     have:=Yy.right hX (by omega) ha
     omega
   by_cases Uq:(i:Int)<(n:Int)
   ·have vA:i<n:=by omega
    by_cases WJ:(i:Int)=(k:Int)
    ·obtain rfl:k=i:=by omega
     simp only[nY,g0,g4,g5,g7,Uq,wn k (by omega),eq_self,decide_true,dR,VX,Nat.reduceEqDiff,Nat.reduceAdd,Nat.reduceLeDiff,Nat.reduceLT,Nat.reduceSub]
     exact⟨k+1,by omega,by omega,R9.congr fun _ _ _ _=>UY (.inl rfl),Rq,by (repeat' apply aMk)<;>first | rfl | trivial | assumption⟩
    ·have ayP:i≠k:=by omega
     have a2:=R9.addr (c:=c) vA
     obtain⟨rb2,rg2,rc2,d1,d2,d3,_⟩:=R9.spot (i:=i) (j:=k) vA (by omega) jE pV
     have d3:=(d3 true).trans (cI _)
     rw[TP,IN oM] at d3
     have SE:=sG (A' i k)
     by_cases Nz:A' i k=0
     ·rw[decide_eq_true Nz] at SE
      simp only[nY,g0,g4,g5,g7,Uq,WJ,a2,d1,d2,d3,SE,wn i (by omega),dR,VX,Nat.reduceEqDiff,Nat.reduceAdd,Nat.reduceLeDiff,Nat.reduceLT,Nat.reduceSub]
      exact⟨i+1,by omega,by omega,R9.congr fun _ _ _ _=>UY (.inr Nz),Rq,by (repeat' apply aMk)<;>first | rfl | trivial | assumption⟩
     ·rw[decide_eq_false Nz] at SE
      have a3:=R9.addr (c:=c) oM
      obtain⟨rb3,rg3,rc3,d4,d5,d6,_⟩:=R9.spot (i:=k) (j:=k) oM (by omega) jE pV
      have d6:=(d6 true).trans (cI _)
      rw[aaM,IN oM] at d6
      have bik:=Yy.z.bits vA oM
      have bkk:=Yy.z.bits oM oM
      have ef:=F4 (A' i k) (A' k k) SB (by omega) (by omega)
      have bf:=GU (A' i k) (A' k k)
      have s1:=QM (lo:=lo) (H:=H2) (q:=A' i k / A' k k) (by have:=Rq.1;omega)
      have rf:=(lG (H:=H2) (g:=0) (es:=[aN (A' i k / A' k k)]) (e:=3) (w:=true))
      have hT3:=R9.pre (aMy H2 [.row 0 [aN (A' i k / A' k k)] 3 true])
      have hO3:=trB Rq (ofA (L:=[.row 0 [aN (A' i k / A' k k)] 3 true]))
      have hH2:hi≤H2.length:=aKF hhi Rq.1
      simp only[nY,g0,g4,g5,g7,Uq,WJ,a2,a3,d1,d2,d3,d4,d5,d6,SE,ef,s1,dR,VX,Nat.reduceEqDiff,Nat.reduceAdd,Nat.reduceLeDiff,Nat.reduceLT,Nat.reduceSub]
      have hel:∀j,Hx A' Iy n i j-A' i k / A' k k*Hx A' Iy n k j=jnA k A' Iy n i j:=fun j=>(aoA ayP).symm
      generalize hfq:A' i k / A' k k=fq at *
      refine aP (fun(j:Nat) aQ H4=>k≤j∧j≤n+1∧Tb aN fW hi n (n+1) b g (jnC k A' Iy n i j) H4∧(H.length≤H4.length∧∀b' g' x,(b'<fW∨hi≤b')→aG H b' g'=some x→aG H4 b' g'=some x)∧aG H4 H2.length 0=some ([aN fq],3,true)∧aQ 0 = .ref b g 0 n c∧aQ 4=VI n∧aQ 5=VI k∧aQ 7=VI i∧aQ 8 = .ptr H2.length 0 0 0∧aQ 9=VI j) (fun j=>n+1-j) k
       ⟨aKE _,by omega,hT3.congr fun _ _ _ _=>adO (fun c hc=>Yy.u.1 k c oM hc (by omega)) oM ayP,hO3,rf,by (repeat' apply aMk)<;>first | rfl | trivial | assumption⟩ ?_
      clear g0 g4 g5 g7 hT3 hO3 rf
      rintro j ρ H4 ⟨hkj,Eo,hT4,hO4,rf,g0,g4,g5,g7,g8,g9⟩
      have lf:=aBn rf
      by_cases amS:(j:Int)≤(n:Int)
      ·have Hg:j<n+1:=by omega
       have a4:=hT4.addr (c:=c) vA
       have a5:=hT4.addr (c:=c) oM
       obtain⟨rb4,rg4,rc4,t1,t2,t3,t4⟩:=hT4.spot (i:=i) (j:=j) vA Hg jE pV
       obtain⟨rb5,rg5,rc5,t5,t6,t7,_⟩:=hT4.spot (i:=k) (j:=j) oM Hg jE pV
       have t3:=(t3 true).trans (cI _)
       have t7:=(t7 true).trans (cI _)
       rw[asD] at t3
       rw[apR ayP] at t7
       have bij:=bits i j vA Hg
       have bkj:=bits k j oM Hg
       have em:=Ad fq (Hx A' Iy n k j) (by omega) (by omega)
       have bm:=jA fq (Hx A' Iy n k j)
       have eS:=Nk (Hx A' Iy n i j) (fq*Hx A' Iy n k j) (by omega) (by omega)
       rw[hel] at eS
       obtain⟨H5,t8,t9,hT5,_⟩:=t4 lo (jnA k A' Iy n i j) dS
       have hT5:=hT5.congr fun _ _ _ _=>anD
       have rf5:=t9.2 _ _ _ (by omega) rf
       simp only[xX,g0,g4,g5,g7,g8,g9,amS,a4,a5,t1,t2,t3,t5,t6,t7,t8,lf,em,eS,wn j (by omega),dR,VX,Nat.reduceEqDiff,Nat.reduceAdd,Nat.reduceLeDiff,Nat.reduceLT,Nat.reduceSub]
       exact⟨j+1,by omega,by omega,by omega,hT5,trB hO4 (ofR t9),rf5,by (repeat' apply aMk)<;>first | rfl | trivial | assumption⟩
      ·have Tw:j=n+1:=by omega
       subst Tw
       simp only[xX,g4,g7,g9,amS,wn i (by omega),dR,VX,Nat.reduceEqDiff,Nat.reduceAdd,Nat.reduceLeDiff,Nat.reduceLT,Nat.reduceSub]
       exact⟨i+1,by omega,by omega,hT4.congr fun _ _ _ hc=>apV hc,hO4,by (repeat' apply aMk)<;>first | rfl | trivial | assumption⟩
   ·have mH:i=n:=by omega
    subst mH
    have hU3:=Yy.step SB oM
    simp only[nY,g4,g5,g7,Uq,wn k (by omega),dR,VX,Nat.reduceEqDiff,Nat.reduceAdd,Nat.reduceLeDiff,Nat.reduceLT,Nat.reduceSub]
    exact⟨k+1,by omega,by omega,⟨_,_,hU3,R9.congr fun a _ ha _=>if_pos ha⟩,Rq,by (repeat' apply aMk)<;>first | rfl | trivial | assumption⟩
 ·have hke:k=n:=by omega
  subst hke
  have hg:=hgk k hk
  have e0:∀K,mV false [.bool false,.slice none 0 0,.slice none 0 0] 0 [] K=some (.ref K.length 0 0 0 0,K++[.row 0 [] 3 true]):=fun K=>mX rfl
  simp only[yF,g0,g4,g5,TT,e0,dR,VX,Nat.reduceEqDiff,Nat.reduceAdd,Nat.reduceLeDiff,Nat.reduceLT,Nat.reduceSub]
  have aEY:=trB hO1 (ofA (L:=[.row 0 [] 3 true]))
  refine aP (fun(i:Nat) aQ H2=>i≤k∧Tb aN fW hi k (k+1) b g (Hx A bb k) H2∧(H.length≤H2.length∧∀b' g' x,(b'<fW∨hi≤b')→aG H b' g'=some x→aG H2 b' g'=some x)∧aG H2 H1.length i=some ((vec i X).map aN,3,true)∧aQ 0 = .ref b g 0 k c∧aQ 4=VI k∧aQ 10 = .ref H1.length i 0 i i∧aQ 11=VI i) (fun i=>k-i) 0
   ⟨aK8 _,hT1.pre (aMy _ _),aEY,lG,by (repeat' apply aMk)<;>first | rfl | trivial | assumption⟩ ?_
  clear g0 g4 g5
  rintro i ρ H2 ⟨qQ,R9,Rq,wM,g0,g4,g10,g11⟩
  have hb:=R9.lt
  have aHl:hi≤H1.length:=aKF hhi hO1.1
  by_cases bW:(i:Int)<(k:Int)
  ·have vA:i<k:=by omega
   have a2:=R9.addr (c:=c) vA
   obtain⟨rb2,rg2,rc2,d1,d2,d3,_⟩:=R9.spot (i:=i) (j:=k) vA (by omega) jE pV
   obtain⟨rb3,rg3,rc3,d4,d5,d6,_⟩:=R9.spot (i:=i) (j:=i) vA (by omega) jE pV
   have d3:=(d3 true).trans (cI _)
   have d6:=(d6 true).trans (cI _)
   rw[aaX] at d3
   rw[IN vA] at d6
   have QP:=Option.some.inj (d1.symm.trans d4)
   injection QP with h1 h2 _ _ h5
   subst h1 h2 h5
   have bii:=Ur.z.bits vA vA
   have bbi:=Ur.right hX (by omega) vA
   have ed:=F4 (bb i) (A i i) (Ur.u.2 i vA) (by omega) (by omega)
   rw[←Ur.done vA] at ed
   have eL:∀H,mV false [.bool false,.slice none 0 0,.slice none 0 0] 1 [(0,aN (X i))] H=some (.tree [aN (X i)] (.cl 3),H):=fun H=>iU rfl rfl rfl
   have eS:∀H,cW 3 (.tree [aN (X i)] (.cl 3)) H=some [aN (X i)]:=fun H=>eU rfl rfl
   have eP:=FJ (lo:=lo) (bytes:=56) (x:=X i) wM (by rw[jK]) (by have:=hO1.1;omega) (by decide) (by decide) (by omega)
   simp only[yN,g0,g4,g10,g11,bW,a2,d1,d2,d3,d4,d5,d6,ed,eL,eS,eP,wn i (by omega),dR,VX,Nat.reduceEqDiff,Nat.reduceAdd,Nat.reduceLeDiff,Nat.reduceLT,Nat.reduceSub]
   refine⟨i+1,by omega,by omega,R9.dB (jQ.set (by omega)),⟨by rw[List.length_set];exact Rq.1,fun b' g' x xM hx=>aX (by have:=iS hx;have:=hO1.1;omega) (Rq.2 b' g' x xM hx)⟩,by rw[CS];exact bQ wM,by (repeat' apply aMk)<;>first | rfl | trivial | assumption⟩
  ·have mH:i=k:=by omega
   subst mH
   simp only[yN,g4,g10,g11,bW,dR,VX,Nat.reduceEqDiff,Nat.reduceAdd,Nat.reduceLeDiff,Nat.reduceLT,Nat.reduceSub]
   exact⟨_,rfl,Rq.1,⟨H1.length,i,i,hO1.1,iS wM,by rw[jK],by rw[jK];exact aKE _,wM⟩,Rq.2⟩
end Go.PM
namespace Go.PM
open Go.Lib
def Zz (k:Nat) (A:Nat→Nat→Rat) (i a c:Nat):Rat:=if a<i then Hm (Nd k A) k A a c else A a c
def elC (k:Nat) (A:Nat→Nat→Rat) (i j a c:Nat):Rat:=if a=i∧c<j then Hm (Nd k A) k A i c else Zz k A i a c
def ZV (k:Nat) (A:Nat→Nat→Rat) (b:Nat→Rat) (i a:Nat):Rat:=if a<i then TV (Nd k A) k b a else b a
def bkR (A:Nat→Nat→Rat) (b X:Nat→Rat) (s i:Nat):Rat:=if s≤i then X i else b i
theorem R2 {k:Nat} {A:Nat→Nat→Rat} {a c:Nat} (h:a≤k):Hm (Nd k A) k A a c=A a c:=by
 unfold Hm Nd
 rw[if_neg (by omega),aOl]
 grind
theorem Rc {k:Nat} {A:Nat→Nat→Rat} {b:Nat→Rat} {a:Nat} (h:a≤k):TV (Nd k A) k b a=b a:=by
 unfold TV Nd
 rw[if_neg (by omega),aOl]
 grind
theorem afC {k:Nat} {A:Nat→Nat→Rat} {a c:Nat}:A a c=Zz k A (k+1) a c:=by
 unfold Zz
 split
 ·exact(R2 (by omega)).symm
 ·rfl
theorem acD {k:Nat} {A:Nat→Nat→Rat} {b:Nat→Rat} {a:Nat}:b a=ZV k A b (k+1) a:=by
 unfold ZV
 split
 ·exact(Rc (by omega)).symm
 ·rfl
section
variable {k i:Nat} {A:Nat→Nat→Rat} {b:Nat→Rat}
theorem SC {c:Nat}:Zz k A i i c=A i c:=if_neg (aOk _)
theorem ZR {c:Nat} (h:k<i):Zz k A i k c=A k c:=by
 unfold Zz
 rw[if_pos h,R2 (aKE _)]
theorem aqH:ZV k A b i i=b i:=if_neg (aOk _)
theorem arZ (h:k<i):ZV k A b i k=b k:=by
 unfold ZV
 rw[if_pos h,Rc (aKE _)]
theorem alE (h:A i k=0) {c:Nat}:Hm (Nd k A) k A i c=A i c:=by
 unfold Hm Nd
 split
 ·rw[h,Rat.div_def,aOl,aOl];grind
 ·rw[aOl];grind
theorem aoD (h:A i k=0):TV (Nd k A) k b i=b i:=by
 unfold TV Nd
 split
 ·rw[h,Rat.div_def,aOl,aOl];grind
 ·rw[aOl];grind
theorem aoC (h:A i k=0) {a c:Nat}:Zz k A i a c=Zz k A (i+1) a c:=by
 unfold Zz
 by_cases h1:a<i
 ·rw[if_pos h1,if_pos (by omega)]
 ·rw[if_neg h1]
  by_cases h2:a=i
  ·subst h2
   rw[if_pos (by omega),alE h]
  ·rw[if_neg (by omega)]
theorem alV (h:A i k=0) {a:Nat}:ZV k A b i a=ZV k A b (i+1) a:=by
 unfold ZV
 by_cases h1:a<i
 ·rw[if_pos h1,if_pos (by omega)]
 ·rw[if_neg h1]
  by_cases h2:a=i
  ·subst h2
   rw[if_pos (by omega),aoD h]
  ·rw[if_neg (by omega)]
theorem akD (h:k<i) {c:Nat}:Hm (Nd k A) k A i c=A i c-A i k / A k k*A k c:=by
 unfold Hm Nd
 rw[if_pos h]
theorem ayW (h:k<i):TV (Nd k A) k b i=b i-A i k / A k k*b k:=by
 unfold TV Nd
 rw[if_pos h]
theorem abM (hz:∀c,c<k→A k c=0) (h:k<i) {a c:Nat}:Zz k A i a c=elC k A i k a c:=by
 unfold elC
 by_cases h1:a=i∧c<k
 ·obtain⟨rfl,h2⟩:=h1
  rw[if_pos ⟨rfl,h2⟩,SC,akD h,hz c h2]
  grind
 ·rw[if_neg h1]
theorem amV {j a c:Nat}:PO (elC k A i j) i j (Hm (Nd k A) k A i j) a c=elC k A i (j+1) a c:=by
 unfold PO elC
 by_cases h1:a=i∧c=j
 ·obtain⟨rfl,rfl⟩:=h1
  rw[if_pos ⟨rfl,rfl⟩,if_pos ⟨rfl,by omega⟩]
 ·rw[if_neg h1]
  by_cases h2:a=i∧c<j
  ·rw[if_pos h2,if_pos ⟨h2.1,by omega⟩]
  ·rw[if_neg h2,if_neg (by omega)]
theorem aqN {n a c:Nat} (hc:c<n):elC k A i n a c=Zz k A (i+1) a c:=by
 unfold elC
 by_cases h1:a=i∧c<n
 ·obtain⟨rfl,_⟩:=h1
  rw[if_pos ⟨rfl,hc⟩]
  unfold Zz
  rw[if_pos (by omega)]
 ·rw[if_neg h1]
  unfold Zz
  by_cases h2:a<i
  ·rw[if_pos h2,if_pos (by omega)]
  ·rw[if_neg h2,if_neg (by omega)]
theorem atD {j:Nat}:elC k A i j i j=A i j:=by
 unfold elC
 rw[if_neg (by omega),SC]
theorem aqD {j c:Nat} (h:k<i):elC k A i j k c=A k c:=by
 unfold elC
 rw[if_neg (by omega),ZR h]
theorem agV {a:Nat}:zL (ZV k A b i) i (TV (Nd k A) k b i) a=ZV k A b (i+1) a:=by
 unfold zL ZV
 by_cases h1:a=i
 ·subst h1
  rw[if_pos rfl,if_pos (by omega)]
 ·rw[if_neg h1]
  by_cases h2:a<i
  ·rw[if_pos h2,if_pos (by omega)]
  ·rw[if_neg h2,if_neg (by omega)]
theorem aDy {m:Nat} {a:Nat}:zL (zL b k (b m)) m (b k) a=swp k m b a:=by
 unfold zL swp
 by_cases h1:a=m
 ·subst h1
  rw[if_pos rfl]
  by_cases h2:a=k
  ·subst h2;rw[if_pos rfl]
  ·rw[if_neg h2,if_pos rfl]
 ·rw[if_neg h1]
  by_cases h2:a=k
  ·rw[if_pos h2,if_pos h2]
  ·rw[if_neg h2,if_neg h2,if_neg h1]
end
set_option maxHeartbeats 16000000 in
set_option maxRecDepth 30000 in
theorem Sl {lo fW hi n b g c rb rg rc G η:Nat} {H:aA} {A0:Nat→Nat→Rat} {b0 X:Nat→Rat} (hS:Sy aF fW hi n b g rb rg A0 b0 H) (hU:XS n 0 G A0 b0 X) (hX:dG η n X) (hn:n≤12) (hG:2^n*(G+1)≤68719476736) (hη:η≤274877906944) (dS:lo≤fW) (A2:lo≤rb) (hlH:lo≤H.length) (hhi:hi≤H.length) (BZ:rb<H.length) :
  jD 118 [.ref b g 0 n c,.ref rb rg 0 n rc] lo H fun r H'=>r = .dW [.ref rb rg 0 n rc,VB true]∧C0 fW hi rb H H'∧Rw aF rb rg n X H':=by
 refine jD.walk ⟨true,false⟩ TG (aMs rfl) ?_
 have el:=hS.t.len (c:=c)
 simp only[Pn,JI,el,dR,VX,Nat.reduceEqDiff,Nat.reduceAdd,Nat.reduceLeDiff,Nat.reduceLT,Nat.reduceSub]
 have hgk:∀k,k≤n→gk G k≤68719476736:=fun k hk=>aKF (auX hk) hG
 have wn:∀k:Nat,k≤n→IntKind.i64.wrap ((k:Int)+1)=((k+1:Nat):Int):=fun k hk=>wN _ (by omega) (by omega)
 refine aP (fun(k:Nat) ρ H1=>k≤n∧(∃A bb,XS n k (gk G k) A bb X∧Sy aF fW hi n b g rb rg A bb H1)∧C0 fW hi rb H H1∧ρ 0 = .ref b g 0 n c∧ρ 1 = .ref rb rg 0 n rc∧ρ 6=VI n∧ρ 16=VI n∧ρ 17=VI k) (fun k=>n-k) 0
  ⟨aK8 _,⟨A0,b0,hU,hS⟩,C0.refl,by (repeat' apply aMk)<;>first | rfl | trivial | assumption⟩ ?_
 rintro k ρ H1 ⟨hk,⟨A,bb,Ur,hS1⟩,hO1,g0,g1,g6,g16,g17⟩
 by_cases TT:(k:Int)<(n:Int)
 ·
  have oM:k<n:=by omega
  obtain⟨pm,hp1,hp2,hp3⟩:=Ur.f.ahS oM Ur.u
  simp only[CP,g0,g1,g6,g16,g17,TT,dR,VX,Nat.reduceEqDiff,Nat.reduceAdd,Nat.reduceLeDiff,Nat.reduceLT,Nat.reduceSub]
  refine aP (fun(m:Nat) aQ H2=>H2=H1∧k≤m∧m≤n∧(∀r,k≤r→r<m→A r k=0)∧aQ 0 = .ref b g 0 n c∧aQ 1 = .ref rb rg 0 n rc∧aQ 6=VI n∧aQ 7=VI k∧aQ 8=VI m∧aQ 16=VI n∧aQ 17=VI k) (fun m=>n-m) k
   ⟨rfl,aKE _,hk,fun r h1 h2=>by omega,by (repeat' apply aMk)<;>first | rfl | trivial | assumption⟩ ?_
  clear g0 g1 g6 g16 g17
  rintro m ρ H2 ⟨rfl,hkm,hmn,hzero,g0,g1,g6,g7,g8,g16,g17⟩
  have hm:m<n:=by
   rcases aKH m n with h | h
   ·exact h
   ·exact absurd (hzero pm hp1 (by omega)) hp3
  have aiW:(m:Int)<(n:Int):=by omega
  have a1:=hS1.t.addr (c:=c) hm
  obtain⟨p1,q1,c1,c2,c3,_⟩:=hS1.spot hm oM dD fM
  have c3:=(c3 true).trans (bH _)
  have es:=dI (A m k)
  by_cases hz:jI (A m k)=0
  ·have CL:=zJ.1 hz
   simp only[CN,g0,g6,g7,g8,aiW,a1,c1,c2,c3,es,hz,wn m hmn,dR,VX,Nat.reduceEqDiff,Nat.reduceAdd,Nat.reduceLeDiff,Nat.reduceLT,Nat.reduceSub]
   exact⟨m+1,by omega,by omega,by omega,fun r h1 h2=>by
    rcases aKH r m with h | h
    ·exact hzero r h1 h
    ·rw[show r=m by omega]
     exact CL,by (repeat' apply aMk)<;>first | rfl | trivial | assumption⟩
  ·have hmk:A m k≠0:=fun h=>hz (zJ.2 h)
   have gF:¬(m:Int)=(n:Int):=by omega
   have Yy:=Ur.swp hkm hm
   have SB:swp k m A k k≠0:=by unfold Go.PM.swp;rw[if_pos rfl];exact hmk
   obtain⟨u,v,e1,e2,e3⟩:=hS1.t.swap oM hm
   obtain rfl:p1=v:=Option.some.inj (c1.symm.trans e2)
   obtain⟨Ha,Hb,e4,e5,e6,e7,e8,e9⟩:=e3 lo dS
   have ak:=hS1.t.addr (c:=c) oM
   have r1:=hS1.r.addr (c:=rc) hm
   have r2:=(hS1.r.get hm true).trans (bH _)
   have r3:=hS1.r.addr (c:=rc) oM
   have r4:=(hS1.r.get oM true).trans (bH _)
   have hSb:Sy aF fW hi n b g rb rg (Go.PM.swp k m A) bb Hb:=⟨e9,e8.2 _ _ _ hS1.d hS1.r,hS1.d⟩
   have r5:=hSb.r.addr (c:=rc) oM
   obtain⟨Hc,f1,f2,hSc⟩:=hSb.put oM A2 dD fM (bb m)
   have r6:=hSc.r.addr (c:=rc) hm
   obtain⟨Hd,f3,f4,hSd⟩:=hSc.put hm A2 dD fM (bb k)
   have hSd:=hSd.congr (fun _ _ _ _=>rfl) fun a _=>aDy (k:=k) (m:=m) (b:=bb)
   have hOd:C0 fW hi rb H Hd:=((hO1.trans e8.aCt).trans f2).trans f4
   generalize hA':Go.PM.swp k m A=A' at *
   generalize xM:Go.PM.swp k m bb=Iy at *
   simp only[CN,g0,g1,g6,g7,g8,aiW,a1,c1,c2,c3,es,hz,gF,e1,e2,e4,e5,e6,ak,r1,r2,r3,r4,r5,r6,f1,f3,wn k hk,bH,dR,VX,Nat.reduceEqDiff,Nat.reduceAdd,Nat.reduceLeDiff,Nat.reduceLT,Nat.reduceSub]
   refine aP (fun(i:Nat) aQ H2=>k+1≤i∧i≤n∧Sy aF fW hi n b g rb rg (Zz k A' i) (ZV k A' Iy i) H2∧C0 fW hi rb H H2∧aQ 0 = .ref b g 0 n c∧aQ 1 = .ref rb rg 0 n rc∧aQ 6=VI n∧aQ 7=VI k∧aQ 9=VI i∧aQ 16=VI n∧aQ 17=VI k) (fun i=>n-i) (k+1)
    ⟨aKE _,by omega,hSd.congr (fun _ _ _ _=>afC) fun _ _=>acD,hOd,by (repeat' apply aMk)<;>first | rfl | trivial | assumption⟩ ?_
   clear g0 g1 g6 g7 g8 g16 g17 hSd hOd f3 f4 r6 hSc f1 f2 r5 hSb
   rintro i ρ H2 ⟨hki,bW,hS2,Rq,g0,g1,g6,g7,g9,g16,g17⟩
   have hg:=hgk k hk
   by_cases Uq:(i:Int)<(n:Int)
   ·have vA:i<n:=by omega
    have a2:=hS2.t.addr (c:=c) vA
    obtain⟨p2,q2,d1,d2,d3,_⟩:=hS2.spot vA oM dD fM
    have d3:=(d3 true).trans (bH _)
    rw[SC] at d3
    have SE:=dI (A' i k)
    by_cases Nz:jI (A' i k)=0
    ·have CL:=zJ.1 Nz
     simp only[yZ,g0,g1,g6,g7,g9,Uq,a2,d1,d2,d3,SE,Nz,wn i bW,dR,VX,Nat.reduceEqDiff,Nat.reduceAdd,Nat.reduceLeDiff,Nat.reduceLT,Nat.reduceSub]
     exact⟨i+1,by omega,by omega,by omega,hS2.congr (fun _ _ _ _=>aoC CL) fun _ _=>alV CL,Rq,by (repeat' apply aMk)<;>first | rfl | trivial | assumption⟩
    ·have a3:=hS2.t.addr (c:=c) oM
     obtain⟨p3,q3,d4,d5,d6,_⟩:=hS2.spot oM oM dD fM
     have d6:=(d6 true).trans (bH _)
     rw[ZR (by omega)] at d6
     have bik:=Yy.z.bits vA oM
     have bkk:=Yy.z.bits oM oM
     have ef:=ED (A' i k) (A' k k) SB (by omega) (by omega)
     have bf:=GU (A' i k) (A' k k)
     have adE:rb<H2.length:=iS (x:=((vec n (ZV k A' Iy i)).map aF,3,true)) hS2.r
     have s1:=Jm (lo:=lo) (H:=H2) (q:=A' i k / A' k k) (by have:=Rq.1;omega)
     have rf:=(lG (H:=H2) (g:=0) (es:=[aF (A' i k / A' k k)]) (e:=3) (w:=true))
     have Xt:=hS2.app (L:=[.row 0 [aF (A' i k / A' k k)] 3 true])
     have hO3:=Rq.trans (C0.app (L:=[.row 0 [aF (A' i k / A' k k)] 3 true]))
     have hH2:hi≤H2.length:=aKF hhi Rq.1
     simp only[yZ,g0,g1,g6,g7,g9,Uq,a2,a3,d1,d2,d3,d4,d5,d6,SE,Nz,ef,s1,dR,VX,Nat.reduceEqDiff,Nat.reduceAdd,Nat.reduceLeDiff,Nat.reduceLT,Nat.reduceSub]
     generalize hfq:A' i k / A' k k=fq at *
     refine aP (fun(j:Nat) aQ H4=>k≤j∧j≤n∧Sy aF fW hi n b g rb rg (elC k A' i j) (ZV k A' Iy i) H4∧C0 fW hi rb H H4∧aG H4 H2.length 0=some ([aF fq],3,true)∧aQ 0 = .ref b g 0 n c∧aQ 1 = .ref rb rg 0 n rc∧aQ 6=VI n∧aQ 7=VI k∧aQ 9=VI i∧aQ 10 = .ptr H2.length 0 0 0∧aQ 11=VI j∧aQ 16=VI n∧aQ 17=VI k) (fun j=>n-j) k
      ⟨aKE _,hk,Xt.congr (fun _ _ _ _=>abM (fun c hc=>Yy.u.1 k c oM hc hc) (by omega)) fun _ _=>rfl,hO3,rf,by (repeat' apply aMk)<;>first | rfl | trivial | assumption⟩ ?_
     clear g0 g1 g6 g7 g9 g16 g17 Xt hO3 rf
     rintro j ρ H4 ⟨hkj,Eo,hS4,hO4,rf,g0,g1,g6,g7,g9,g10,g11,g16,g17⟩
     have lf:bF true 3 (.ptr H2.length 0 0 0) H4=some (aF fq):=by rw[bK,rf];exact bH _
     by_cases amS:(j:Int)<(n:Int)
     ·have Hg:j<n:=by omega
      have a4:=hS4.t.addr (c:=c) vA
      have a5:=hS4.t.addr (c:=c) oM
      obtain⟨p4,q4,t1,t2,t3,t4⟩:=hS4.spot vA Hg dD fM
      obtain⟨p5,q5,t5,t6,t7,_⟩:=hS4.spot oM Hg dD fM
      have t3:=(t3 true).trans (bH _)
      have t7:=(t7 true).trans (bH _)
      rw[atD] at t3
      rw[aqD (by omega)] at t7
      have bij:=Yy.z.bits vA Hg
      have bkj:=Yy.z.bits oM Hg
      have em:=lJ fq (A' k j) (by omega) (by omega)
      have bm:=jA fq (A' k j)
      have eS:=BF (A' i j) (fq*A' k j) (by omega) (by omega)
      have hel:A' i j-fq*A' k j=Hm (Nd k A') k A' i j:=by rw[akD (by omega),hfq]
      rw[hel] at eS
      obtain⟨H5,t8,t9,Yp⟩:=t4 lo (Hm (Nd k A') k A' i j) dS
      have Yp:=Yp.congr (fun _ _ _ _=>amV) fun _ _=>rfl
      have rf5:=t9.2 _ _ _ (by omega) (by omega) rf
      simp only[Cz,g0,g6,g7,g9,g10,g11,amS,a4,a5,t1,t2,t3,t5,t6,t7,t8,lf,em,eS,wn j Eo,dR,VX,Nat.reduceEqDiff,Nat.reduceAdd,Nat.reduceLeDiff,Nat.reduceLT,Nat.reduceSub]
      exact⟨j+1,by omega,by omega,by omega,Yp,hO4.trans t9,rf5,by (repeat' apply aMk)<;>first | rfl | trivial | assumption⟩
     ·have Tw:j=n:=by omega
      subst Tw
      have hS4:=hS4.congr (fun _ c _ hc=>aqN hc) fun _ _=>rfl
      have r7:=hS4.r.addr (c:=rc) vA
      have r8:=(hS4.r.get vA true).trans (bH _)
      have r9:=hS4.r.addr (c:=rc) oM
      have r10:=(hS4.r.get oM true).trans (bH _)
      rw[aqH] at r8
      rw[arZ (by omega)] at r10
      have bbi:=Yy.right hX (by omega) vA
      have bbk:=Yy.right hX (by omega) oM
      have em:=lJ fq (Iy k) (by omega) (by omega)
      have bm:=jA fq (Iy k)
      have eS:=BF (Iy i) (fq*Iy k) (by omega) (by omega)
      have hel:Iy i-fq*Iy k=TV (Nd k A') k Iy i:=by rw[ayW (by omega),hfq]
      rw[hel] at eS
      obtain⟨H5,t8,t9,Yp⟩:=hS4.put vA A2 dD fM (TV (Nd k A') k Iy i)
      have Yp:=Yp.congr (fun _ _ _ _=>rfl) fun _ _=>agV
      simp only[Cz,g0,g1,g6,g7,g9,g10,g11,amS,r7,r8,r9,r10,lf,em,eS,t8,wn i bW,dR,VX,Nat.reduceEqDiff,Nat.reduceAdd,Nat.reduceLeDiff,Nat.reduceLT,Nat.reduceSub]
      exact⟨i+1,by omega,by omega,by omega,Yp,hO4.trans t9,by (repeat' apply aMk)<;>first | rfl | trivial | assumption⟩
   ·have mH:i=n:=by omega
    subst mH
    have hU3:=Yy.step SB oM
    simp only[yZ,g6,g9,g17,Uq,wn k hk,dR,VX,Nat.reduceEqDiff,Nat.reduceAdd,Nat.reduceLeDiff,Nat.reduceLT,Nat.reduceSub]
    exact⟨k+1,by omega,by omega,⟨_,_,hU3,hS2.congr (fun a _ ha _=>if_pos ha) fun a ha=>if_pos ha⟩,Rq,by (repeat' apply aMk)<;>first | rfl | trivial | assumption⟩
 ·have hke:k=n:=by omega
  subst hke
  have hg:=hgk k hk
  have w0:IntKind.i64.wrap ((k:Int)-1)=(k:Int)-1:=wrap64 (by omega) (by omega)
  simp only[CP,g0,g1,g6,g16,g17,TT,w0,dR,VX,Nat.reduceEqDiff,Nat.reduceAdd,Nat.reduceLeDiff,Nat.reduceLT,Nat.reduceSub]
  refine aP (fun(s:Nat) aQ H2=>s≤k∧Sy aF fW hi k b g rb rg A (bkR A bb X s) H2∧C0 fW hi rb H H2∧aQ 0 = .ref b g 0 k c∧aQ 1 = .ref rb rg 0 k rc∧aQ 6=VI k∧aQ 12=VI ((s:Int)-1)) (fun s=>s) k
   ⟨aKE _,hS1.congr (fun _ _ _ _=>rfl) fun a ha=>(if_neg (by omega)).symm,hO1,by (repeat' apply aMk)<;>first | rfl | trivial | assumption⟩ ?_
  clear g0 g1 g6 g16 g17
  rintro s ρ H2 ⟨hs,hS2,Rq,g0,g1,g6,g12⟩
  by_cases hs0:(0:Int)≤(s:Int)-1
  ·obtain⟨t,rfl⟩:∃t,s=t+1:=⟨s-1,by omega⟩
   have hx:((t+1:Nat):Int)-1=(t:Int):=by omega
   rw[hx] at g12 hs0
   have Rp:t<k:=by omega
   have hts:(0:Int)≤(t:Int):=by omega
   simp only[Cv,g0,g1,g6,g12,hts,wn t (by omega),dR,VX,Nat.reduceEqDiff,Nat.reduceAdd,Nat.reduceLeDiff,Nat.reduceLT,Nat.reduceSub]
   refine aP (fun(j:Nat) aQ H3=>t+1≤j∧j≤k∧Sy aF fW hi k b g rb rg A (zL (bkR A bb X (t+1)) t (bk A bb X t j)) H3∧C0 fW hi rb H H3∧aQ 0 = .ref b g 0 k c∧aQ 1 = .ref rb rg 0 k rc∧aQ 6=VI k∧aQ 12=VI t∧aQ 13=VI j) (fun j=>k-j) (t+1)
    ⟨aKE _,by omega,hS2.congr (fun _ _ _ _=>rfl) fun a ha=>by
     unfold zL
     by_cases h:a=t
     ·subst h
      rw[if_pos rfl,amK]
      unfold bkR
      exact if_neg (by omega)
     ·rw[if_neg h],Rq,by (repeat' apply aMk)<;>first | rfl | trivial | assumption⟩ ?_
   clear g0 g1 g6 g12
   rintro j ρ H3 ⟨htj,SQ,Xt,hO3,g0,g1,g6,g12,g13⟩
   by_cases Eo:(j:Int)<(k:Int)
   ·have Hg:j<k:=by omega
    have r7:=Xt.r.addr (c:=rc) Rp
    have r8:=(Xt.r.get Rp true).trans (bH _)
    have r9:=Xt.r.addr (c:=rc) Hg
    have r10:=(Xt.r.get Hg true).trans (bH _)
    rw[show zL (bkR A bb X (t+1)) t (bk A bb X t j) t=bk A bb X t j from if_pos rfl] at r8
    rw[show zL (bkR A bb X (t+1)) t (bk A bb X t j) j=X j by unfold zL bkR;rw[if_neg (by omega),if_pos (by omega)]] at r10
    have a4:=Xt.t.addr (c:=c) Rp
    obtain⟨p4,q4,t1,t2,t3,_⟩:=Xt.spot Rp Hg dD fM
    have t3:=(t3 true).trans (bH _)
    have btj:=Ur.z.bits Rp Hg
    have bxj:=hX.bits Hg
    have bp:=Ur.part hX (by omega) Rp htj SQ
    have em:=lJ (A t j) (X j) (by omega) (by omega)
    have bm:=jA (A t j) (X j)
    have eS:=BF (bk A bb X t j) (A t j*X j) (by omega) (by omega)
    rw[←arS] at eS
    obtain⟨H5,t8,t9,Yp⟩:=Xt.put Rp A2 dD fM (bk A bb X t (j+1))
    have Yp:=Yp.congr (fun _ _ _ _=>rfl) (Iy:=zL (bkR A bb X (t+1)) t (bk A bb X t (j+1))) fun a _=>by
     unfold zL
     by_cases h:a=t
     ·rw[if_pos h,if_pos h]
     ·rw[if_neg h,if_neg h,if_neg h]
    simp only[Ct,g0,g1,g6,g12,g13,Eo,r7,r8,r9,r10,a4,t1,t2,t3,em,eS,t8,wn j SQ,dR,VX,Nat.reduceEqDiff,Nat.reduceAdd,Nat.reduceLeDiff,Nat.reduceLT,Nat.reduceSub]
    exact⟨j+1,by omega,by omega,by omega,Yp,hO3.trans t9,by (repeat' apply aMk)<;>first | rfl | trivial | assumption⟩
   ·have Tw:j=k:=by omega
    subst Tw
    have r7:=Xt.r.addr (c:=rc) Rp
    have r8:=(Xt.r.get Rp true).trans (bH _)
    rw[show zL (bkR A bb X (t+1)) t (bk A bb X t j) t=bk A bb X t j from if_pos rfl] at r8
    have a4:=Xt.t.addr (c:=c) Rp
    obtain⟨p4,q4,t1,t2,t3,_⟩:=Xt.spot Rp Rp dD fM
    have t3:=(t3 true).trans (bH _)
    have btt:=Ur.z.bits Rp Rp
    have bp:=Ur.part hX (by omega) Rp htj (aKE _)
    have ed:=ED (bk A bb X t j) (A t t) (Ur.u.2 t Rp) (by omega) (by omega)
    rw[←Ur.back Rp] at ed
    obtain⟨H5,t8,t9,Yp⟩:=Xt.put Rp A2 dD fM (X t)
    have Yp:=Yp.congr (fun _ _ _ _=>rfl) (Iy:=bkR A bb X t) fun a _=>by
     unfold zL bkR
     by_cases h:a=t
     ·subst h;rw[if_pos rfl,if_pos (aKE _)]
     ·rw[if_neg h,if_neg h]
      by_cases h2:t+1≤a
      ·rw[if_pos h2,if_pos (by omega)]
      ·rw[if_neg h2,if_neg (by omega)]
    have wt:IntKind.i64.wrap ((t:Int)-1)=(t:Int)-1:=wrap64 (by omega) (by omega)
    simp only[Ct,g0,g1,g6,g12,g13,Eo,r7,r8,a4,t1,t2,t3,ed,t8,wt,dR,VX,Nat.reduceEqDiff,Nat.reduceAdd,Nat.reduceLeDiff,Nat.reduceLT,Nat.reduceSub]
    exact⟨t,by omega,by omega,Yp,hO3.trans t9,by (repeat' apply aMk)<;>first | rfl | trivial | assumption⟩
  ·have hse:s=0:=by omega
   subst hse
   simp only[Cv,g1,g12,hs0,dR,VX,Nat.reduceEqDiff,Nat.reduceAdd,Nat.reduceLeDiff,Nat.reduceLT,Nat.reduceSub]
   exact⟨Rq,hS2.r.congr fun a _=>if_pos (aK8 _)⟩
end Go.PM
namespace Go.PM
theorem ZA (q:Rat):q*((q.den:Int):Rat)=((q.num:Int):Rat):=by
 have h1:mkRat q.num q.den=q:=Rat.mkRat_self q
 rw[Rat.mkRat_eq_div] at h1
 have h2:((q.den:Nat):Rat)≠0:=by
  have:=q.den_nz
  exact_mod_cast this
 rw[Rat.intCast_natCast]
 grind
theorem common {β:Nat} {f:Nat→Rat}:∀ {K:Nat},(∀k,k<K→aL (f k)≤β)→∃s:Int,s≠0∧s.natAbs<2^(K*β+1)∧∀k,k<K→Da s (K*β+1) (f k)
 | 0,_=>⟨1,by decide,by simp,fun k hk=>absurd hk (Nat.not_lt_zero _)⟩
 |
  K+1,h=>by
  obtain⟨s,h1,h2,h3⟩:=common (K:=K) fun k hk=>h k (by omega)
  have hK:=h K (by omega)
  have hd:(f K).den<2^β:=aKG (HD _) (aMH (by decide) (aKF oA hK))
  have hn:(f K).num.natAbs<2^β:=aKG (HD _) (aMH (by decide) (aKF pZ hK))
  have e:2^((K+1)*β+1)=2^(K*β+1)*2^β:=by rw[←Nat.pow_add];congr 1;rw[aK9];omega
  have awT:((f K).den:Int)≠0:=by have:=(f K).den_nz;omega
  refine⟨s*((f K).den:Int),aOm h1 awT,?_,fun k hk => ?_⟩
  ·rw[aNi,e,aNj]
   exact aOd h2 hd
  ·by_cases hkK:k=K
   ·subst hkK
    refine⟨(f k).num*s,?_,?_⟩
    ·have hm:f k*(((f k).den:Int):Rat)=(((f k).num:Int):Rat):=ZA (f k)
     rw[aOe,aOe,←hm]
     grind
    ·rw[aNi,e,aL6]
     exact aOd h2 hn
   ·obtain⟨M,m1,m2⟩:=h3 k (by omega)
    refine⟨M*((f K).den:Int),?_,?_⟩
    ·rw[aOe,aOe,←m1]
     grind
    ·rw[aNi,e,aNj]
     exact aOd m2 hd
theorem dG.of {β n:Nat} {f:Nat→Rat} (h:∀k,k<n→aL (f k)≤β):dG (n*β+1) n f:=by
 obtain⟨s,h1,h2,h3⟩:=common h
 exact⟨s,h1,h2,h3⟩
theorem dG.wide {g h n:Nat} {f:Nat→Rat} (hf:dG g n f) (hg:g≤h):dG h n f:=by
 obtain⟨s,h1,h2,h3⟩:=hf
 exact⟨s,h1,aKG h2 (aMH (by decide) hg),fun i hi=>(h3 i hi).wide hg⟩
theorem dG.times {g h n:Nat} {f:Nat→Rat} {q:Rat} (hf:dG g n f) (hq:aL q≤h):dG (g+h) n fun i=>q*f i:=by
 obtain⟨s,h1,h2,h3⟩:=hf
 have hd:q.den<2^h:=aKG (HD _) (aMH (by decide) (aKF oA hq))
 have hn:q.num.natAbs<2^h:=aKG (HD _) (aMH (by decide) (aKF pZ hq))
 have awT:(q.den:Int)≠0:=by have:=q.den_nz;omega
 have hm:q*((q.den:Int):Rat)=((q.num:Int):Rat):=ZA q
 have Ob:Da (q.den:Int) h q:=⟨q.num,hm,hn⟩
 refine⟨s*(q.den:Int),aOm h1 awT,?_,fun i hi => ?_⟩
 ·rw[aNi,aNj,Nat.pow_add]
  exact aOd h2 hd
 ·have:=(h3 i hi).mul Ob
  rwa [Rat.mul_comm] at this
theorem atI {n β:Nat} {F:Nat→Nat→Rat} (h:∀i j,i<n→j<n→aL (F i j)≤β):∃s:Int,s≠0∧s.natAbs<2^(n*n*β+1)∧∀i j,i<n→j<n→Da s (n*n*β+1) (F i j):=by
 obtain⟨s,h1,h2,h3⟩:=common (K:=n*n) (f:=fun k=>F (k / n) (k % n)) fun k hk=>by
  have hn:0<n:=by
   cases n with
   | zero=>omega
   | succ n=>omega
  exact h _ _ (Nat.div_lt_of_lt_mul hk) (Nat.mod_lt _ hn)
 refine⟨s,h1,h2,fun i j hi hj => ?_⟩
 have hk:i*n+j<n*n:=by
  have:(i+1)*n≤n*n:=aK5 _ hi
  rw[aK9] at this
  omega
 have h4:=h3 (i*n+j) hk
 have e1:(i*n+j) / n=i:=by rw[aL6,Nat.mul_add_div (by omega),Nat.div_eq_of_lt hj,Nat.add_zero]
 have e2:(i*n+j) % n=j:=by rw[aL6,Nat.mul_add_mod,Nat.mod_eq_of_lt hj]
 simp only[e1,e2] at h4
 exact h4
theorem BV.aqW {n g:Nat} {A:Nat→Nat→Rat} (hF:BV n A) (hS:qL g n n A) (hn:n≤16):∀(b:Nat→Rat) (h:Nat),dG h n b→∃X,fL n A b X∧dG (h+(n*n*(2*(2^n*(g+1)))+5)) n X:=by
 have aB2:∀j,∃X,fL n A (fun i=>if i=j then 1 else 0) X∧∀i,i<n→aL (X i)≤2*(2^n*(g+1)):=fun j=>by
  have hF':BV n (fun a c=>if c<n then A a c else if a=j then 1 else 0):=fun x hx=>hF x fun i hi=>by
   rw[←hx i hi]
   exact iI fun c hc=>by simp only[hc,if_true]
  have hS':qL g n (n+1) (fun a c=>if c<n then A a c else if a=j then 1 else 0):=by
   obtain⟨s,h1,h2,h3⟩:=hS
   refine⟨s,h1,h2,fun a c ha hc => ?_⟩
   by_cases hcn:c<n
   ·simp only[hcn,if_true]
    exact h3 a c ha hcn
   ·simp only[hcn,if_false]
    by_cases haj:a=j
    ·simp only[haj,if_true]
     exact⟨s,by rw[Rat.one_mul],h2⟩
    ·simp only[haj,if_false]
     exact Da.zero
  obtain⟨X,x1,x2⟩:=hF'.alI hS'
  refine⟨X,fun i hi => ?_,x2⟩
  have h:=x1 i hi
  have e:Sg (fun c=>(if c<n then A i c else if i=j then 1 else 0)*X c) n=Sg (fun c=>A i c*X c) n:=iI fun c hc=>by simp only[hc,if_true]
  rw[e] at h
  rw[h]
  simp[rhs]
 obtain⟨C,hC⟩:∃C:Nat→Nat→Rat,∀j,fL n A (fun i=>if i=j then 1 else 0) (C j)∧∀i,i<n→aL (C j i)≤2*(2^n*(g+1)):=⟨fun j=>Classical.choose (aB2 j),fun j=>Classical.choose_spec (aB2 j)⟩
 obtain⟨s,s1,s2,s3⟩:=atI (n:=n) (F:=fun i j=>C j i) fun i j hi hj=>(hC j).2 i hi
 intro b h hb
 obtain⟨t,t1,t2,t3⟩:=hb
 refine⟨fun i=>Sg (fun j=>C j i*b j) n,fun i hi => ?_,s*t,aOm s1 t1,?_,fun i hi => ?_⟩
 ·have e:Sg (fun i'=>A i i'*Sg (fun j=>C j i'*b j) n) n=Sg (fun j=>b j*Sg (fun i'=>A i i'*C j i') n) n:=by
   have e1:Sg (fun i'=>A i i'*Sg (fun j=>C j i'*b j) n) n=Sg (fun i'=>Sg (fun j=>A i i'*(C j i'*b j)) n) n:=iI fun i' _=>(IF _ _ _).symm
   rw[e1,arR]
   refine iI fun j _ => ?_
   rw[←IF]
   exact iI fun i' _=>by grind
  rw[e,Of (k:=i) hi fun j hj Ee=>by rw[(hC j).1 i hi];simp only[];rw[if_neg (by omega)];grind,(hC i).1 i hi]
  simp only[if_true]
  grind
 ·rw[aNi]
  have h2:s.natAbs*t.natAbs<2^(n*n*(2*(2^n*(g+1)))+1)*2^h:=aOd s2 t2
  rw[←Nat.pow_add] at h2
  exact aKG h2 (aMH (by decide) (by omega))
 ·exact(Da.ahC hn fun j hj=>(s3 i j hi hj).mul (t3 j hj)).wide (by omega)
theorem aAL {f:Nat→Rat} {n:Nat} (h:∀i,i<n→0≤f i) {j:Nat} (hj:j<n):f j≤Sg f n:=by
 induction n with
 | zero=>omega
 |
  succ n ih =>
  have h0:=RF fun i (hi:i<n)=>h i (by omega)
  have hn:=h n (by omega)
  rw[Sg]
  by_cases Eo:j=n
  ·subst Eo;grind
  ·have:=ih (fun i hi=>h i (by omega)) (by omega)
   grind
theorem anC (x:Nat→Rat):∀n,1≤n→∃m,m<n∧∀j,j<n→x j≤x m
 |
  n+1,_=>by
  by_cases hn:n=0
  ·subst hn
   exact⟨0,by decide,fun j hj=>by rw[show j=0 by omega];exact aOa⟩
  ·obtain⟨m,h1,h2⟩:=anC x n (by omega)
   by_cases h:x m≤x n
   ·exact⟨n,by omega,fun j hj=>by
     by_cases Eo:j=n
     ·subst Eo;exact aOa
     ·exact Rat.le_trans (h2 j (by omega)) h⟩
   ·exact⟨m,by omega,fun j hj=>by
     by_cases Eo:j=n
     ·subst Eo
      have:=Rat.not_le.1 h
      grind
     ·exact h2 j (by omega)⟩
def svA (n:Nat) (G:Nat→Nat→Rat) (E:Nat→Rat) (r:Rat) (i j:Nat):Rat:=(if j=i then Sg (G i) n+E i+r else 0)-G i j
theorem arM {n:Nat} {G:Nat→Nat→Rat} {E x:Nat→Rat} {r:Rat} {i:Nat} (hi:i<n):Sg (fun j=>svA n G E r i j*x j) n=(Sg (G i) n+E i+r)*x i-Sg (fun j=>G i j*x j) n:=by
 have e:Sg (fun j=>svA n G E r i j*x j) n=Sg (fun j=>if j=i then (Sg (G i) n+E i+r)*x i else 0) n-Sg (fun j=>G i j*x j) n:=by
  rw[←Tt]
  refine iI fun j _ => ?_
  unfold svA
  by_cases h:j=i
  ·subst h
   rw[if_pos rfl,if_pos rfl]
   grind
  ·rw[if_neg h,if_neg h]
   grind
 rw[e,Of (k:=i) hi fun j _ hj=>if_neg hj,if_pos rfl]
theorem Re {n:Nat} {G:Nat→Nat→Rat} {E x:Nat→Rat} {r M:Rat} (hG:∀i j,0≤G i j) (hE:∀i,0≤E i) (hr:0≤r) (hx:fL n (svA n G E r) (fun _=>0) x) (hM:0<M) (hle:∀j,j<n→x j≤M) {i:Nat} (hi:i<n) (hxi:x i=M) :
  E i=0∧∀j,j<n→0<G i j→x j=M:=by
 have h1:=hx i hi
 rw[arM hi,hxi] at h1
 have h2:Sg (fun j=>G i j*(M-x j)) n+(E i+r)*M=0:=by
  have e:Sg (fun j=>G i j*(M-x j)) n=M*Sg (G i) n-Sg (fun j=>G i j*x j) n:=by
   rw[←IF,←Tt]
   exact iI fun j _=>by grind
  rw[e]
  grind
 have h3:∀j,j<n→0≤G i j*(M-x j):=fun j hj=>aOn (hG i j) (by have:=hle j hj;grind)
 have h4:=RF h3
 have hEi:=hE i
 have h5:0≤E i*M:=aOn hEi (Rat.le_of_lt hM)
 have h6:0≤r*M:=aOn hr (Rat.le_of_lt hM)
 refine⟨?_,fun j hj hg => ?_⟩
 ·have h7:E i*M=0:=by grind
  rcases Rat.mul_eq_zero.1 h7 with h | h
  ·exact h
  ·grind
 ·have h7:=aAL h3 hj
  have h8:G i j*(M-x j)=0:=by have:=h3 j hj;grind
  rcases Rat.mul_eq_zero.1 h8 with h | h
  ·grind
  ·grind
theorem atA {n:Nat} {A:Nat→Nat→Rat} {x:Nat→Rat} (hx:fL n A (fun _=>0) x):fL n A (fun _=>0) fun i => -x i:=fun i hi=>by
 have e:Sg (fun j=>A i j * -x j) n=(-1)*Sg (fun j=>A i j*x j) n:=by
  rw[←IF]
  exact iI fun j _=>by grind
 rw[e,hx i hi]
 grind
theorem aiC {n:Nat} {G:Nat→Nat→Rat} {E:Nat→Rat} {r:Rat} (hG:∀i j,0≤G i j) (hE:∀i,0≤E i) (hr:0≤r)
  (wM:∀S:Nat→Prop,(∀i j,i<n→j<n→S i→0<G i j→S j)→(∀i,i<n→S i→E i=0)→∀i,i<n→¬S i):BV n (svA n G E r):=by
 have half:∀x,fL n (svA n G E r) (fun _=>0) x→∀j,j<n→x j≤0:=fun x hx j hj=>by
  obtain⟨m,m1,m2⟩:=anC x n (by omega)
  refine Rat.not_lt.1 fun lR => ?_
  have hM:0<x m:=by have:=m2 j hj;grind
  refine wM (fun i=>x i=x m) (fun i k hi hk hS hg=>(Re hG hE hr hx hM m2 hi hS).2 k hk hg) (fun i hi hS=>(Re hG hE hr hx hM m2 hi hS).1) m m1 rfl
 intro x hx j hj
 have h1:=half x hx j hj
 have h2 : -x j≤0:=half _ (atA hx) j hj
 grind
section
variable {g:List (List Rat)} {e:List Rat} {n:Nat} {S:Nat→Prop}
def noS (S:Nat→Prop) (st:List Bool):Prop:=∀i,S i→st.getD i false=false
theorem aaY {st:List Bool} {i:Nat} {v:Bool} (h:noS S st) (hv:S i→v=false):noS S (st.set i v):=fun k hk=>by
 rw[aKB,List.getElem?_set]
 by_cases WJ:i=k
 ·subst WJ
  rw[if_pos rfl]
  by_cases hl:i<st.length
  ·rw[if_pos hl];exact hv hk
  ·rw[if_neg hl];rfl
 ·rw[if_neg WJ]
  have:=h k hk
  rwa [aKB] at this
theorem Ju {f:List Bool→Nat→List Bool} {st:List Bool} (h:noS S st):∀m,(∀st j,j<m→noS S st→noS S (f st j))→noS S ((List.range m).foldl f st)
 | 0,_=>h
 |
  m+1,hf=>by
  rw[sB]
  exact hf _ m (by omega) (Ju h m fun st j hj=>hf st j (by omega))
theorem akU (mM:∀i j,S i→j<n→0<(g.getD i []).getD j 0→S j) (he:∀i,S i→¬0<e.getD i 0) (m:Nat):noS S (qJ g e n m):=by
 refine Ju (fun i _ => ?_) m fun st _ _ h => ?_
 ·rw[aKB,List.getElem?_replicate]
  split<;>rfl
 ·refine Ju h n fun st i _ h => ?_
  unfold MH QW
  refine Ju (aaY h fun hi => ?_) n fun st j hj h => ?_
  ·rw[h i hi,decide_eq_false (he i hi)]
   rfl
  ·refine aaY h fun hi => ?_
   rw[h i hi,Bool.false_or]
   by_cases hg:0<(g.getD i []).getD j 0
   ·rw[h j (mM i j hi hj hg),Bool.and_false]
   ·rw[decide_eq_false hg]
    rfl
end
end Go.PM
namespace Go.PM
theorem Da.add {s:Int} {g:Nat} {a b:Rat} (ha:Da s g a) (hb:Da s g b):Da s (g+1) (a+b):=by
 obtain⟨M,m1,m2⟩:=ha
 obtain⟨N,n1,n2⟩:=hb
 refine⟨M+N,by rw[Rat.add_mul,m1,n1,Rat.intCast_add],?_⟩
 have:=Int.natAbs_add_le M N
 rw[Nat.pow_succ]
 omega
theorem Da.neg {s:Int} {g:Nat} {a:Rat} (ha:Da s g a):Da s g (-a):=by
 obtain⟨M,m1,m2⟩:=ha
 exact⟨-M,by rw[Rat.neg_mul,m1,Rat.intCast_neg],by rw[Int.natAbs_neg];exact m2⟩
theorem dG.congr {h n:Nat} {X Y:Nat→Rat} (hX:dG h n X) (he:∀i,i<n→X i=Y i):dG h n Y:=by
 obtain⟨t,h1,h2,h3⟩:=hX
 exact⟨t,h1,h2,fun i hi=>by rw[←he i hi];exact h3 i hi⟩
abbrev FP:=List Rat×List (List Rat)×List Rat
def gE (g:List (List Rat)) (i j:Nat):Rat:=(g.getD i []).getD j 0
def eE (e:List Rat) (i:Nat):Rat:=e.getD i 0
def Qs (x:FP) (r:Rat):Nat→Nat→Rat:=svA x.1.length (gE x.2.1) (eE x.2.2) r
structure nN (x:FP):Prop where
 n:1≤x.1.length∧x.1.length≤6
 g:x.2.1.length=x.1.length
 e:x.2.2.length=x.1.length
 w:kE x.1=true
 wb:∀q∈x.1,aL q≤665
 gr:∀r∈x.2.1,r.length=x.1.length∧∀q∈r,0≤q∧aL q≤665
 er:∀q∈x.2.2,0≤q∧aL q≤665
 gd:∀i,gE x.2.1 i i=0
 ok:EW x=true
theorem CV {P:Rat→Prop} {u:List Rat} (h:∀q∈u,P q) (h0:P 0) (i:Nat):P (u.getD i 0):=by
 rw[aKB]
 cases hu:u[i]? with
 | none=>exact h0
 | some q=>exact h q (aLy hu)
section
variable {x:FP} (hx:nN x)
include hx
theorem nN.Xr {P:Rat→Prop} (h:∀q,0≤q∧aL q≤665→P q) (i j:Nat):P (gE x.2.1 i j):=by
 refine h _ ?_
 unfold gE
 have h0:(0:Rat)≤0∧aL 0≤665:=⟨aOa,by rw[rH];decide⟩
 rw[aKB (l:=x.2.1)]
 cases hr:x.2.1[i]? with
 | none=>exact CV (P:=fun q=>0≤q∧aL q≤665) (u:=[]) (fun q hq=>by cases hq) h0 j
 | some r=>exact CV (P:=fun q=>0≤q∧aL q≤665) (hx.gr r (aLy hr)).2 h0 j
theorem nN.XW {P:Rat→Prop} (h:∀q,0≤q∧aL q≤665→P q) (i:Nat):P (eE x.2.2 i) :=
 h _ (CV (P:=fun q=>0≤q∧aL q≤665) hx.er ⟨aOa,by rw[rH];decide⟩ i)
theorem nN.apM {r:Rat} (hr:0≤r):BV x.1.length (Qs x r):=by
 refine aiC (hx.Xr fun q h=>h.1) (hx.XW fun q h=>h.1) hr fun S h1 h2 i hi hS => ?_
 have hno:=akU (g:=x.2.1) (e:=x.2.2) (n:=x.2.2.length) (S:=fun i=>i<x.1.length∧S i) (fun i j hi hj hg=>⟨by rw[←hx.e];exact hj,h1 i j hi.1 (by rw[←hx.e];exact hj) hi.2 hg⟩) (fun i hi h=>by
  have:=h2 i hi.1 hi.2
  unfold eE at this
  rw[this] at h
  exact absurd h (by decide)) x.2.2.length i ⟨hi,hS⟩
 have jO:=aKS.1 hx.ok
 have hlen:=DS x.2.1 x.2.2 x.2.2.length x.2.2.length
 obtain⟨v,xQ⟩:∃v,(qJ x.2.1 x.2.2 x.2.2.length x.2.2.length)[i]? = some v:=⟨_,aKL (by rw[hlen,hx.e];exact hi)⟩
 rw[aKB,xQ,aNS] at hno
 have:=jO _ (aLy xQ)
 rw[hno] at this
 cases this
theorem nN.scaled {r:Rat} {K:Nat} (hK:K=43) (hr:aL r≤665):qL (K*665+9) x.1.length x.1.length (Qs x r):=by
 obtain⟨s,h1,h2,h3⟩:=common (β:=665) (K:=K) (f:=fun k=>if k<36 then gE x.2.1 (k / 6) (k % 6) else if k<42 then eE x.2.2 (k-36) else r) fun k hk=>by
  split
  ·exact hx.Xr (fun q h=>h.2) _ _
  ·split
   ·exact hx.XW (fun q h=>h.2) _
   ·exact hr
 have hn:=hx.n
 have kg:∀i j,i<6→j<6→Da s (K*665+1) (gE x.2.1 i j):=fun i j hi hj=>by
  have h:=h3 (i*6+j) (by omega)
  rw[if_pos (by omega)] at h
  have e1:(i*6+j) / 6=i:=by omega
  have e2:(i*6+j) % 6=j:=by omega
  rw[e1,e2] at h
  exact h
 have ke:∀i,i<6→Da s (K*665+1) (eE x.2.2 i):=fun i hi=>by
  have h:=h3 (36+i) (by omega)
  rw[if_neg (by omega),if_pos (by omega),show 36+i-36=i by omega] at h
  exact h
 have kr:Da s (K*665+1) r:=by
  have h:=h3 42 (by omega)
  rw[if_neg (by omega),if_neg (by omega)] at h
  exact h
 refine⟨s,h1,aKG h2 (aMH (by decide) (by omega)),fun i j hi hj => ?_⟩
 unfold Qs svA
 have e:∀a b:Rat,a-b=a + -b:=fun a b=>Rat.sub_eq_add_neg a b
 rw[e]
 have Xz:Da s (K*665+5) (Sg (gE x.2.1 i) x.1.length):=Da.ahC (by omega) fun j hj=>kg i j (by omega) (by omega)
 have hd:Da s (K*665+8) (if j=i then Sg (gE x.2.1 i) x.1.length+eE x.2.2 i+r else 0):=by
  split
  ·exact((Xz.add ((ke i (by omega)).wide (by omega))).add (kr.wide (by omega))).wide (by omega)
  ·exact Da.zero
 exact(hd.add ((kg i j (by omega) (by omega)).neg.wide (by omega)))
theorem nN.step {γ:Nat} (Zc:γ=132000000) {r:Rat} (h0:0≤r) (hr:aL r≤665) {b:Nat→Rat} {h:Nat} (hb:dG h x.1.length b):∃X,fL x.1.length (Qs x r) b X∧dG (h+γ) x.1.length X:=by
 have hn:=hx.n
 obtain⟨K,hK⟩:∃K,K=43:=⟨43,rfl⟩
 obtain⟨X,h1,h2⟩:=(hx.apM h0).aqW (hx.scaled hK hr) (by omega) b h hb
 refine⟨X,h1,h2.wide ?_⟩
 have e1:2^x.1.length≤2^6:=aMH (by decide) hn.2
 have e2:2^x.1.length*(K*665+9+1)≤2^6*(K*665+9+1):=aK5 _ e1
 have e3:x.1.length*x.1.length≤6*6:=Nat.mul_le_mul hn.2 hn.2
 have e4:x.1.length*x.1.length*(2*(2^x.1.length*(K*665+9+1)))≤6*6*(2*(2^6*(K*665+9+1))):=Nat.mul_le_mul e3 (Nat.mul_le_mul_left _ e2)
 have e5:6*6*(2*(2^6*(K*665+9+1)))=4608*(K*665+10):=by rw[show (2:Nat)^6=64 by decide];omega
 omega
omit hx in
end
open Classical in
noncomputable def anB (n:Nat) (A:Nat→Nat→Rat) (b:Nat→Rat):Nat→Rat:=if h:∃X,fL n A b X then Classical.choose h else fun _=>0
theorem UD {n:Nat} {A:Nat→Nat→Rat} {b:Nat→Rat} (h:∃X,fL n A b X):fL n A b (anB n A b):=by
 unfold anB
 rw[dif_pos h]
 exact Classical.choose_spec h
noncomputable def xH (x:FP):Nat→Nat→Rat
 | 0=>fun _=>1
 | k+1=>anB x.1.length (Qs x 0) (xH x k)
def kS:Nat→Rat
 | 0=>1
 | k+1=>kS k*((k+1:Nat):Int)
def rZ (b:List Rat) (X:Nat→Rat) (n:Nat):Rat:=Sg (fun i=>b.getD i 0*X i) n
noncomputable def C5 (x:FP) (k:Nat):Rat:=rZ x.1 (xH x k) x.1.length*kS k
theorem nN.sol {γ:Nat} (Zc:γ=132000000) {x:FP} (hx:nN x) {r:Rat} (h0:0≤r) (hr:aL r≤665) {b:Nat→Rat} {h:Nat} (hb:dG h x.1.length b):fL x.1.length (Qs x r) b (anB x.1.length (Qs x r) b)∧dG (h+γ) x.1.length (anB x.1.length (Qs x r) b):=by
 obtain⟨X,h1,h2⟩:=hx.step Zc h0 hr hb
 have h3:=UD ⟨X,h1⟩
 exact⟨h3,h2.congr fun i hi=>(hx.apM h0).uniq h1 h3 i hi⟩
theorem rz0:aL (0:Rat)≤665:=by rw[rH];decide
theorem nN.mom {γ:Nat} (Zc:γ=132000000) {x:FP} (hx:nN x):∀k,dG (2+γ*k) x.1.length (xH x k)
 | 0=>⟨1,by decide,Nat.one_lt_two_pow (by omega),fun i _=>⟨1,by show (1:Rat)*_=_;rw[Rat.one_mul],Nat.one_lt_two_pow (by omega)⟩⟩
 | k+1=>((nN.sol Zc hx aOa rz0 (nN.mom Zc hx k)).2).wide (by rw[Nat.mul_add_one];omega)
theorem nN.O8 {x:FP} (hx:nN x) (k:Nat):fL x.1.length (Qs x 0) (xH x k) (xH x (k+1)):=(nN.sol rfl hx aOa rz0 (nN.mom rfl hx k)).1
theorem Br:∀k,k≤6→aL (kS k)≤40
 | 0,_=>by show aL 1≤_;rw[AR];decide
 |
  k+1,hk=>by
  have h:∀k,k≤6→aL (kS k)≤1+5*k:=by
   intro k
   induction k with
   | zero=>intro _;show aL 1≤_;rw[AR];decide
   |
    succ k ih =>
    intro hk
    have h1:=ih (by omega)
    have h2:=jA (kS k) ((k+1:Nat):Int)
    have h3:aL (((k+1:Nat):Int):Rat)≤5:=by
     have h4:=Gw ((k+1:Nat):Int)
     have h5:bl (k+1)≤5:=zS (by omega)
     rw[aNj] at h4
     omega
    show aL (kS k*_)≤_
    omega
  have:=h (k+1) hk
  omega
theorem Vm {f:Nat→Rat} {B n:Nat} (h:∀i,i<n→aL (f i)≤B):∀m,m≤n→aL (Sg f m)≤m*(B+1)+1
 | 0,_=>by show aL 0≤_;rw[rH];omega
 |
  m+1,hm=>by
  have h1:=Vm h m (by omega)
  have h2:=vD (Sg f m) (f m)
  have h3:=h m (by omega)
  rw[Sg,aK9]
  omega
theorem nN.begun {x:FP} (hx:nN x) {X:Nat→Rat} {h:Nat} (hX:dG h x.1.length X):∀m,m≤x.1.length→aL (rZ x.1 X m)≤6*(h+666)+1:=fun m hm=>by
 have h1:=Vm (f:=fun i=>x.1.getD i 0*X i) (B:=665+h) (n:=x.1.length) (fun i hi=>by
  have h2:=jA (x.1.getD i 0) (X i)
  have h3:=hX.bits hi
  have h4:aL (x.1.getD i 0)≤665:=CV (P:=fun q=>aL q≤665) hx.wb rz0 i
  omega) m hm
 have hn:=hx.n
 have h2:m*(665+h+1)≤6*(665+h+1):=aK5 _ (by omega)
 unfold rZ
 omega
theorem nN.Kg {x:FP} (hx:nN x) {k:Nat} (hk:k≤6):aL (C5 x k)≤5000000000:=by
 obtain⟨γ,Zc⟩:∃γ,γ=132000000:=⟨132000000,rfl⟩
 have h1:=hx.begun (nN.mom Zc hx k) x.1.length (aKE _)
 have h0:γ*k≤γ*6:=Nat.mul_le_mul_left _ hk
 have h2:=jA (rZ x.1 (xH x k) x.1.length) (kS k)
 have h3:=Br k hk
 unfold C5
 omega
end Go.PM
namespace Go.PM
open Go.Lib
theorem ZC {qs:List Rat}:dN qs=Sg (fun i=>qs.getD i 0) qs.length:=by
 have key:∀(n:Nat) (f:Nat→Rat),dN (vec n f)=Sg f n:=fun n f=>by
  induction n with
  | zero=>rfl
  |
   succ n ih =>
   rw[CS,Sg,←ih]
   unfold dN
   rw[List.foldl_append]
   rfl
 rw[←key,←azS]
theorem XA {g:List (List Rat)} {i:Nat} (hi:i<g.length):∃r,g[i]? = some r∧∀j,gE g i j=r.getD j 0:=by
 refine⟨g[i],aKL hi,fun j => ?_⟩
 unfold gE
 rw[aKB (l:=g),aKL hi]
 rfl
abbrev GF (x:FP):VV:=CJ aF x.1 x.2.1 x.2.2
section
variable {x:FP} (hx:nN x)
include hx
theorem IC (i:Nat) (hi:i<x.1.length):TC 136 [GF x,VI i] (aF (Sg (gE x.2.1 i) x.1.length+eE x.2.2 i)):=by
 refine TC.walk ⟨true,false⟩ Gs rfl (aMs rfl) (Ak (K0 _ _ _) rfl) (pX _) ?_
 obtain⟨r,hr,hg⟩:=XA (g:=x.2.1) (i:=i) (by rw[hx.g];exact hi)
 have Md:=hx.gr r (aLy hr)
 obtain⟨q,hq⟩:∃q,x.2.2[i]? = some q:=⟨_,aKL (by rw[hx.e];exact hi)⟩
 have hqm:=hx.er q (aLy hq)
 have hn:=hx.n
 have he:eE x.2.2 i=q:=by unfold eE;rw[aKB,hq];rfl
 have hs:Sg (gE x.2.1 i) x.1.length=dN r:=by
  rw[ZC,Md.1]
  exact iI fun j _=>hg j
 rw[he,hs]
 have a1:=fun H=>aH (f:=aC aF) (t := .op) (H:=H) (size:=1) (k := .i64) hr rfl
 have a2:=fun H=>aH (f:=aF) (t := .op) (H:=H) (size:=3) (k := .i64) hq rfl
 have l1:∀K,bF false 1 (.cG (GF x) 1) K=some (aC (aC aF) x.2.1):=fun K=>rfl
 have l2:∀K,bF false 1 (.cG (GF x) 2) K=some (aC aF x.2.2):=fun K=>rfl
 have l3:∀K,bF false 1 (.cG (aC aF r) 0) K=some (aC aF r):=fun K=>rfl
 have jO:(aB (GF x)).all bP=true:=rfl
 have hsb:=D2 (B:=665) (n:=6) (fun q hq=>(Md.2 q hq).2) (by omega)
 have e1:=oJ (dN r) q (by omega) (by omega)
 simp only[Bs,zX,jO,if_true,l1,l2,l3,a1,a2,dR,VX,Nat.reduceEqDiff,Nat.reduceAdd,Nat.reduceLeDiff,Nat.reduceLT,Nat.reduceSub]
 refine sA rfl (PK (v:=aC aF r) r (B:=665) (Rd.tree dD) (aKE _) (fun q hq=>(Md.2 q hq).2) (by omega) (by decide) (by omega)) fun y L hy => ?_
 subst hy
 have s1:bL 0 3 (.ptr 0 0 0 0) (aF (dN r+q)) ([cell0]++L)=some ([.row 0 [aF (dN r+q)] 3 true]++L):=by
  have Kk:aG ([cell0]++L) 0 0=some ([VV.agg [VB false,.tree [] .nil,.tree [] .nil]],3,true):=rfl
  rw[bS (e:=3) Kk (by exact aNW) (aKE _) (dD _) (fM _)]
  rfl
 have l4:bF true 3 (.ptr 0 0 0 0) ([.row 0 [aF (dN r+q)] 3 true]++L)=some (aF (dN r+q)):=by
  have Kk:aG ([fO.row 0 [aF (dN r+q)] 3 true]++L) 0 0=some ([aF (dN r+q)],3,true):=rfl
  rw[bK,Kk]
  exact bH _
 simp only[l2,a2,bH,e1,s1,l4,dR,VX,Nat.reduceEqDiff,Nat.reduceAdd,Nat.reduceLeDiff,Nat.reduceLT,Nat.reduceSub]
 exact aJ (fV _)
end
def mP (G:Nat→Nat→Rat) (i j a c:Nat):Rat:=if a<i∨(a=i∧c<j) then -G a c else 0
def mD (n:Nat) (G:Nat→Nat→Rat) (E:Nat→Rat) (r:Rat) (i a c:Nat):Rat:=if a=c∧a<i then svA n G E r a c else -G a c
section
variable {n:Nat} {G:Nat→Nat→Rat} {E:Nat→Rat} {r:Rat}
theorem aqG {a c:Nat}:(0:Rat)=mP G 0 0 a c:=by unfold mP;rw[if_neg (by omega)]
theorem aAa {i j a c:Nat}:PO (mP G i j) i j (-G i j) a c=mP G i (j+1) a c:=by
 unfold PO mP
 by_cases h:a=i∧c=j
 ·obtain⟨rfl,rfl⟩:=h
  rw[if_pos ⟨rfl,rfl⟩,if_pos (by omega)]
 ·rw[if_neg h]
  by_cases h2:a<i∨(a=i∧c<j)
  ·rw[if_pos h2,if_pos (by omega)]
  ·rw[if_neg h2,if_neg (by omega)]
theorem azE {i a c:Nat} (hc:c<n):mP G i n a c=mP G (i+1) 0 a c:=by
 unfold mP
 by_cases h2:a<i∨(a=i∧c<n)
 ·rw[if_pos h2,if_pos (by omega)]
 ·rw[if_neg h2,if_neg (by omega)]
theorem awO {a c:Nat} (ha:a<n):mP G n 0 a c=mD n G E r 0 a c:=by
 unfold mP mD
 rw[if_pos (by omega),if_neg (by omega)]
theorem aAg {i:Nat}:mD n G E r i i i = -G i i:=by
 unfold mD
 rw[if_neg (by omega)]
theorem azN {i a c:Nat}:PO (mD n G E r i) i i (-G i i+(Sg (G i) n+E i)+r) a c=mD n G E r (i+1) a c:=by
 unfold PO mD
 by_cases h:a=i∧c=i
 ·obtain⟨rfl,rfl⟩:=h
  rw[if_pos ⟨rfl,rfl⟩,if_pos ⟨rfl,by omega⟩]
  unfold svA
  rw[if_pos rfl]
  grind
 ·rw[if_neg h]
  by_cases h2:a=c∧a<i
  ·rw[if_pos h2,if_pos ⟨h2.1,by omega⟩]
  ·rw[if_neg h2,if_neg (by omega)]
theorem awM {a c:Nat} (ha:a<n):mD n G E r n a c=svA n G E r a c:=by
 unfold mD
 by_cases h:a=c
 ·rw[if_pos ⟨h,ha⟩]
 ·rw[if_neg (by omega)]
  unfold svA
  rw[if_neg (by omega)]
  grind
end
def Tr (P:Nat→Nat→aA→VV→Prop) (H:aA) (r:VV) (H':aA):Prop:=H.length≤H'.length∧(∀b g x,aG H b g=some x→aG H' b g=some x)∧P H.length H'.length H' r
theorem Fw {F lo:Nat} {args:List VV} {P:Nat→Nat→aA→VV→Prop} {H:aA} {K:VV→aA→Prop} (CO:Gi.contains F=true) (h:jD F args lo H (Tr P H)) (hk:∀r H',H.length≤H'.length→(∀b g x,aG H b g=some x→aG H' b g=some x)→P H.length H'.length H' r→K r H'):dH F args lo H K :=
 fU CO (h.mono fun r H' ⟨h1,h2,h3⟩=>hk r H' h1 h2 h3)
set_option maxHeartbeats 8000000 in
set_option maxRecDepth 20000 in
theorem E8 {x:FP} (hx:nN x) {lo:Nat} {H:aA} (r:Rat) (hr:aL r≤665) (dS:lo≤H.length) :
  jD 119 [GF x,aF r,VB false] lo H (Tr (TabIs aF 3 (Qr x.1.length x.1.length (Qs x r))) H):=by
 refine jD.walk ⟨true,false⟩ CX (aMs rfl) ?_
 have hn:=hx.n
 have jO:(aB (GF x)).all bP=true:=rfl
 have l0:∀K,bF false 1 (.cG (GF x) 0) K=some (aC aF x.1):=fun K=>rfl
 have l1:∀K,bF false 1 (.cG (GF x) 1) K=some (aC (aC aF) x.2.1):=fun K=>rfl
 have ls:∀K,bF true 3 (.cG (GF x) 0) K=some (GF x):=fun K=>rfl
 have lr:∀K,bF true 3 (.cG (aF r) 0) K=some (aF r):=fun K=>bH r
 simp only[xL,vG,jO,fM,if_true,l0,List.length_map,dR,VX,Nat.reduceEqDiff,Nat.reduceAdd,Nat.reduceLeDiff,Nat.reduceLT,Nat.reduceSub]
 refine sA rfl (SI x.1.length (by omega) dS) fun z L hz => ?_
 rw[aoI] at hz
 obtain⟨b,g,c,rfl,hc,hT⟩:=hz.tb
 have hhi:H.length≤(H++L).length:=(aMy H L).length_le
 have hO:(H++L).length≤(H++L).length∧∀b g x,aG H b g=some x→aG (H++L) b g=some x:=⟨aKE _,fun _ _ _ h=>eV h⟩
 generalize hHz:H++L=Hz at *
 have tr:∀ {K K':aA},(Hz.length≤K.length∧∀b g x,aG H b g=some x→aG K b g=some x)→Qm H.length Hz.length K K'→(Hz.length≤K'.length∧∀b g x,aG H b g=some x→aG K' b g=some x):=fun h o=>⟨by rw[o.1];exact h.1,fun b g x hx=>o.2 b g x (.inl (iS hx)) (h.2 b g x hx)⟩
 have hlen:=hT.len (c:=c)
 simp only[hlen,dR,VX,Nat.reduceEqDiff,Nat.reduceAdd,Nat.reduceLeDiff,Nat.reduceLT,Nat.reduceSub]
 generalize hG:gE x.2.1=G at *
 generalize hE:eE x.2.2=E at *
 generalize hnn:x.1.length=n at *
 have bG:∀i j,aL (G i j)≤665:=fun i j=>by rw[←hG];exact hx.Xr (P:=fun q=>aL q≤665) (fun q h=>h.2) i j
 have wn:∀k:Nat,k≤n→IntKind.i64.wrap ((k:Int)+1)=((k+1:Nat):Int):=fun k hk=>wN _ (by omega) (by omega)
 refine aP (fun(i:Nat) ρ H1=>i≤n∧Tb aF H.length Hz.length n n b g (mP G i 0) H1∧(Hz.length≤H1.length∧∀b g x,aG H b g=some x→aG H1 b g=some x)∧ρ 2=VB false∧ρ 3 = .cG (GF x) 0∧ρ 4 = .cG (aF r) 0∧ρ 7 = .ref b g 0 n c∧ρ 16=VI n∧ρ 17=VI i) (fun i=>n-i) 0
  ⟨aK8 _,hT.congr fun _ _ _ _=>aqG,hO,by (repeat' apply aMk)<;>first | rfl | trivial | assumption⟩ ?_
 clear hT hO hlen
 rintro i ρ H1 ⟨hi,hT,hO,g2,g3,g4,g7,g16,g17⟩
 have hlen:=hT.len (c:=c)
 by_cases bW:(i:Int)<(n:Int)
 ·have vA:i<n:=by omega
  simp only[nG,g2,g3,g4,g7,g16,g17,bW,hlen,dR,VX,Nat.reduceEqDiff,Nat.reduceAdd,Nat.reduceLeDiff,Nat.reduceLT,Nat.reduceSub]
  refine aP (fun(j:Nat) ρ H2=>j≤n∧Tb aF H.length Hz.length n n b g (mP G i j) H2∧(Hz.length≤H2.length∧∀b g x,aG H b g=some x→aG H2 b g=some x)∧ρ 2=VB false∧ρ 3 = .cG (GF x) 0∧ρ 4 = .cG (aF r) 0∧ρ 7 = .ref b g 0 n c∧ρ 8=VI i∧ρ 16=VI n∧ρ 17=VI i∧ρ 21=VI n∧ρ 22=VI j) (fun j=>n-j) 0
   ⟨aK8 _,hT,hO,by (repeat' apply aMk)<;>first | rfl | trivial | assumption⟩ ?_
  clear g2 g3 g4 g7 g16 g17 hT hO hlen
  rintro j ρ H2 ⟨hj,hT,hO,g2,g3,g4,g7,g8,g16,g17,g21,g22⟩
  by_cases Eo:(j:Int)<(n:Int)
  ·have Hg:j<n:=by omega
   obtain⟨row,mA,W9⟩:=XA (g:=x.2.1) (i:=i) (by rw[hx.g,hnn];exact vA)
   have Md:=hx.gr row (aLy mA)
   obtain⟨q,hq⟩:∃q,row[j]? = some q:=⟨_,aKL (by rw[Md.1,hnn];exact Hg)⟩
   have hGq:G i j=q:=by rw[←hG,W9,aKB,hq];rfl
   have a1:=fun H=>aH (f:=aC aF) (t := .op) (H:=H) (size:=1) (k := .i64) mA rfl
   have a2:=fun H=>aH (f:=aF) (t := .op) (H:=H) (size:=3) (k := .i64) hq rfl
   have aqP:∀K,bF false 1 (.cG (aC aF row) 0) K=some (aC aF row):=fun K=>rfl
   have a3:=hT.addr (c:=c) vA
   obtain⟨rb1,rg1,rc1,c1,c2,_,c4⟩:=hT.spot (i:=i) (j:=j) vA Hg dD fM
   obtain⟨H3,c5,c6,hT3,_⟩:=c4 lo (-q) dS
   have em:=DF q
   simp only[nD,g2,g3,g7,g8,g21,g22,Eo,l1,a1,a2,aqP,a3,c1,c2,c5,em,bH,wn j hj,dR,VX,Nat.reduceEqDiff,Nat.reduceAdd,Nat.reduceLeDiff,Nat.reduceLT,Nat.reduceSub]
   exact⟨j+1,by omega,by omega,hT3.congr fun _ _ _ _=>by rw[←hGq];exact aAa,tr hO c6,by (repeat' apply aMk)<;>first | rfl | trivial | assumption⟩
  ·have Tw:j=n:=by omega
   subst Tw
   simp only[nD,g17,g21,g22,Eo,wn i hi,dR,VX,Nat.reduceEqDiff,Nat.reduceAdd,Nat.reduceLeDiff,Nat.reduceLT,Nat.reduceSub]
   exact⟨i+1,by omega,by omega,hT.congr fun _ _ _ hc=>azE hc,hO,by (repeat' apply aMk)<;>first | rfl | trivial | assumption⟩
 ·have mH:i=n:=by omega
  subst mH
  simp only[nG,g3,g4,g7,g16,g17,bW,hlen,dR,VX,Nat.reduceEqDiff,Nat.reduceAdd,Nat.reduceLeDiff,Nat.reduceLT,Nat.reduceSub]
  refine aP (fun(k:Nat) ρ H1=>k≤i∧Tb aF H.length Hz.length i i b g (mD i G E r k) H1∧(Hz.length≤H1.length∧∀b g x,aG H b g=some x→aG H1 b g=some x)∧ρ 3 = .cG (GF x) 0∧ρ 4 = .cG (aF r) 0∧ρ 7 = .ref b g 0 i c∧ρ 59=VI i∧ρ 60=VI k) (fun k=>i-k) 0
   ⟨aK8 _,hT.congr fun _ _ ha _=>awO ha,hO,by (repeat' apply aMk)<;>first | rfl | trivial | assumption⟩ ?_
  clear g2 g3 g4 g7 g16 g17 hT hO hlen
  rintro k ρ H2 ⟨hk,hT,hO,g3,g4,g7,g59,g60⟩
  by_cases TT:(k:Int)<(i:Int)
  ·have ZH:k<i:=by omega
   have a3:=hT.addr (c:=c) ZH
   obtain⟨rb1,rg1,rc1,c1,c2,c3,c4⟩:=hT.spot (i:=k) (j:=k) ZH ZH dD fM
   have c3:=(c3 true).trans (bH _)
   rw[aAg] at c3
   obtain⟨H3,c5,c6,hT3,_⟩:=c4 lo (-G k k+(Sg (G k) i+E k)+r) dS
   have eo:=IC hx k (by rw[hnn];exact ZH)
   rw[hG,hE,hnn] at eo
   have b1:=bG k k
   have b2:aL (-G k k)≤665:=by rw[G9];exact b1
   have b3:=Vm (f:=G k) (B:=665) (n:=i) (fun j _=>bG k j) i (aKE _)
   have b4:aL (E k)≤665:=by rw[←hE];exact hx.XW (P:=fun q=>aL q≤665) (fun q h=>h.2) k
   have b5:=vD (Sg (G k) i) (E k)
   have b6:=vD (-G k k) (Sg (G k) i+E k)
   have b7:i*(665+1)≤6*(665+1):=aK5 _ (by omega)
   have e1:=oJ (-G k k) (Sg (G k) i+E k) (by omega) (by omega)
   have e2:=oJ (-G k k+(Sg (G k) i+E k)) r (by omega) (by omega)
   simp only[nK,g3,g4,g7,g59,g60,TT,ls,lr,a3,c1,c2,c3,c5,eo,e1,e2,wn k hk,dR,VX,Nat.reduceEqDiff,Nat.reduceAdd,Nat.reduceLeDiff,Nat.reduceLT,Nat.reduceSub]
   exact⟨k+1,by omega,by omega,hT3.congr fun _ _ _ _=>azN,tr hO c6,by (repeat' apply aMk)<;>first | rfl | trivial | assumption⟩
  ·have hke:k=i:=by omega
   subst hke
   simp only[nK,g7,g59,g60,TT,dR,VX,Nat.reduceEqDiff,Nat.reduceAdd,Nat.reduceLeDiff,Nat.reduceLT,Nat.reduceSub]
   have hT:=hT.congr fun a c ha _=>awM ha
   obtain⟨rs,h1,h2⟩:=hT
   refine⟨aKF hhi hO.1,hO.2,b,g,c,rs,by rw[Cb],by rw[Cb];exact hc,h1.wide (aKE _) hO.1,?_⟩
   rw[h2]
   unfold Qs
   rw[hnn,hG,hE]
end Go.PM