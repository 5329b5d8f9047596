/- Texts of a claim, in one: part 14. -/
import Derived.KernelRfl
import Derived.Test.YtjmflicajplclaaGreatDoorKBm
open And renaming intro → aMh
open Bool renaming not_false → aOf,not_true → aOg
open Int renaming mul_ne_zero → aOj,natAbs_mul → aNf,natAbs_natCast → aNg
open List renaming all_eq_true → aKP,cons_append → aL1,getD_eq_getElem?_getD → aKy,getElem?_cons_succ → aMl,getElem?_cons_zero → aKV,getElem?_eq_getElem → aKI,length_cons → aKL,length_eq_zero_iff → aMJ,length_nil → aMe,mapM_cons → aLY,mem_of_getElem? → aLv,nil_append → aLT,prefix_append → aMv
open Nat renaming add_mul → aK6,add_sub_cancel_left → aMs,le_of_ble_eq_true → aMp,le_refl → aKB,le_trans → aKC,lt_irrefl → aOh,lt_of_lt_of_le → aKD,lt_or_ge → aKE,mul_comm → aL3,mul_le_mul_right → aK2,mul_lt_mul'' → aOa,pow_le_pow_right → aME,zero_add → aL9,zero_le → aK5,zero_lt_one → aNT
open Option renaming getD_some → aNP
open Rat renaming intCast_mul → aOb,le_refl → aN7,mul_nonneg → aOk,zero_mul → aOi
set_option linter.unusedSimpArgs false
set_option linter.unusedVariables false
namespace Go.PM
def dE:aE:=(.seq (LS [LM 77 10,LM 78 4,LO 79 (.bin .lss (LT 77) (LT 78))] (.cond (LT 79) .skip (.exit 0))) (.seq (.block 1 (LS [LM 83 0,LO 84 (.chk (LT 83)),LO 85 (LA 1 84),LO 86 (LL 85),LM 87 10,LO 88 (.iaddr 1 (LT 86) (LT 87)),LO 89 (LL 88),LO 90 (.call 57 [(LT 89)]),LM 82 90,LO 91 (LX 82 0),LO 92 (LX 82 1),LM 11 91,LM 12 92] (.seq (LS [LM 93 12,LO 94 (.un .not (LT 93)),LM 95 94,LZ 95 96 (.mv (LT 11)),LZ 95 97 (.len (LT 96)),LZ 95 98 (.mv (LT 4)),LZ 95 99 (.bin .neq (LT 97) (LT 98)),LO 100 (.pick (LT 95) LG (LT 99)),LM 101 100,LZ 101 102 (.mv (LT 11)),LZ 101 103 (.call 58 [(LT 102)]),LZ 101 104 (.un .not (LT 103)),LO 105 (.pick (LT 101) LG (LT 104)),LM 106 105,LZ 106 107 (.mv (LT 11)),LZ 106 108 (.mv (LT 10)),LZ 106 109 (.iaddr 3 (LT 107) (LT 108)),LZ 106 110 (LK 109),LZ 106 111 (.call 59 [(LT 110)]),LZ 106 112 (.un .not (LT 111)),LO 113 (.pick (LT 106) LG (LT 112))] (.cond (LT 113) (LS [LO 114 (LK 5),LN (.store 3 (LT 2) (LT 114)),LO 3 (.mv LF)] .ret) .skip)) (.cU [LO 115 (LA 1 5),LO 116 (LL 115),LM 117 11,LO 118 (.lit [(.slice none 0 0)] 1 [(0,(LT 117))]),LO 119 (.app 1 24 (LT 116) (LT 118)),LO 120 (LA 1 5),LN (.store 1 (LT 120) (LT 119))])))) (.cU [LM 80 10,LO 81 (.bin .add (LT 80) (LI 1)),LM 10 81])))
def dX:aE:=(LS [LO 2 (.new [(.slice none 0 0),(.slice none 0 0),(.slice none 0 0)]),LO 3 (.mv LF)] (LS [LM 13 0,LO 14 (.chk (LT 13)),LO 15 (LA 0 14),LO 16 (LL 15),LO 17 (.len (LT 16)),LM 4 17] (LS [LO 18 (.build [(.slice none 0 0),(.slice none 0 0),(.slice none 0 0)] [(0,1),(1,1),(2,1)] []),LO 5 (.new [(.slice none 0 0),(.slice none 0 0),(.slice none 0 0)]),LN (.store 3 (LT 5) (LT 18))] (.seq (LS [LM 19 4,LO 20 (.bin .lss (LT 19) (LI 1)),LM 21 20,LZ 21 22 (.mv (LT 4)),LZ 21 23 (.bin .gtr (LT 22) (LI 6)),LO 24 (.pick (LT 21) LG (LT 23)),LM 25 24,LZ 25 26 (.mv (LT 0)),LZ 25 27 (.chk (LT 26)),LZ 25 28 (LA 1 27),LZ 25 29 (LL 28),LZ 25 30 (.len (LT 29)),LZ 25 31 (.mv (LT 4)),LZ 25 32 (.bin .neq (LT 30) (LT 31)),LO 33 (.pick (LT 25) LG (LT 32)),LM 34 33,LZ 34 35 (.mv (LT 0)),LZ 34 36 (.chk (LT 35)),LZ 34 37 (LA 2 36),LZ 34 38 (LL 37),LZ 34 39 (.len (LT 38)),LZ 34 40 (.mv (LT 4)),LZ 34 41 (.bin .neq (LT 39) (LT 40)),LO 42 (.pick (LT 34) LG (LT 41))] (.cond (LT 42) (LS [LO 43 (LK 5),LN (.store 3 (LT 2) (LT 43)),LO 3 (.mv LF)] .ret) .skip)) (LS [LM 45 0,LO 46 (.chk (LT 45)),LO 47 (LA 0 46),LO 48 (LL 47),LO 49 (.call 57 [(LT 48)]),LM 44 49,LO 50 (LX 44 0),LO 51 (LX 44 1),LM 6 50,LM 7 51] (LS [LM 53 0,LO 54 (.chk (LT 53)),LO 55 (LA 2 54),LO 56 (LL 55),LO 57 (.call 57 [(LT 56)]),LM 52 57,LO 58 (LX 52 0),LO 59 (LX 52 1),LM 8 58,LM 9 59] (.seq (LS [LM 60 7,LO 61 (.un .not (LT 60)),LM 62 61,LZ 62 63 (.mv (LT 9)),LZ 62 64 (.un .not (LT 63)),LO 65 (.pick (LT 62) LG (LT 64)),LM 66 65,LZ 66 67 (.mv (LT 6)),LZ 66 68 (.call 96 [(LT 67)]),LZ 66 69 (.un .not (LT 68)),LO 70 (.pick (LT 66) LG (LT 69)),LM 71 70,LZ 71 72 (.mv (LT 8)),LZ 71 73 (.call 58 [(LT 72)]),LZ 71 74 (.un .not (LT 73)),LO 75 (.pick (LT 71) LG (LT 74))] (.cond (LT 75) (LS [LO 76 (LK 5),LN (.store 3 (LT 2) (LT 76)),LO 3 (.mv LF)] .ret) .skip)) (.seq (LS [LO 10 (.mv (LI 0))] (.block 0 (.loop dE))) (LS [LM 121 6,LO 122 (LA 0 5),LN (.store 1 (LT 122) (LT 121))] (LS [LM 123 8,LO 124 (LA 2 5),LN (.store 1 (LT 124) (LT 123))] (LS [LO 125 (LK 5),LQ 126 (.call 166 [(LT 5)]),LN (.store 3 (LT 2) (LT 125)),LM 3 126] .ret)))))))))))
def gI:aU:=⟨127,[(.cell 2 true 3),(.tmp 3)],dX⟩
theorem Ny:fT 109=some gI:=by kernel_rfl
def eI:aE:=(.seq (LS [LM 44 7,LM 45 3,LO 46 (.bin .lss (LT 44) (LT 45))] (.cond (LT 46) .skip (.exit 4))) (.seq (.block 5 (.cU [LM 49 4,LM 50 6,LM 51 4,LM 52 6,LO 53 (.iaddr 1 (LT 51) (LT 52)),LO 54 (LL 53),LM 55 54,LZ 55 56 (.mv (LT 4)),LZ 55 57 (.mv (LT 7)),LZ 55 58 (.iaddr 1 (LT 56) (LT 57)),LZ 55 59 (LL 58),LZ 55 60 (.mv (LT 59)),LY 60 61 (.mv (LT 0)),LY 60 62 (.chk (LT 61)),LY 60 63 (LA 1 62),LY 60 64 (LL 63),LY 60 65 (.mv (LT 6)),LY 60 66 (.iaddr 1 (LT 64) (LT 65)),LY 60 67 (LL 66),LY 60 68 (.mv (LT 7)),LY 60 69 (.iaddr 3 (LT 67) (LT 68)),LY 60 70 (LK 69),LY 60 71 (.call 59 [(LT 70)]),LY 60 72 (.un .not (LT 71)),LZ 55 73 (.pick (LT 60) (LT 72) LF),LO 74 (.pick (LT 55) LG (LT 73)),LO 75 (.iaddr 1 (LT 49) (LT 50)),LN (.store 1 (LT 75) (LT 74))])) (.cU [LM 47 7,LO 48 (.bin .add (LT 47) (LI 1)),LM 7 48])))
def iN:aE:=(.seq (LS [LM 21 6,LM 22 3,LO 23 (.bin .lss (LT 21) (LT 22))] (.cond (LT 23) .skip (.exit 2))) (.seq (.block 3 (LS [LM 26 4,LM 27 6,LM 28 4,LM 29 6,LO 30 (.iaddr 1 (LT 28) (LT 29)),LO 31 (LL 30),LM 32 31,LZ 32 33 (.mv (LT 0)),LZ 32 34 (.chk (LT 33)),LZ 32 35 (LA 2 34),LZ 32 36 (LL 35),LZ 32 37 (.mv (LT 6)),LZ 32 38 (.iaddr 3 (LT 36) (LT 37)),LZ 32 39 (LK 38),LZ 32 40 (.call 59 [(LT 39)]),LZ 32 41 (.un .not (LT 40)),LO 42 (.pick (LT 32) LG (LT 41)),LO 43 (.iaddr 1 (LT 26) (LT 27)),LN (.store 1 (LT 43) (LT 42))] (LS [LO 7 (.mv (LI 0))] (.block 4 (.loop eI))))) (.cU [LM 24 6,LO 25 (.bin .add (LT 24) (LI 1)),LM 6 25])))
def tI:aE:=(.seq (LS [LM 16 5,LM 17 3,LO 18 (.bin .lss (LT 16) (LT 17))] (.cond (LT 18) .skip (.exit 0))) (.seq (.block 1 (LS [LO 6 (.mv (LI 0))] (.block 2 (.loop iN)))) (.cU [LM 19 5,LO 20 (.bin .add (LT 19) (LI 1)),LM 5 20])))
def nN:aE:=(.seq (LS [LM 76 8,LM 77 3,LO 78 (.bin .lss (LT 76) (LT 77))] (.cond (LT 78) .skip (.exit 6))) (.seq (.block 7 (LS [LM 81 4,LM 82 8,LO 83 (.iaddr 1 (LT 81) (LT 82)),LO 84 (LL 83),LO 85 (.un .not (LT 84))] (.cond (LT 85) (LS [LO 2 (.mv LF)] .ret) .skip))) (.cU [LM 79 8,LO 80 (.bin .add (LT 79) (LI 1)),LM 8 80])))
def Bi:aE:=(LS [LO 2 (.mv LF)] (LS [LM 9 0,LO 10 (.chk (LT 9)),LO 11 (LA 0 10),LO 12 (LL 11),LO 13 (.len (LT 12)),LM 3 13] (LS [LM 14 3,LO 15 (.make [(.bool false)] 1 (LT 14) (LT 14)),LM 4 15] (.seq (LS [LO 5 (.mv (LI 0))] (.block 0 (.loop tI))) (.seq (LS [LO 8 (.mv (LI 0))] (.block 6 (.loop nN))) (LS [LO 2 (.mv LG)] .ret))))))
def C0:aU:=⟨86,[(.tmp 2)],Bi⟩
theorem Ib:fT 166=some C0:=by kernel_rfl
def uE:aE:=(LS [LO 1 (.box (LT 0)),LO 2 (.mv (.const (.string ⟨#[]⟩))),LO 3 (.mv LF)] (LS [LO 9 (.call 109 [(LT 1)]),LM 8 9,LO 10 (LX 8 0),LO 11 (LX 8 1),LO 4 (.new [(.slice none 0 0),(.slice none 0 0),(.slice none 0 0)]),LN (.store 3 (LT 4) (LT 10)),LM 5 11] (.seq (LS [LM 12 5,LO 13 (.un .not (LT 12))] (.cond (LT 13) (LS [LO 2 (.mv (.const (.string ⟨#[]⟩))),LO 3 (.mv LF)] .ret) .skip)) (LS [LO 14 (.call 122 [(LT 4),(LI 1)]),LO 6 (.new [(.bool false),(.slice none 0 0),(.slice none 0 0)]),LN (.store 3 (LT 6) (LT 14))] (LS [LO 15 (LK 6),LO 16 (LK 6),LO 17 (.call 125 [(LT 15),(LT 16)]),LO 7 (.new [(.bool false),(.slice none 0 0),(.slice none 0 0)]),LN (.store 3 (LT 7) (LT 17))] (LS [LQ 18 (.call 122 [(LT 4),(LI 2)]),LO 19 (LK 7),LQ 20 (.call 82 [(LT 18),(LT 19)]),LO 21 (LK 7),LQ 22 (.call 81 [(LT 20),(LT 21)]),LQ 23 (.call 112 [(LT 22)]),LO 24 (LX 23 0),LO 25 (LX 23 1),LM 2 24,LM 3 25] .ret))))))
def yV:aU:=⟨26,[(.tmp 2),(.tmp 3)],uE⟩
theorem Nv:fT 51=some yV:=by kernel_rfl
def yQ:aE:=(.seq (LS [LM 8 6,LM 9 1,LO 10 (.len (LT 9)),LO 11 (.bin .lss (LT 8) (LT 10))] (.cond (LT 11) .skip (.exit 0))) (.seq (.block 1 (.cU [LO 14 (LK 5),LM 15 0,LO 16 (.chk (LT 15)),LO 17 (LA 0 16),LO 18 (LL 17),LM 19 6,LO 20 (.iaddr 3 (LT 18) (LT 19)),LO 21 (LK 20),LM 22 1,LM 23 6,LO 24 (.iaddr 3 (LT 22) (LT 23)),LO 25 (LK 24),LQ 26 (.call 125 [(LT 21),(LT 25)]),LQ 27 (.call 79 [(LT 14),(LT 26)]),LN (.store 3 (LT 5) (LT 27))])) (.cU [LM 12 6,LO 13 (.bin .add (LT 12) (LI 1)),LM 6 13])))
def EW:aE:=(LS [LO 4 (.new [(.bool false),(.slice none 0 0),(.slice none 0 0)])] (LS [LO 7 (.call 77 []),LO 5 (.new [(.bool false),(.slice none 0 0),(.slice none 0 0)]),LN (.store 3 (LT 5) (LT 7))] (.seq (LS [LO 6 (.mv (LI 0))] (.block 0 (.loop yQ))) (LS [LO 28 (LK 5),LN (.store 3 (LT 4) (LT 28))] .ret))))
def HL:aU:=⟨29,[(.cell 4 true 3)],EW⟩
theorem Nw:fT 113=some HL:=by kernel_rfl
def yR:aE:=(.seq (LS [LM 26 11,LM 27 7,LO 28 (.bin .lss (LT 26) (LT 27))] (.cond (LT 28) .skip (.exit 2))) (.seq (.block 3 (.cU [LM 31 10,LM 32 0,LO 33 (.chk (LT 32)),LO 34 (LA 1 33),LO 35 (LL 34),LM 36 9,LO 37 (.iaddr 1 (LT 35) (LT 36)),LO 38 (LL 37),LM 39 11,LO 40 (.iaddr 3 (LT 38) (LT 39)),LO 41 (LK 40),LO 42 (.call 157 [(LT 41)]),LO 43 (.lit [(.bool false),(.slice none 0 0),(.slice none 0 0)] 1 [(0,(LT 42))]),LO 44 (.app 3 56 (LT 31) (LT 43)),LM 10 44])) (.cU [LM 29 11,LO 30 (.bin .add (LT 29) (LI 1)),LM 11 30])))
def xS:aE:=(.seq (LS [LM 20 9,LM 21 7,LO 22 (.bin .lss (LT 20) (LT 21))] (.cond (LT 22) .skip (.exit 0))) (.seq (.block 1 (LS [LO 25 (.lit [(.bool false),(.slice none 0 0),(.slice none 0 0)] 0 []),LM 10 25] (.seq (LS [LO 11 (.mv (LI 0))] (.block 2 (.loop yR))) (LS [LM 45 10,LM 46 9,LM 47 0,LO 48 (.chk (LT 47)),LO 49 (LA 1 48),LO 50 (LL 49),LM 51 9,LO 52 (.iaddr 1 (LT 50) (LT 51)),LO 53 (LL 52),LQ 54 (.call 60 [(LT 53)]),LM 55 0,LO 56 (.chk (LT 55)),LO 57 (LA 2 56),LO 58 (LL 57),LM 59 9,LO 60 (.iaddr 3 (LT 58) (LT 59)),LO 61 (LK 60),LQ 62 (.call 79 [(LT 54),(LT 61)]),LO 63 (LK 4),LQ 64 (.call 79 [(LT 62),(LT 63)]),LO 65 (.iaddr 3 (LT 45) (LT 46)),LN (.store 3 (LT 65) (LT 64))] (.cU [LM 66 8,LM 67 10,LM 68 2,LM 69 9,LO 70 (.iaddr 3 (LT 68) (LT 69)),LO 71 (LK 70),LO 72 (.lit [(.bool false),(.slice none 0 0),(.slice none 0 0)] 1 [(0,(LT 71))]),LO 73 (.app 3 56 (LT 67) (LT 72)),LO 74 (.lit [(.slice none 0 0)] 1 [(0,(LT 73))]),LO 75 (.app 1 24 (LT 66) (LT 74)),LM 8 75]))))) (.cU [LM 23 9,LO 24 (.bin .add (LT 23) (LI 1)),LM 9 24])))
def ES:aE:=(LS [LO 4 (.box (LT 1)),LO 6 (.mv (.const (.slice none 0 0)))] (LS [LM 14 0,LO 15 (.chk (LT 14)),LO 16 (LA 0 15),LO 17 (LL 16),LO 18 (.len (LT 17)),LM 7 18] (LS [LO 19 (.lit [(.slice none 0 0)] 0 []),LM 8 19] (.seq (LS [LO 9 (.mv (LI 0))] (.block 0 (.loop xS))) (LS [LM 77 8,LO 78 (.call 134 [(LT 77)]),LM 76 78,LO 79 (LX 76 0),LO 80 (LX 76 1),LM 12 79,LM 13 80] (LS [LM 81 12,LM 6 81] .ret))))))
def HS:aU:=⟨82,[(.tmp 6)],ES⟩
theorem Nl:fT 114=some HS:=by kernel_rfl
def wH:aE:=(.seq (LS [LM 11 6,LM 12 0,LO 13 (.chk (LT 12)),LO 14 (LA 0 13),LO 15 (LL 14),LO 16 (.len (LT 15)),LO 17 (.bin .lss (LT 11) (LT 16))] (.cond (LT 17) .skip (.exit 0))) (.seq (.block 1 (.cU [LM 20 5,LO 21 (.call 83 []),LO 22 (.lit [(.bool false),(.slice none 0 0),(.slice none 0 0)] 1 [(0,(LT 21))]),LO 23 (.app 3 56 (LT 20) (LT 22)),LM 5 23])) (.cU [LM 18 6,LO 19 (.bin .add (LT 18) (LI 1)),LM 6 19])))
def wP:aE:=(.seq (LS [LM 30 9,LM 31 5,LO 32 (.len (LT 31)),LO 33 (.bin .lss (LT 30) (LT 32))] (.cond (LT 33) .skip (.exit 4))) (.seq (.block 5 (.cU [LM 36 8,LM 37 7,LQ 38 (.call 130 [(LT 37)]),LM 39 5,LM 40 9,LO 41 (.iaddr 3 (LT 39) (LT 40)),LO 42 (LK 41),LQ 43 (.call 125 [(LT 38),(LT 42)]),LQ 44 (.lit [(.bool false),(.slice none 0 0),(.slice none 0 0)] 1 [(0,(LT 43))]),LO 45 (.app 3 56 (LT 36) (LT 44)),LM 8 45])) (.cU [LM 34 9,LO 35 (.bin .add (LT 34) (LI 1)),LM 9 35])))
def wE:aE:=(.seq (LS [LM 24 7,LM 25 1,LO 26 (.bin .leq (LT 24) (LT 25))] (.cond (LT 26) .skip (.exit 2))) (.seq (.block 3 (LS [LO 29 (.lit [(.bool false),(.slice none 0 0),(.slice none 0 0)] 0 []),LM 8 29] (.seq (LS [LO 9 (.mv (LI 0))] (.block 4 (.loop wP))) (.cU [LM 46 0,LO 47 (.call 77 []),LM 48 8,LO 49 (.call 114 [(LT 46),(LT 47),(LT 48)]),LM 5 49])))) (.cU [LM 27 7,LO 28 (.bin .add (LT 27) (LI 1)),LM 7 28])))
def DC:aE:=(LS [LO 4 (.new [(.bool false),(.slice none 0 0),(.slice none 0 0)])] (LS [LO 10 (.lit [(.bool false),(.slice none 0 0),(.slice none 0 0)] 0 []),LM 5 10] (.seq (LS [LO 6 (.mv (LI 0))] (.block 0 (.loop wH))) (.seq (LS [LO 7 (.mv (LI 1))] (.block 2 (.loop wE))) (LS [LM 50 0,LM 51 5,LO 52 (.call 113 [(LT 50),(LT 51)]),LN (.store 3 (LT 4) (LT 52))] .ret)))))
def Gi:aU:=⟨53,[(.cell 4 true 3)],DC⟩
theorem Ks:fT 122=some Gi:=by kernel_rfl
end Go.PM
namespace Go.PM
open Go.Lib
def SvS (s:vJ) (lo hi:Nat) (H:aA) (v:VV):Prop:=(∃a b c,v = .agg [a,b,c]∧bN a=true∧bN b=true∧bN c=true∧∀n,n≤lo→jR n a=true∧jR n b=true∧jR n c=true)∧I8 (vW s) lo hi H v
theorem SvS.dB {s:vJ}:∀ {lo hi H H' v},SvS s lo hi H v→jY lo hi H H'→SvS s lo hi H' v:=fun h hk=>⟨h.1,h.2.dB hk⟩
theorem SvS.wide {s:vJ}:∀ {lo hi gF qL:Nat} {H:aA} {v:VV},SvS s lo hi H v→gF≤lo→hi≤qL→SvS s gF qL H v:=fun h hl hh=>by
 obtain⟨⟨a,b,c,h1,h2,h3,h4,h5⟩,h6⟩:=h
 exact⟨⟨a,b,c,h1,h2,h3,h4,fun n hn=>h5 n (by omega)⟩,fun H' hk=>h6 H' (hk.sub hl hh)⟩
theorem SvS.ag {s:vJ} {lo hi:Nat} {H:aA} {v:VV} (h:SvS s lo hi H v) (n:Nat) (hn:n≤lo):∃a b c,v = .agg [a,b,c]∧bN a=true∧bN b=true∧bN c=true∧jR n a=true∧jR n b=true∧jR n c=true:=by
 obtain⟨⟨a,b,c,h1,h2,h3,h4,h5⟩,_⟩:=h
 exact⟨a,b,c,h1,h2,h3,h4,h5 n hn⟩
end Go.PM
namespace Go.PM
open Go.Lib
theorem adB (b:List Rat) (g:List (List Rat)) (e:List Rat):bA (CE aM b g e)=true:=by
 show aO [aC aM b,aC (aC aM) g,aC aM e]=true
 simp only[aO,rI,aeQ,Bool.and_self]
theorem LsO.own {α:Type} {f:α→VV} {e lo hi n:Nat} {H:aA} {v:VV} {o:Option (List α)} (h:LsO f e o lo hi H v) (hn:n≤lo):jR n v=true:=by
 cases o with
 |
  none =>
  have h:v = .tree [] .nil:=h
  subst h
  rfl
 |
  some ys =>
  obtain⟨b,g,c,h1,h2,rfl,h3⟩:=h
  simp[jR];omega
theorem UX.own {α:Type} {f:α→VV} {e lo hi n:Nat} {H:aA} {v:VV} {cH:List (List α)} (h:UX f e cH lo hi H v) (hn:n≤lo):jR n v=true:=by
 rcases h with⟨rfl,_⟩ | ⟨b,g,rs,q1,q2,rfl,_⟩
 ·rfl
 ·simp[jR];omega
end Go.PM
namespace Go.PM
open Go.Lib
end Go.PM
namespace Go.PM
open Go.Lib
end Go.PM
namespace Go.PM
open Go.Lib
end Go.PM
namespace Go.PM
open Go.Lib
section
variable {b:List Rat} {g:List (List Rat)} {e row:List Rat} {n i:Nat} {st:List Bool}
abbrev svP (b:List Rat) (g:List (List Rat)) (e:List Rat):VV:=(CE aM b g e).cJ 0
theorem W0 {q:Rat} (h:0≤q):decide (0<q) = !decide (q=0):=by
 by_cases hz:q=0
 ·rw[decide_eq_true hz,hz];rfl
 ·rw[decide_eq_false hz,decide_eq_true (by grind)];rfl
set_option maxHeartbeats 2000000 in
theorem aoE (hn:n≤1000000) (hi:i<n) (wU:st.length=n) (lT:row.length=n) (Xg:g[i]? = some row) (jZ:∀q∈row,0≤q) {r:Int} {ρ:cW} {Q:VQ} (g0:ρ 0=svP b g e) (g3:ρ 3=VI n) (g4:ρ 4 = .ref 0 0 0 n n) (g5:ρ 5=VI r) (g6:ρ 6=VI i) (g7:ρ 7=VI 0)
  (hQ:∀aQ,aQ 0=svP b g e→aQ 3=VI n→aQ 4 = .ref 0 0 0 n n→aQ 5=VI r→aQ 6=VI i→Q .normal aQ [tT (Si row i st n)]) :
  VW ⟨true,false⟩ 0 (.loop eI) (tH 4 Q) ρ [tT st]:=by
 refine aP (fun(j:Nat) aQ H=>j≤n∧H=[tT (Si row i st j)]∧aQ 0=svP b g e∧aQ 3=VI n∧aQ 4 = .ref 0 0 0 n n∧aQ 5=VI r∧aQ 6=VI i∧aQ 7=VI j) (fun j=>n-j) 0 ⟨aK5 _,rfl,g0,g3,g4,g5,g6,g7⟩ ?_
 clear g0 g3 g4 g5 g6 g7
 rintro j aQ H ⟨hj,rfl,g0,g3,g4,g5,g6,g7⟩
 have hl:(Si row i st j).length=n:=by rw[S8,wU]
 have Cu:Si row i st (j+1)=orJ row i (Si row i st j) j:=sD
 generalize hs:Si row i st j=s at *
 by_cases bZ:(j:Int)<(n:Int)
 ·have Ew:j<n:=by omega
  obtain⟨q,hq⟩:∃q,row[j]? = some q:=⟨_,aKI (by omega)⟩
  have wi:IntKind.i64.wrap ((j:Int)+1)=((j+1:Nat):Int):=wrapN (j+1) (by omega) (by omega)
  have e2:=rA q
  have hpz:=W0 (jZ q (aLv hq))
  have a1:=fun K=>xX (st:=s) (n:=n) hi K
  have a2:=fun K=>yK (st:=s) (i:=i) (by omega) K
  have a3:=fun K=>xX (st:=s) (n:=n) Ew K
  have a4:=fun K=>yK (st:=s) (i:=j) (by omega) K
  have a5:=fun v K=>Em (st:=s) (i:=i) (by omega) v K
  have a6:=fun H=>aI (f:=aC aM) (t := .op) (H:=H) (size:=1) (k := .i64) Xg rfl
  have a7:=fun H=>aI (f:=aM) (t := .op) (H:=H) (size:=3) (k := .i64) hq rfl
  have pO:∀v:Bool,v=(s.getD i false||(decide (0<q)&&s.getD j false))→s.set i v=Si row i st (j+1):=by
   intro v hv
   rw[Cu,orJ,hv,aKy (l:=row),hq,aNP]
  cases XB:s.getD i false with
  |
   true =>
   rw[XB] at a2
   simp only[eI,CE,g0,g3,g4,g6,g7,bZ,a1,a2,a5,wi,dT,VX,Nat.reduceEqDiff,Nat.reduceAdd,Nat.reduceLeDiff,Nat.reduceLT,Nat.reduceSub]
   exact⟨j+1,by omega,by omega,by rw[←pO true (by rw[XB];rfl)],by (repeat' apply aMh)<;>first | rfl | trivial | assumption⟩
  |
   false =>
   rw[XB] at a2
   cases hsj:s.getD j false with
   |
    false =>
    rw[hsj] at a4
    simp only[eI,CE,g0,g3,g4,g6,g7,bZ,a1,a2,a3,a4,a5,wi,dT,VX,Nat.reduceEqDiff,Nat.reduceAdd,Nat.reduceLeDiff,Nat.reduceLT,Nat.reduceSub]
    exact⟨j+1,by omega,by omega,by rw[←pO false (by rw[XB,hsj,Bool.and_false];rfl)],by (repeat' apply aMh)<;>first | rfl | trivial | assumption⟩
   |
    true =>
    rw[hsj] at a4
    by_cases hz:q=0
    ·rw[decide_eq_true hz] at e2 hpz
     simp only[eI,CE,g0,g3,g4,g6,g7,bZ,a1,a2,a3,a4,a5,a6,a7,e2,wi,dW,cI,aL9,aKV,aMl,dT,VX,Nat.reduceEqDiff,Nat.reduceAdd,Nat.reduceLeDiff,Nat.reduceLT,Nat.reduceSub]
     exact⟨j+1,by omega,by omega,by rw[←pO false (by rw[XB,hpz];rfl)],by (repeat' apply aMh)<;>first | rfl | trivial | assumption⟩
    ·rw[decide_eq_false hz] at e2 hpz
     simp only[eI,CE,g0,g3,g4,g6,g7,bZ,a1,a2,a3,a4,a5,a6,a7,e2,wi,dW,cI,aL9,aKV,aMl,dT,VX,Nat.reduceEqDiff,Nat.reduceAdd,Nat.reduceLeDiff,Nat.reduceLT,Nat.reduceSub]
     exact⟨j+1,by omega,by omega,by rw[←pO true (by rw[XB,hsj,hpz];rfl)],by (repeat' apply aMh)<;>first | rfl | trivial | assumption⟩
 ·have Sp:j=n:=by omega
  subst Sp
  subst hs
  simp only[eI,g3,g7,bZ,dT,VX,Nat.reduceEqDiff,Nat.reduceAdd,Nat.reduceLeDiff,Nat.reduceLT,Nat.reduceSub]
  refine hQ _ ?_ ?_ ?_ ?_ ?_<;>first | exact g0 | exact g3 | exact g4 | exact g5 | exact g6 | rfl
set_option maxHeartbeats 2000000 in
theorem ajR (hn:n≤1000000) (wU:st.length=n) (hg:g.length=n) (Xg:∀w∈g,w.length=n∧∀q∈w,0≤q) (he:e.length=n) (hep:∀q∈e,0≤q) {r:Int} {ρ:cW} {Q:VQ} (g0:ρ 0=svP b g e) (g3:ρ 3=VI n) (g4:ρ 4 = .ref 0 0 0 n n) (g5:ρ 5=VI r) (g6:ρ 6=VI 0)
  (hQ:∀aQ,aQ 0=svP b g e→aQ 3=VI n→aQ 4 = .ref 0 0 0 n n→aQ 5=VI r→Q .normal aQ [tT (mK g e n st n)]) :
  VW ⟨true,false⟩ 0 (.loop iN) (tH 2 Q) ρ [tT st]:=by
 refine aP (fun(i:Nat) aQ H=>i≤n∧H=[tT (mK g e n st i)]∧aQ 0=svP b g e∧aQ 3=VI n∧aQ 4 = .ref 0 0 0 n n∧aQ 5=VI r∧aQ 6=VI i) (fun i=>n-i) 0 ⟨aK5 _,rfl,g0,g3,g4,g5,g6⟩ ?_
 clear g0 g3 g4 g5 g6
 rintro i aQ H ⟨hi,rfl,g0,g3,g4,g5,g6⟩
 have hl:(mK g e n st i).length=n:=by rw[Iq,wU]
 have Cu:mK g e n st (i+1)=L5 g e n (mK g e n st i) i:=sD
 generalize hs:mK g e n st i=s at *
 by_cases bZ:(i:Int)<(n:Int)
 ·have Ew:i<n:=by omega
  obtain⟨q,hq⟩:∃q,e[i]? = some q:=⟨_,aKI (by omega)⟩
  obtain⟨row,hr⟩:∃row,g[i]? = some row:=⟨_,aKI (by omega)⟩
  have BX:=Xg row (aLv hr)
  have wi:IntKind.i64.wrap ((i:Int)+1)=((i+1:Nat):Int):=wrapN (i+1) (by omega) (by omega)
  have e2:=rA q
  have hpz:=W0 (hep q (aLv hq))
  have a1:=fun K=>xX (st:=s) (n:=n) Ew K
  have a2:=fun K=>yK (st:=s) (i:=i) (by omega) K
  have a5:=fun v K=>Em (st:=s) (i:=i) (by omega) v K
  have a7:=fun H=>aI (f:=aM) (t := .op) (H:=H) (size:=3) (k := .i64) hq rfl
  have pO:∀v:Bool,v=(s.getD i false||decide (0<q))→Si row i (s.set i v) n=mK g e n st (i+1):=by
   intro v hv
   rw[Cu,L5,hv,aKy (l:=g),hr,aNP,aKy (l:=e),hq,aNP]
  have post:∀(v:Bool) (tG:cW),v=(s.getD i false||decide (0<q))→tG 0=svP b g e→tG 3=VI n→tG 4 = .ref 0 0 0 n n→tG 5=VI r→tG 6=VI i→tG 7=VI 0 →
    ∀(Q':VQ),(∀vL,vL 0=svP b g e→vL 3=VI n→vL 4 = .ref 0 0 0 n n→vL 5=VI r→vL 6=VI i→Q' .normal vL [tT (mK g e n st (i+1))])→VW ⟨true,false⟩ 0 (.loop eI) (tH 4 Q') tG [tT (s.set i v)]:=by
   intro v tG hv k0 k3 k4 k5 k6 k7 Q' hQ'
   refine aoE hn Ew (by rw[List.length_set,hl]) BX.1 hr BX.2 k0 k3 k4 k5 k6 k7 fun vL m0 m3 m4 m5 m6 => ?_
   rw[pO v hv]
   exact hQ' vL m0 m3 m4 m5 m6
  cases XB:s.getD i false with
  |
   true =>
   rw[XB] at a2 post
   simp only[iN,CE,g0,g3,g4,g6,bZ,a1,a2,a5,dT,VX,Nat.reduceEqDiff,Nat.reduceAdd,Nat.reduceLeDiff,Nat.reduceLT,Nat.reduceSub]
   refine post true _ (by simp) ?_ ?_ ?_ ?_ ?_ ?_ _ fun vL m0 m3 m4 m5 m6 => ?_
   all_goals first | exact g0 | exact g3 | exact g4 | exact g5 | exact g6 | rfl | skip
   simp only[m6,wi,dT,VX,Nat.reduceEqDiff,Nat.reduceAdd,Nat.reduceLeDiff,Nat.reduceLT,Nat.reduceSub]
   exact⟨i+1,by omega,by omega,by (repeat' apply aMh)<;>first | rfl | trivial | assumption⟩
  |
   false =>
   rw[XB] at a2 post
   by_cases hz:q=0
   ·rw[decide_eq_true hz] at e2 hpz
    simp only[iN,CE,g0,g3,g4,g6,bZ,a1,a2,a5,a7,e2,dW,cI,aL9,aKV,aMl,dT,VX,Nat.reduceEqDiff,Nat.reduceAdd,Nat.reduceLeDiff,Nat.reduceLT,Nat.reduceSub]
    refine post false _ (by rw[hpz];rfl) ?_ ?_ ?_ ?_ ?_ ?_ _ fun vL m0 m3 m4 m5 m6 => ?_
    all_goals first | exact g0 | exact g3 | exact g4 | exact g5 | exact g6 | rfl | skip
    simp only[m6,wi,dT,VX,Nat.reduceEqDiff,Nat.reduceAdd,Nat.reduceLeDiff,Nat.reduceLT,Nat.reduceSub]
    exact⟨i+1,by omega,by omega,by (repeat' apply aMh)<;>first | rfl | trivial | assumption⟩
   ·rw[decide_eq_false hz] at e2 hpz
    simp only[iN,CE,g0,g3,g4,g6,bZ,a1,a2,a5,a7,e2,dW,cI,aL9,aKV,aMl,dT,VX,Nat.reduceEqDiff,Nat.reduceAdd,Nat.reduceLeDiff,Nat.reduceLT,Nat.reduceSub]
    refine post true _ (by rw[hpz];rfl) ?_ ?_ ?_ ?_ ?_ ?_ _ fun vL m0 m3 m4 m5 m6 => ?_
    all_goals first | exact g0 | exact g3 | exact g4 | exact g5 | exact g6 | rfl | skip
    simp only[m6,wi,dT,VX,Nat.reduceEqDiff,Nat.reduceAdd,Nat.reduceLeDiff,Nat.reduceLT,Nat.reduceSub]
    exact⟨i+1,by omega,by omega,by (repeat' apply aMh)<;>first | rfl | trivial | assumption⟩
 ·have mC:i=n:=by omega
  subst mC
  subst hs
  simp only[iN,g3,g6,bZ,dT,VX,Nat.reduceEqDiff,Nat.reduceAdd,Nat.reduceLeDiff,Nat.reduceLT,Nat.reduceSub]
  refine hQ _ ?_ ?_ ?_ ?_<;>first | exact g0 | exact g3 | exact g4 | exact g5 | rfl
theorem Vp (b:List Rat) (g:List (List Rat)) (e:List Rat):bA (svP b g e)=true:=adB b g e
set_option maxHeartbeats 1000000 in
theorem IH (hn:n≤1000000) (hb:b.length=n) (hg:g.length=n) (Xg:∀w∈g,w.length=n∧∀q∈w,0≤q) (he:e.length=n) (hep:∀q∈e,0≤q):TC 166 [svP b g e] (VB ((qF g e n n).all id)):=by
 refine TC.walk ⟨true,false⟩ Ib rfl (aMp rfl) (Ap (Vp b g e)) rfl ?_
 have e0:∀H,BA [.bool false] 1 (VI n) (VI n) H=some (.ref H.length 0 0 n n,H++[tT (List.replicate n false)]):=fun H=>nY (f:=fun b=>VB b) rfl (by omega) (by omega)
 have xJ:((b.length:Nat):Int)=(n:Int):=by omega
 simp only[C0,Bi,CE,xJ,e0,dW,aL9,aKV,aMl,aLT,aMe,dT,VX,Nat.reduceEqDiff,Nat.reduceAdd,Nat.reduceLeDiff,Nat.reduceLT,Nat.reduceSub]
 refine aP (fun(i:Nat) aQ H=>i≤n∧H=[tT (qF g e n i)]∧aQ 0=svP b g e∧aQ 3=VI n∧aQ 4 = .ref 0 0 0 n n∧aQ 5=VI i) (fun i=>n-i) 0 ⟨aK5 _,rfl,rfl,rfl,rfl,rfl⟩ ?_
 rintro i aQ H ⟨hi,rfl,g0,g3,g4,g5⟩
 have hl:=DX g e n i
 have Cu:qF g e n (i+1)=mK g e n (qF g e n i) n:=sD
 by_cases bZ:(i:Int)<(n:Int)
 ·have wi:IntKind.i64.wrap ((i:Int)+1)=((i+1:Nat):Int):=wrapN (i+1) (by omega) (by omega)
  simp only[tI,g3,g5,bZ,dT,VX,Nat.reduceEqDiff,Nat.reduceAdd,Nat.reduceLeDiff,Nat.reduceLT,Nat.reduceSub]
  refine ajR (r:=(i:Int)) (b:=b) hn hl hg Xg he hep ?_ ?_ ?_ ?_ ?_ fun vL m0 m3 m4 m5 => ?_
  all_goals first | exact g0 | exact g3 | exact g4 | exact g5 | rfl | skip
  simp only[m5,wi,dT,VX,Nat.reduceEqDiff,Nat.reduceAdd,Nat.reduceLeDiff,Nat.reduceLT,Nat.reduceSub]
  exact⟨i+1,by omega,by omega,by rw[Cu],by (repeat' apply aMh)<;>first | rfl | trivial | assumption⟩
 ·have mC:i=n:=by omega
  subst mC
  simp only[tI,g3,g5,bZ,dT,VX,Nat.reduceEqDiff,Nat.reduceAdd,Nat.reduceLeDiff,Nat.reduceLT,Nat.reduceSub]
  generalize qF g e i i=s at *
  refine aP (fun(j:Nat) aQ H=>j≤i∧H=[tT s]∧(∀x∈s.take j,x=true)∧aQ 3=VI i∧aQ 4 = .ref 0 0 0 i i∧aQ 8=VI j) (fun j=>i-j) 0 ⟨aK5 _,rfl,by simp,by simp only[dT,VX,Nat.reduceEqDiff,Nat.reduceAdd,Nat.reduceLeDiff,Nat.reduceLT,Nat.reduceSub];exact g3,by simp only[dT,VX,Nat.reduceEqDiff,Nat.reduceAdd,Nat.reduceLeDiff,Nat.reduceLT,Nat.reduceSub];exact g4,rfl⟩ ?_
  clear g0 g3 g4 g5 bZ
  rintro j aQ H ⟨hj,rfl,ht,g3,g4,g8⟩
  by_cases bZ:(j:Int)<(i:Int)
  ·have Ed:j<i:=by omega
   have wj:IntKind.i64.wrap ((j:Int)+1)=((j+1:Nat):Int):=wrapN (j+1) (by omega) (by omega)
   have a3:=fun K=>xX (st:=s) (n:=i) Ed K
   have a4:=fun K=>yK (st:=s) (i:=j) (by omega) K
   obtain⟨x,hx⟩:∃x,s[j]? = some x:=⟨_,aKI (by omega)⟩
   have hxd:s.getD j false=x:=by rw[aKy,hx];rfl
   rw[hxd] at a4
   cases x with
   |
    false =>
    have:s.all id=false:=by
     cases h:s.all id with
     | false=>rfl
     | true=>exact absurd (aKP.1 h false (aLv hx)) (by decide)
    rw[this]
    simp only[nN,g3,g4,g8,bZ,a3,a4,aOf,dT,VX,Nat.reduceEqDiff,Nat.reduceAdd,Nat.reduceLeDiff,Nat.reduceLT,Nat.reduceSub]
    exact aL rfl
   |
    true =>
    simp only[nN,g3,g4,g8,bZ,a3,a4,wj,aOg,dT,VX,Nat.reduceEqDiff,Nat.reduceAdd,Nat.reduceLeDiff,Nat.reduceLT,Nat.reduceSub]
    refine⟨j+1,by omega,by omega,fun y hy => ?_,by (repeat' apply aMh)<;>first | rfl | trivial | assumption⟩
    rw[sH hx] at hy
    rcases List.mem_append.1 hy with h | h
    ·exact ht y h
    ·rw[List.mem_singleton] at h
     exact h
  ·have Sp:j=i:=by omega
   subst Sp
   have:s.all id=true:=by
    rw[List.take_of_length_le (by omega)] at ht
    exact aKP.2 ht
   rw[this]
   simp only[nN,g3,g8,bZ,dT,VX,Nat.reduceEqDiff,Nat.reduceAdd,Nat.reduceLeDiff,Nat.reduceLT,Nat.reduceSub]
   exact aL rfl
end
def Dz (c:List (List ByteArray)):Nat→List (List Rat)
 | 0=>[]
 |
  i+1=>match iS c i,iD c.length i (c.getD i []) with
  | some out,some r=>out++[r]
  | some out,none=>out
  | none,_=>Dz c i
theorem Ww {c:List (List ByteArray)} {i:Nat} {out:List (List Rat)} (h:iS c i=some out) (hr:iD c.length i (c.getD i [])=none):∀j,i+1≤j→Dz c j=out:=by
 have hn:iS c (i+1)=none:=by rw[iS,h,hr]
 intro j hj
 induction j with
 | zero=>omega
 |
  succ j ih =>
  by_cases he:i=j
  ·subst he
   rw[Dz,h,hr]
  ·rw[Dz,Ej hn j (by omega)]
   exact ih (by omega)
def Nk (s:vJ):List (List Rat):=if (1≤s.b.length∧s.b.length≤6)∧s.g.length=s.b.length∧s.e.length=s.b.length then
  match mU s.b,tB s.e with
  | some _,some r=>if (r.any fun q=>decide (q<0))=false then Dz s.g s.b.length else []
  | _,_=>[]
 else []
def M1 (s:vJ):VV:=match fA s with
 | some x => .eJ [CE aM x.1 x.2.1 x.2.2,VB (Fp x)]
 | none => .eJ [.agg [.tree [] .op,aC (aC aM) (Nk s),.tree [] .op],VB false]
theorem UF (b:List Rat) (g:List (List Rat)) (e:List Rat):hJ (CE aM b g e)=true:=by
 show sR [aC aM b,aC (aC aM) g,aC aM e]=true
 simp only[sR,GV,aoM,Bool.and_self]
theorem amB (s:vJ):hJ (M1 s)=true:=by
 unfold M1
 split
 ·exact zI (UF _ _ _) rfl
 ·exact zI (UF [] _ []) rfl
end Go.PM
namespace Go.PM
open Go.Lib
theorem NQ {out:List (List Rat)} (h:out.length=0) (K:aA):PM.fz 6 K (.tree [] .nil)=some (aC (aC aM) out):=by
 have ho:out=[]:=aMJ.1 h
 subst ho
 exact Ca
theorem NV {out:List (List Rat)} {i:Nat} {X Y:fC} (h:out.length=i+1):PM.fz 6 [X,Y,.row i (out.map (aC aM)) 1 true] (.ref 2 i 0 (i+1) (i+1))=some (aC (aC aM) out):=by
 have:=GQ (d:=4) (c:=i+1) (b:=2) (g:=i) (e:=1) (w:=true) (H:=[X,Y,.row i (out.map (aC aM)) 1 true]) (rI ·) (by rw[dZ,dZ,aT]) (by omega)
 rw[h] at this
 exact this
def Yo (i:Nat) (out:List (List Rat)):aA:=match i with
 | 0=>[kR,kR]
 | i+1=>[kR,.row 0 [.agg [.tree [] .nil,.ref 2 i 0 (i+1) (i+1),.tree [] .nil]] 3 true,.row i (out.map (aC aM)) 1 true]
theorem Wa {H:aA} {u v:VV} (h:PM.fz 6 H u=some v):PM.fz depth H (.eJ [.agg [.tree [] .nil,u,.tree [] .nil],VB false])=some (.eJ [.agg [.tree [] .op,v,.tree [] .op],VB false]):=by
 refine bO (d:=6) (He (d:=5) ?_) (aN (v:=VB false) rfl)
 rw[aLY,Ca,aLY,h,aLY,Ca]
 rfl
set_option maxHeartbeats 4000000 in
set_option maxRecDepth 20000 in
theorem Np (s:vJ) (hb:TN s):TC 109 [(vW s).cJ 0] (M1 s):=by
 refine TC.walk ⟨true,false⟩ Ny rfl (aMp rfl) (Ap (show bA (vW s)=true from rS _)) (amB _) ?_
 have zE:=hb.b4
 have hel:=hb.e4
 have bad:fA s=none→Nk s=[]→∀K,PM.fz depth K (.eJ [.agg [.tree [] .nil,.tree [] .nil,.tree [] .nil],VB false])=some (M1 s):=fun h hp K=>by
  have:M1 s = .eJ [.agg [.tree [] .op,.tree [] .op,.tree [] .op],VB false]:=by unfold M1;rw[h,hp];rfl
  rw[this]
  exact Wa Ca
 have st1:bL 0 3 (.ptr 1 0 0 0) (.agg [.tree [] .nil,.tree [] .nil,.tree [] .nil]) [kR,kR]=some [kR,kR]:=by
  rw[bS (e:=3) (g:=0) (j:=0) (dZ.trans aT) (by exact aNT) (by omega) rfl rfl]
  rfl
 have KS:bL 0 3 (.ptr 0 0 0 0) (.agg [.tree [] .nil,.tree [] .nil,.tree [] .nil]) [kR,kR]=some [kR,kR]:=by
  rw[bS (e:=3) (g:=0) (j:=0) aT (by exact aNT) (aKB _) rfl rfl]
  rfl
 have Ty:bH true 3 (.ptr 0 0 0 0) [kR,kR]=some (.agg [.tree [] .nil,.tree [] .nil,.tree [] .nil]):=rfl
 have ld1:bH true 3 (.ptr 1 0 0 0) [kR,kR]=some (.agg [.tree [] .nil,.tree [] .nil,.tree [] .nil]):=rfl
 by_cases h1:(s.b.length:Int)<1
 ·have bad:=bad (by unfold fA;exact if_neg (by omega)) (by unfold Nk;exact if_neg (by omega))
  simp only[gI,dX,vW,h1,KS,st1,Ty,ld1,dW,aKV,aMl,aL9,aLT,aMe,aL1,aKL,dT,VX,Nat.reduceEqDiff,Nat.reduceAdd,Nat.reduceLeDiff,Nat.reduceLT,Nat.reduceSub]
  exact bad _
 by_cases h6:(6:Int)<(s.b.length:Int)
 ·have bad:=bad (by unfold fA;exact if_neg (by omega)) (by unfold Nk;exact if_neg (by omega))
  simp only[gI,dX,vW,h1,h6,KS,st1,Ty,ld1,dW,aKV,aMl,aL9,aLT,aMe,aL1,aKL,dT,VX,Nat.reduceEqDiff,Nat.reduceAdd,Nat.reduceLeDiff,Nat.reduceLT,Nat.reduceSub]
  exact bad _
 by_cases hg:(s.g.length:Int)=(s.b.length:Int)
 case neg =>
  have bad:=bad (by unfold fA;exact if_neg (by omega)) (by unfold Nk;exact if_neg (by omega))
  simp only[gI,dX,vW,h1,h6,hg,KS,st1,Ty,ld1,dW,aKV,aMl,aL9,aLT,aMe,aL1,aKL,ne_eq,not_false_eq_true,decide_true,dT,VX,Nat.reduceEqDiff,Nat.reduceAdd,Nat.reduceLeDiff,Nat.reduceLT,Nat.reduceSub]
  exact bad _
 by_cases he:(s.e.length:Int)=(s.b.length:Int)
 case neg =>
  have bad:=bad (by unfold fA;exact if_neg (by omega)) (by unfold Nk;exact if_neg (by omega))
  simp only[gI,dX,vW,h1,h6,hg,he,KS,st1,Ty,ld1,dW,aKV,aMl,aL9,aLT,aMe,aL1,aKL,ne_eq,not_false_eq_true,not_true_eq_false,decide_true,decide_false,dT,VX,Nat.reduceEqDiff,Nat.reduceAdd,Nat.reduceLeDiff,Nat.reduceLT,Nat.reduceSub]
  exact bad _
 have uT:(1≤s.b.length∧s.b.length≤6)∧s.g.length=s.b.length∧s.e.length=s.b.length:=by omega
 have e1:=A7 s.b (by omega) hb.bs
 have e2:=A7 s.e (by omega) hb.es
 cases hwr:tB s.b with
 |
  none =>
  rw[hwr,Eo] at e1
  have hw:=Mh hwr
  have bad:=bad (by unfold fA;rw[if_pos uT,hw]) (by unfold Nk;rw[if_pos uT,hw])
  cases hr:tB s.e with
  |
   none =>
   rw[hr,Eo] at e2
   simp only[gI,dX,vW,h1,h6,hg,he,e1,e2,KS,st1,Ty,ld1,dW,aKV,aMl,aL9,aLT,aMe,aL1,aKL,ne_eq,not_true_eq_false,decide_false,dT,VX,Nat.reduceEqDiff,Nat.reduceAdd,Nat.reduceLeDiff,Nat.reduceLT,Nat.reduceSub]
   exact bad _
  |
   some r =>
   rw[hr,Ei] at e2
   simp only[gI,dX,vW,h1,h6,hg,he,e1,e2,KS,st1,Ty,ld1,dW,aKV,aMl,aL9,aLT,aMe,aL1,aKL,ne_eq,not_true_eq_false,decide_false,dT,VX,Nat.reduceEqDiff,Nat.reduceAdd,Nat.reduceLeDiff,Nat.reduceLT,Nat.reduceSub]
   exact bad _
 |
  some w =>
  rw[hwr,Ei] at e1
  obtain⟨hwb,hwl,_⟩:=nD hwr
  have Sm:=JW w hwb hwl
  cases hr:tB s.e with
  |
   none =>
   rw[hr,Eo] at e2
   have bad:=bad (by unfold fA;rw[if_pos uT,hr];cases mU s.b<;>rfl) (by unfold Nk;rw[if_pos uT,hr];cases mU s.b<;>rfl)
   simp only[gI,dX,vW,h1,h6,hg,he,e1,e2,KS,st1,Ty,ld1,dW,aKV,aMl,aL9,aLT,aMe,aL1,aKL,ne_eq,not_true_eq_false,decide_false,dT,VX,Nat.reduceEqDiff,Nat.reduceAdd,Nat.reduceLeDiff,Nat.reduceLT,Nat.reduceSub]
   exact bad _
  |
   some r =>
   rw[hr,Ei] at e2
   obtain⟨Bm,BX,acQ⟩:=nD hr
   cases hww:jB w with
   |
    false =>
    rw[hww] at Sm
    have hw:mU s.b=none:=by rw[FD hwr,if_neg (by simp[hww])]
    have bad:=bad (by unfold fA;rw[if_pos uT,hw]) (by unfold Nk;rw[if_pos uT,hw])
    simp only[gI,dX,vW,h1,h6,hg,he,e1,Sm,e2,KS,st1,Ty,ld1,dW,aKV,aMl,aL9,aLT,aMe,aL1,aKL,ne_eq,not_true_eq_false,decide_false,dT,VX,Nat.reduceEqDiff,Nat.reduceAdd,Nat.reduceLeDiff,Nat.reduceLT,Nat.reduceSub]
    exact bad _
   |
    true =>
    rw[hww] at Sm
    have hw:mU s.b=some w:=by rw[FD hwr,if_pos hww]
    have e3:=uU r (by omega)
    cases An:r.any (fun q=>decide (q<0)) with
    |
     true =>
     rw[An] at e3
     have bad:=bad (by unfold fA;rw[if_pos uT,hw,hr];exact if_neg (by rw[An];decide)) (by unfold Nk;rw[if_pos uT,hw,hr];exact if_neg (by rw[An];decide))
     simp only[gI,dX,vW,h1,h6,hg,he,e1,Sm,e2,e3,KS,st1,Ty,ld1,dW,aKV,aMl,aL9,aLT,aMe,aL1,aKL,aOg,ne_eq,not_true_eq_false,decide_false,dT,VX,Nat.reduceEqDiff,Nat.reduceAdd,Nat.reduceLeDiff,Nat.reduceLT,Nat.reduceSub]
     exact bad _
    |
     false =>
     rw[An] at e3
     have Hh:fA s=(iS s.g s.b.length).map fun m=>(w,m,r):=by unfold fA;rw[if_pos uT,hw,hr];exact if_pos An
     have Dn:Nk s=Dz s.g s.b.length:=by unfold Nk;rw[if_pos uT,hw,hr];exact if_pos An
     clear bad
     simp only[gI,dX,vW,h1,h6,hg,he,e1,Sm,e2,e3,st1,dW,aKV,aMl,aL9,aLT,aMe,aL1,aKL,aOf,aOg,ne_eq,not_true_eq_false,decide_false,dT,VX,Nat.reduceEqDiff,Nat.reduceAdd,Nat.reduceLeDiff,Nat.reduceLT,Nat.reduceSub]
     refine aP (fun(i:Nat) ρ H=>i≤s.b.length∧(∃out,iS s.g i=some out∧H=Yo i out)∧ρ 0=(vW s).cJ 0∧ρ 2 = .ptr 0 0 0 0∧ρ 4=VI s.b.length∧ρ 5 = .ptr 1 0 0 0∧ρ 6=aC aM w∧ρ 8=aC aM r∧ρ 10=VI i) (fun i=>s.b.length-i) 0
      ⟨aK5 _,⟨[],rfl,rfl⟩,by (repeat' apply aMh)<;>first | rfl | trivial | assumption⟩ ?_
     rintro i ρ H ⟨hi,⟨out,wA,rfl⟩,g0,g2,g4,g5,g6,g8,g10⟩
     obtain⟨iB,hof⟩:=tM wA
     by_cases bZ:(i:Int)<(s.b.length:Int)
     ·obtain⟨x,hx⟩:∃x,s.g[i]? = some x:=⟨_,aKI (by omega)⟩
      have hxm:=aLv hx
      have hgd:s.g.getD i []=x:=by rw[aKy,hx];rfl
      have a1:=fun H=>aI (f:=gM) (t := .op) (H:=H) (size:=1) (k := .i64) hx rfl
      have wi:IntKind.i64.wrap ((i:Int)+1)=((i+1:Nat):Int):=wrapN (i+1) (by omega) (by omega)
      have e4:=A7 x (hb.g9.2 x hxm) (hb.gs x hxm)
      have wU:iS s.g (i+1)=match iD s.g.length i x with | some q=>some (out++[q]) | none=>none:=by
       rw[iS,wA,hgd]
       cases iD s.g.length i x<;>rfl
      have bad:iD s.g.length i x=none→∀(u:VV) (K:aA),PM.fz 6 K u=some (aC (aC aM) out)→PM.fz depth K (.eJ [.agg [.tree [] .nil,u,.tree [] .nil],VB false])=some (M1 s):=fun h u K hK=>by
       have hp:M1 s = .eJ [.agg [.tree [] .op,aC (aC aM) out,.tree [] .op],VB false]:=by
        have h1:fA s=none:=by
         rw[h] at wU
         rw[Hh,Ej wU s.b.length (by omega)]
         rfl
        unfold M1
        rw[h1,Dn,Ww wA (by rw[hgd];exact h) s.b.length (by omega)]
       rw[hp]
       exact Wa hK
      cases HA:tB x with
      |
       none =>
       rw[HA,Eo] at e4
       have bd:=bad (by unfold iD;rw[HA])
       cases i with
       |
        zero =>
        simp only[dE,Yo,vW,g0,g2,g4,g5,g10,bZ,a1,e4,dW,fZ,Nat.reduceLeDiff,Nat.reduceLT,Nat.reduceSub,lU,bT,cK,fI,kA,nR,bne_iff_ne,ne_eq,not_false_eq_true,not_true_eq_false,VX,Nat.reduceEqDiff,Nat.reduceAdd]
        exact bd _ _ (NQ iB _)
       |
        succ i =>
        simp only[dE,Yo,vW,g0,g2,g4,g5,g10,bZ,a1,e4,dW,fZ,Nat.reduceLeDiff,Nat.reduceLT,Nat.reduceSub,lU,bT,cK,fI,kA,nR,bne_iff_ne,ne_eq,not_false_eq_true,not_true_eq_false,VX,Nat.reduceEqDiff,Nat.reduceAdd]
        exact bd _ _ (NV iB)
      |
       some y =>
       rw[HA,Ei] at e4
       obtain⟨hyb,hyl,_⟩:=nD HA
       by_cases hl:(y.length:Int)=(s.b.length:Int)
       case neg =>
        have bd:=bad (by unfold iD;rw[HA];exact if_neg (fun h=>hl (by omega)))
        cases i with
        |
         zero =>
         simp only[dE,Yo,vW,g0,g2,g4,g5,g10,bZ,a1,e4,hl,dW,ne_eq,not_false_eq_true,decide_true,fZ,Nat.reduceLeDiff,Nat.reduceLT,Nat.reduceSub,lU,bT,cK,fI,kA,nR,bne_iff_ne,ne_eq,not_false_eq_true,not_true_eq_false,VX,Nat.reduceEqDiff,Nat.reduceAdd]
         exact bd _ _ (NQ iB _)
        |
         succ i =>
         simp only[dE,Yo,vW,g0,g2,g4,g5,g10,bZ,a1,e4,hl,dW,ne_eq,not_false_eq_true,decide_true,fZ,Nat.reduceLeDiff,Nat.reduceLT,Nat.reduceSub,lU,bT,cK,fI,kA,nR,bne_iff_ne,ne_eq,not_false_eq_true,not_true_eq_false,VX,Nat.reduceEqDiff,Nat.reduceAdd]
         exact bd _ _ (NV iB)
       have e5:=uU y (by omega)
       cases J6:y.any (fun q=>decide (q<0)) with
       |
        true =>
        rw[J6] at e5
        have bd:=bad (by unfold iD;rw[HA];exact if_neg (fun h=>by rw[J6] at h;cases h.2.1))
        cases i with
        |
         zero =>
         simp only[dE,Yo,vW,g0,g2,g4,g5,g10,bZ,a1,e4,e5,hl,dW,aOg,ne_eq,not_true_eq_false,decide_false,fZ,Nat.reduceLeDiff,Nat.reduceLT,Nat.reduceSub,lU,bT,cK,fI,kA,nR,bne_iff_ne,ne_eq,not_false_eq_true,not_true_eq_false,VX,Nat.reduceEqDiff,Nat.reduceAdd]
         exact bd _ _ (NQ iB _)
        |
         succ i =>
         simp only[dE,Yo,vW,g0,g2,g4,g5,g10,bZ,a1,e4,e5,hl,dW,aOg,ne_eq,not_true_eq_false,decide_false,fZ,Nat.reduceLeDiff,Nat.reduceLT,Nat.reduceSub,lU,bT,cK,fI,kA,nR,bne_iff_ne,ne_eq,not_false_eq_true,not_true_eq_false,VX,Nat.reduceEqDiff,Nat.reduceAdd]
         exact bd _ _ (NV iB)
       |
        false =>
        rw[J6] at e5
        obtain⟨q,hq⟩:∃q,y[i]? = some q:=⟨_,aKI (by omega)⟩
        have hqd:y.getD i 0=q:=by rw[aKy,hq];rfl
        have a2:=fun H=>aI (f:=aM) (t := .op) (H:=H) (size:=3) (k := .i64) hq rfl
        have e6:=rA q
        by_cases hz:q=0
        case neg =>
         rw[decide_eq_false hz] at e6
         have bd:=bad (by unfold iD;rw[HA];exact if_neg (fun h=>hz (by rw[←hqd];exact h.2.2)))
         cases i with
         |
          zero =>
          simp only[dE,Yo,vW,g0,g2,g4,g5,g10,bZ,a1,a2,e4,e5,e6,hl,dW,cI,aOf,ne_eq,not_true_eq_false,decide_false,fZ,Nat.reduceLeDiff,Nat.reduceLT,Nat.reduceSub,lU,bT,cK,fI,kA,nR,bne_iff_ne,ne_eq,not_false_eq_true,not_true_eq_false,VX,Nat.reduceEqDiff,Nat.reduceAdd]
          exact bd _ _ (NQ iB _)
         |
          succ i =>
          simp only[dE,Yo,vW,g0,g2,g4,g5,g10,bZ,a1,a2,e4,e5,e6,hl,dW,cI,aOf,ne_eq,not_true_eq_false,decide_false,fZ,Nat.reduceLeDiff,Nat.reduceLT,Nat.reduceSub,lU,bT,cK,fI,kA,nR,bne_iff_ne,ne_eq,not_false_eq_true,not_true_eq_false,VX,Nat.reduceEqDiff,Nat.reduceAdd]
          exact bd _ _ (NV iB)
        rw[decide_eq_true hz] at e6
        have lT:iD s.g.length i x=some y:=by unfold iD;rw[HA];exact if_pos ⟨by omega,J6,by rw[hqd,hz]⟩
        rw[lT] at wU
        have eL:∀K,mW false [.slice none 0 0] 1 [(0,aC aM y)] K=some (.tree [aC aM y] (.cl 1),K):=fun K=>iY rfl rfl rfl
        have eS:∀K,cZ 1 (.tree [aC aM y] (.cl 1)) K=some [aC aM y]:=fun K=>eV rfl rfl
        cases i with
        |
         zero =>
         have ho:out=[]:=aMJ.1 iB
         subst ho
         have eP:∀K:aA,dR 0 1 24 (.tree [] .nil) [aC aM y] K=some (.ref K.length 0 0 1 1,K++[.row 0 [aC aM y] 1 true]):=fun K=>by simp[dR]
         simp only[dE,Yo,vW,g0,g2,g4,g5,g10,bZ,a1,a2,e4,e5,e6,hl,eL,eS,eP,wi,dW,cI,aOf,aOg,ne_eq,not_true_eq_false,decide_false,aKL,aMe,aL1,aLT,fZ,Nat.reduceLeDiff,Nat.reduceLT,Nat.reduceSub,lU,bT,cK,fI,kA,nR,bne_iff_ne,ne_eq,not_false_eq_true,not_true_eq_false,VX,Nat.reduceEqDiff,Nat.reduceAdd]
         exact⟨1,by omega,by omega,⟨[y],wU,rfl⟩,by (repeat' apply aMh)<;>first | rfl | trivial | assumption⟩
        |
         succ i =>
         have eP:dR 0 1 24 (.ref 2 i 0 (i+1) (i+1)) [aC aM y] (Yo (i+1) out)=some (.ref 2 (i+1) 0 (i+2) (i+2),[kR,.row 0 [.agg [.tree [] .nil,.ref 2 i 0 (i+1) (i+1),.tree [] .nil]] 3 true,.row (i+1) ((out++[y]).map (aC aM)) 1 true]):=by
          rw[Yo,jT (f:=aC aM) (xs:=out) (by rw[dZ,dZ,aT]) iB.symm (aK5 _) (by decide) (by decide) (by omega)]
          rfl
         simp only[Yo] at eP
         simp only[dE,Yo,vW,g0,g2,g4,g5,g10,bZ,a1,a2,e4,e5,e6,hl,eL,eS,eP,wi,dW,cI,aOf,aOg,ne_eq,not_true_eq_false,decide_false,fZ,Nat.reduceLeDiff,Nat.reduceLT,Nat.reduceSub,lU,bT,cK,fI,kA,nR,bne_iff_ne,ne_eq,not_false_eq_true,not_true_eq_false,VX,Nat.reduceEqDiff,Nat.reduceAdd]
         exact⟨i+2,by omega,by omega,⟨out++[y],wU,rfl⟩,by (repeat' apply aMh)<;>first | rfl | trivial | assumption⟩
     ·have mC:i=s.b.length:=by omega
      rw[mC] at wA iB
      obtain⟨k,hk⟩:∃k,s.b.length=k+1:=⟨s.b.length-1,by omega⟩
      have Wn:i=k+1:=by omega
      subst Wn
      have aCv:r.length=s.b.length:=by omega
      have aGd:w.length=s.b.length:=(nD hwr).2.2
      have aoB:M1 s = .eJ [CE aM w out r,VB (Fp (w,out,r))]:=by unfold M1;rw[Hh,wA];rfl
      rw[aoB]
      have aCl:∀q∈r,0≤q:=fun q hq=>Rat.not_lt.1 (by have:=List.any_eq_false.1 An q hq;simpa using this)
      have hF:=IH (b:=w) (g:=out) (e:=r) (n:=r.length) (by omega) (by omega) (by omega) (fun z hz=>⟨by have:=(hof z hz).1;omega,fun q hq=>((hof z hz).2 q hq).1⟩) rfl aCl
      have RI:∀Y X:fC,aG [Y,X,.row k (out.map (aC aM)) 1 true] 2 k=some (out.map (aC aM),1,true):=fun Y X=>by rw[dZ,dZ,aT]
      have aiB:=fun Y X=>GQ (d:=4) (c:=k+1) (rI ·) (RI Y X) (by omega)
      rw[hk] at iB
      rw[iB] at aiB
      have hfa:∀Y X,PM.fz 7 [Y,X,.row k (out.map (aC aM)) 1 true] (.agg [aC aM w,.ref 2 k 0 (k+1) (k+1),aC aM r])=some (CE aM w out r):=fun Y X=>by
       refine He (d:=5) ?_
       rw[aLY,aN (rI w),aLY,aiB,aLY,aN (rI r)]
       rfl
      have hp1:PM.fz depth [kR,.row 0 [.agg [aC aM w,.ref 2 k 0 (k+1) (k+1),aC aM r]] 3 true,.row k (out.map (aC aM)) 1 true] (.ptr 1 0 0 0)=some (svP w out r):=axT (o:=0) (b:=1) (g:=0) (j:=0) (es:=[.agg [aC aM w,.ref 2 k 0 (k+1) (k+1),aC aM r]]) (x := .agg [aC aM w,.ref 2 k 0 (k+1) (k+1),aC aM r]) (x':=CE aM w out r) (dZ.trans aT) rfl (hfa _ _)
      have hE2:=fun lo K=>TC.flat (args:=[.ptr 1 0 0 0]) (mG:=[svP w out r]) hF rfl (Ap (Vp _ _ _)) (fz1 hp1) rfl lo K
      simp only[dE,Yo,g2,g4,g5,g6,g8,g10,bZ,hE2,dW,fZ,Nat.reduceLeDiff,Nat.reduceLT,Nat.reduceSub,lU,bT,cK,fI,kA,nR,bne_iff_ne,ne_eq,not_false_eq_true,not_true_eq_false,VX,Nat.reduceEqDiff,Nat.reduceAdd]
      exact bO (d:=6) (hfa _ _) (aN (v:=VB _) rfl)
end Go.PM
namespace Go.PM
end Go.PM
namespace Go.PM
theorem pT (q:Rat):(aB (aM q)).all bN=true:=rfl
theorem alT {lo k:Nat} {H K:aA} {x:VV} {q:Rat} (h:lo≤H.length) (hK:K[k]? = some (.row 0 [x] 3 true)):bL lo 3 (.ptr (H.length+k) 0 0 0) (aM q) (H++K)=some (H++K.set k (.row 0 [aM q] 3 true)):=by
 have hr:aG (H++K) (H.length+k) 0=some ([x],3,true):=by
  rw[cB,List.getElem?_append_right (by omega),aMs]
  exact hK
 rw[bS (e:=3) hr (by exact aNT) (by omega) (jA q) (pT q),List.set_append_right _ _ (by omega),aMs]
 rfl
theorem amH {H:aA} {b:Nat} {q:Rat} (h:aG H b 0=some ([aM q],3,true)):bH true 3 (.ptr b 0 0 0) H=some (aM q):=by
 rw[bJ,h]
 exact cI q
end Go.PM
namespace Go.PM
open Go.Lib
section
variable {lo gF hi N b g c:Nat} {H:aA} {L:List Qi}
structure Tq (f:Rat→VV) (lo hi N b g:Nat) (L:List Qi) (H:aA):Prop where
 t:Tb f lo hi N N b g (iV L) H
 b:∀t∈L,aK t.2.2≤1331
 l:L.length≤400
theorem Tq.bits {f:Rat→VV} (h:Tq f lo hi N b g L H) (i j:Nat):aK (iV L i j)≤1000000:=by
 have h1:=PO h.b i j
 have h2:L.length*(1331+1)≤400*(1331+1):=aK2 _ h.l
 omega
theorem Tq.dB {f:Rat→VV} {H':aA} (h:Tq f lo hi N b g L H) (hk:jY lo hi H H'):Tq f lo hi N b g L H':=⟨h.t.dB hk,h.b,h.l⟩
theorem Tq.pre {f:Rat→VV} {H':aA} (h:Tq f lo hi N b g L H) (hh:H <+: H'):Tq f lo hi N b g L H':=h.dB (jY.pre hh)
theorem Tq.snoc {f:Rat→VV} {H':aA} {i j:Nat} {q:Rat} (h:Tq f lo hi N b g L H) (hT:Tb f lo hi N N b g (iV (L++[(i,j,q)])) H') (hq:aK q≤1331) (hl:L.length<400):Tq f lo hi N b g (L++[(i,j,q)]) H' :=
 ⟨hT,fun t ht=>by
  rcases List.mem_append.1 ht with ht | ht
  ·exact h.b t ht
  ·rw[List.mem_singleton] at ht
   subst ht
   exact hq,by rw[List.length_append];exact hl⟩
theorem Tq.same {f:Rat→VV} {i:Nat} {q:Rat} (h:Tq f lo hi N b g L H) (hq:aK q≤1331) (hl:L.length<400):Tq f lo hi N b g (L++[(i,i,q)]) H:=h.snoc (by rw[YY];exact h.t) hq hl
end
theorem aAi {H:aA} {es:List VV} {k:Nat} (hp:aO es=true):PM.fz depth H (.tree es (.cl k))=some (.tree es .op):=by
 have h0:bA (.tree es (.cl k))=false:=by simp[bA]
 show PM.fz (7+1) H _=_
 unfold PM.fz
 simp only[h0,Bool.false_eq_true,if_false]
 rw[mapM_pure (n:=6) hp]
 rfl
theorem acS {H:aA} {es:List VV} {k:Nat} (hp:aO es=true):iW depth H (.tree es (.cl k))=[]:=by
 have h0:bA (.tree es (.cl k))=false:=by simp[bA]
 show iW (7+1) H _=_
 unfold iW
 simp only[h0,Bool.false_eq_true,if_false]
 exact AA hp
theorem TC.cl {f lo k:Nat} {H:aA} {es:List VV} {r:VV} {K:VV→aA→Prop} (h:TC f [.tree es .op] r) (hr:FH.contains f=false) (hp:aO es=true) (BY:bA (.tree es .op)=true):dI f [.tree es (.cl k)] lo H K=K r H:=by
 have h0:bA (.tree es (.cl k))=false:=by simp[bA]
 rw[h.Dq (H:=H) (lo:=lo) (k:=K) hr (Ap BY) (fz1 (aAi hp)) (by simp[aO,h0]),List.flatMap_cons,acS hp]
 split<;>rfl
theorem TabIs.fz {f:Rat→VV} {m:List (List Rat)} {lo hi:Nat} {H:aA} {v:VV} (h:TabIs f 3 m lo hi H v) (hpu:∀x,bA (f x)=true):PM.fz depth H v=some (aC (aC f) m):=by
 obtain⟨b,g,c,rs,rfl,k1,hM,hrs⟩:=h
 have BX:rs.length=m.length:=by rw[←hrs,List.length_map]
 have hfz:=hM.fz (d:=5) (c:=c) (by omega) hpu
 rw[hrs,BX] at hfz
 exact hfz
theorem wN {x:Int} (k:Nat) (h:x=k) (hk:k≤1000000000):IntKind.i64.wrap x=(k:Int):=by
 subst h
 exact wrapN k (by omega) (by omega)
theorem QOk.told {p:Nat×List Qi} (hp:QOk p):(Ua (N7 p)).length≤1000000∧∀r∈Ua (N7 p),r.length≤1000000∧∀q∈r,aK q≤1099511627776:=by
 have hn:=hp.n
 obtain⟨el,eb⟩:=aeW Ye (B:=600000) hp.rows (by omega) (by omega)
 exact⟨by omega,fun r hr=>⟨by have:=(eb r hr).1;omega,fun q hq=>by have:=(eb r hr).2 q hq;omega⟩⟩
end Go.PM
namespace Go.PM
structure ZU (s:vJ):Prop where
 b:s.b.length≤100
 g:s.g.length≤100
 r:∀x∈s.g,x.length≤100
 e:s.e.length≤100
theorem DQ {β:Type}:∀ {xs:List (List β)} {n:Nat},(∀x∈xs,x.length≤n)→Iy xs≤xs.length*n
 | [],n,_=>by simp[Iy]
 |
  x::xs,n,h=>by
  have h1:=h x List.mem_cons_self
  have h2:=DQ (xs:=xs) (n:=n) fun y hy=>h y (List.mem_cons_of_mem _ hy)
  have e:Iy (x::xs)=x.length+Iy xs:=by simp[Iy]
  rw[e,aKL,aK6,Nat.one_mul]
  omega
theorem ZU.n {s:vJ} (h:ZU s):svN s≤10200:=by
 have h1:=DQ h.r
 have h2:s.g.length*100≤100*100:=aK2 _ h.g
 have h3:=h.b
 have h4:=h.e
 unfold svN
 omega
end Go.PM
namespace Go.PM
open Go.Lib
theorem LsO.wide {α:Type} {f:α→VV} {e:Nat} {o:Option (List α)}:∀ {lo hi gF qL:Nat} {H:aA} {v:VV},LsO f e o lo hi H v→gF≤lo→hi≤qL→LsO f e o gF qL H v:=by
 intro lo hi gF qL H v h hl hh
 cases o with
 | none=>exact h
 |
  some ys =>
  obtain⟨b,g,c,h1,h2,h3⟩:=h
  exact⟨b,g,c,by omega,by omega,h3⟩
end Go.PM
namespace Go.PM
structure aaU (s:List (List ByteArray)):Prop where
 g:s.length≤100
 r:∀x∈s,x.length≤100
theorem aaU.n {s:List (List ByteArray)} (h:aaU s):Iy s≤10000:=by
 have h1:=DQ h.r
 have h2:s.length*100≤100*100:=aK2 _ h.g
 omega
end Go.PM
namespace Go.PM
end Go.PM
namespace Go.PM
open Go.Lib
end Go.PM
namespace Go.PM
open Go.Lib
def H6 (A:Nat→Nat→Rat) (b:Nat→Rat) (n i j:Nat):Rat:=if j<n then A i j else b i
def jnA (i:Nat) (A:Nat→Nat→Rat) (b:Nat→Rat) (n:Nat):Nat→Nat→Rat:=H6 (Hr (cDg i A) i A) (T6 (cDg i A) i b) n
def jnR (i:Nat) (A:Nat→Nat→Rat) (b:Nat→Rat) (n r a c:Nat):Rat:=if a<r then jnA i A b n a c else H6 A b n a c
def jnC (i:Nat) (A:Nat→Nat→Rat) (b:Nat→Rat) (n r j a c:Nat):Rat:=if a=r∧c<j then jnA i A b n r c else jnR i A b n r a c
section
variable {i n r:Nat} {A:Nat→Nat→Rat} {b:Nat→Rat}
theorem IX {a c:Nat} (h:c<n):H6 A b n a c=A a c:=if_pos h
theorem Zv {a:Nat}:H6 A b n a n=b a:=if_neg (aOh _)
theorem XL {a c:Nat}:jnA i A b n a c=H6 A b n a c-cDg i A a*H6 A b n i c:=by
 unfold jnA H6 Hr T6
 split<;>rfl
theorem ZZ {c:Nat}:jnA i A b n i c=H6 A b n i c:=by
 rw[XL,show cDg i A i=0 from if_pos rfl,aOi]
 grind
theorem agZ (h:A r i=0) {c:Nat}:jnA i A b n r c=H6 A b n r c:=by
 rw[XL]
 have:cDg i A r=0:=by
  unfold cDg
  split
  ·rfl
  ·rw[h,Rat.div_def,aOi]
 rw[this,aOi]
 grind
theorem anY (h:r≠i) {c:Nat}:jnA i A b n r c=H6 A b n r c-A r i / A i i*H6 A b n i c:=by
 rw[XL,show cDg i A r=A r i / A i i from if_neg h]
theorem Ta {c:Nat}:jnR i A b n r r c=H6 A b n r c:=if_neg (aOh _)
theorem ZF {c:Nat}:jnR i A b n r i c=H6 A b n i c:=by
 unfold jnR
 split
 ·exact ZZ
 ·rfl
theorem V9 (h:r=i∨A r i=0) {a c:Nat}:jnR i A b n r a c=jnR i A b n (r+1) a c:=by
 unfold jnR
 by_cases h1:a<r
 ·rw[if_pos h1,if_pos (by omega)]
 ·rw[if_neg h1]
  by_cases h2:a=r
  ·subst h2
   rw[if_pos (by omega)]
   rcases h with h | h
   ·subst h;exact ZZ.symm
   ·exact(agZ h).symm
  ·rw[if_neg (by omega)]
theorem adM (hz:∀c,c<i→A i c=0) (bZ:i<n) (h:r≠i) {a c:Nat}:jnR i A b n r a c=jnC i A b n r i a c:=by
 unfold jnC
 by_cases h1:a=r∧c<i
 ·obtain⟨rfl,h2⟩:=h1
  rw[if_pos ⟨rfl,h2⟩,Ta,anY h,IX (by omega:c<n),IX (by omega:c<n),hz c h2]
  grind
 ·rw[if_neg h1]
theorem asG {j:Nat}:jnC i A b n r j r j=H6 A b n r j:=by
 unfold jnC
 rw[if_neg (by omega),Ta]
theorem aqC {j c:Nat} (h:r≠i):jnC i A b n r j i c=H6 A b n i c:=by
 unfold jnC
 rw[if_neg (by omega),ZF]
theorem ahE {j a c:Nat}:OQ (jnC i A b n r j) r j (jnA i A b n r j) a c=jnC i A b n r (j+1) a c:=by
 unfold OQ jnC
 by_cases h1:a=r∧c=j
 ·obtain⟨rfl,rfl⟩:=h1
  rw[if_pos ⟨rfl,rfl⟩,if_pos ⟨rfl,by omega⟩]
 ·rw[if_neg h1]
  by_cases h2:a=r∧c<j
  ·rw[if_pos h2,if_pos ⟨h2.1,by omega⟩]
  ·rw[if_neg h2,if_neg (by omega)]
theorem apW {a c:Nat} (hc:c<n+1):jnC i A b n r (n+1) a c=jnR i A b n (r+1) a c:=by
 unfold jnC
 by_cases h1:a=r∧c<n+1
 ·obtain⟨rfl,_⟩:=h1
  rw[if_pos ⟨rfl,hc⟩]
  unfold jnR
  rw[if_pos (by omega)]
 ·rw[if_neg h1]
  unfold jnR
  by_cases h2:a<r
  ·rw[if_pos h2,if_pos (by omega)]
  ·rw[if_neg h2,if_neg (by omega)]
theorem atT {k m a c:Nat}:swp k m (H6 A b n) a c=H6 (swp k m A) (swp k m b) n a c:=by
 unfold swp H6
 by_cases h1:a=k
 ·simp only[h1,if_true]
 ·simp only[h1,if_false]
  by_cases h2:a=m
  ·simp only[h2,if_true]
  ·simp only[h2,if_false]
end
theorem Qb {lo gF hi N M b g c:Nat} {F:Nat→Nat→Rat} {H:aA} {k m:Nat} (h:Tb aM gF hi N M b g F H) (hk:k<N) (hm:m<N) (dS:lo≤gF) :
  jH 179 [.ref b g 0 N c,VI k,VI m] lo H fun _ H'=>QJ gF hi H H'∧Tb aM gF hi N M b g (swp k m F) H':=by
 refine jH.walk ⟨true,false⟩ PL (aMp rfl) ?_
 obtain⟨u,v,e1,e2,e3⟩:=h.swap hk hm
 obtain⟨Ha,Hb,e4,e5,e6,e7,e8,e9⟩:=e3 lo dS
 have a1:=h.addr (c:=c) hk
 have a2:=h.addr (c:=c) hm
 simp only[I5,FB,a1,a2,e1,e2,e4,e5,e6,dT,VX,Nat.reduceEqDiff,Nat.reduceAdd,Nat.reduceLeDiff,Nat.reduceLT,Nat.reduceSub]
 exact⟨e8,e9⟩
set_option maxHeartbeats 16000000 in
set_option maxRecDepth 30000 in
theorem M7 {lo gF hi n b g c G η:Nat} {H:aA} {A0:Nat→Nat→Rat} {b0 X:Nat→Rat} (hT:Tb aM gF hi n (n+1) b g (H6 A0 b0 n) H) (hU:DgS n 0 G A0 b0 X) (hX:dH η n X) (hn:n≤12) (hG:2^n*(G+1)≤68719476736) (hη:η≤274877906944) (dS:lo≤gF) (hlH:lo≤H.length) (hhi:hi≤H.length) :
  jH 134 [.ref b g 0 n c] lo H fun r H'=>∃v,r = .eJ [v,VB true]∧H.length≤H'.length∧JT aM 3 (vec n X) H.length H'.length H' v∧∀b' g' x,(b'<gF∨hi≤b')→aG H b' g'=some x→aG H' b' g'=some x:=by
 refine jH.walk ⟨true,false⟩ M4 (aMp rfl) ?_
 have el:=hT.len (c:=c)
 simp only[HN,EN,el,dT,VX,Nat.reduceEqDiff,Nat.reduceAdd,Nat.reduceLeDiff,Nat.reduceLT,Nat.reduceSub]
 have hgk:∀k,k≤n→gk G k≤68719476736:=fun k hk=>aKC (avI hk) hG
 have wn:∀k:Nat,k≤n+1→IntKind.i64.wrap ((k:Int)+1)=((k+1:Nat):Int):=fun k hk=>wN _ (by omega) (by omega)
 have trB:∀ {lo hi:Nat} {H H' W4:aA},(H.length≤H'.length∧∀b' g' x,(b'<lo∨hi≤b')→aG H b' g'=some x→aG H' b' g'=some x)→(H'.length≤W4.length∧∀b' g' x,(b'<lo∨hi≤b')→aG H' b' g'=some x→aG W4 b' g'=some x)→H.length≤W4.length∧∀b' g' x,(b'<lo∨hi≤b')→aG H b' g'=some x→aG W4 b' g'=some x:=fun h h'=>⟨aKC h.1 h'.1,fun b g x k1 k2=>h'.2 b g x k1 (h.2 b g x k1 k2)⟩
 have ofR:∀ {lo hi:Nat} {H H':aA},QJ lo hi H H'→(H.length≤H'.length∧∀b' g' x,(b'<lo∨hi≤b')→aG H b' g'=some x→aG H' b' g'=some x):=fun h=>⟨Nat.le_of_eq h.1.symm,h.2⟩
 have ofA:∀ {lo hi:Nat} {H L:aA},(H.length≤(H++L).length∧∀b' g' x,(b'<lo∨hi≤b')→aG H b' g'=some x→aG (H++L) b' g'=some x):=fun {_ _ H L}=>⟨by simp,fun _ _ _ _ h=>dU h⟩
 refine aP (fun(k:Nat) ρ H1=>k≤n∧(∃A bb,DgS n k (gk G k) A bb X∧Tb aM gF hi n (n+1) b g (H6 A bb n) H1)∧(H.length≤H1.length∧∀b' g' x,(b'<gF∨hi≤b')→aG H b' g'=some x→aG H1 b' g'=some x)∧ρ 0 = .ref b g 0 n c∧ρ 4=VI n∧ρ 5=VI k) (fun k=>n-k) 0
  ⟨aK5 _,⟨A0,b0,hU,hT⟩,⟨aKB _,fun _ _ _ _ h=>h⟩,by (repeat' apply aMh)<;>first | rfl | trivial | assumption⟩ ?_
 rintro k ρ H1 ⟨hk,⟨A,bb,Ur,hT1⟩,hO1,g0,g4,g5⟩
 by_cases T2:(k:Int)<(n:Int)
 ·have oK:k<n:=by omega
  obtain⟨pm,hp1,hp2,hp3⟩:=Ur.f.ahT oK Ur.u.upper
  simp only[yF,g0,g4,g5,T2,dT,VX,Nat.reduceEqDiff,Nat.reduceAdd,Nat.reduceLeDiff,Nat.reduceLT,Nat.reduceSub]
  refine aP (fun(m:Nat) aQ H2=>H2=H1∧k≤m∧m≤n∧(∀r,k≤r→r<m→A r k=0)∧aQ 0 = .ref b g 0 n c∧aQ 4=VI n∧aQ 5=VI k∧aQ 6=VI m) (fun m=>n-m) k
   ⟨rfl,aKB _,hk,fun r h1 h2=>by omega,by (repeat' apply aMh)<;>first | rfl | trivial | assumption⟩ ?_
  clear g0 g4 g5
  rintro m ρ H2 ⟨rfl,hkm,hmn,hzero,g0,g4,g5,g6⟩
  have hm:m<n:=by
   rcases aKE m n with h | h
   ·exact h
   ·exact absurd (hzero pm hp1 (by omega)) hp3
  have ajH:(m:Int)<(n:Int):=by omega
  have a1:=hT1.addr (c:=c) hm
  obtain⟨rb1,rg1,rc1,c1,c2,c3,_⟩:=hT1.spot (i:=m) (j:=k) hm (by omega) jA pT
  have c3:=(c3 true).trans (cI _)
  rw[IX oK] at c3
  have es:=rA (A m k)
  by_cases CI:A m k=0
  ·rw[decide_eq_true CI] at es
   simp only[xV,g0,g4,g5,g6,ajH,a1,c1,c2,c3,es,wn m (by omega),dT,VX,Nat.reduceEqDiff,Nat.reduceAdd,Nat.reduceLeDiff,Nat.reduceLT,Nat.reduceSub]
   exact⟨m+1,by omega,by omega,by omega,fun r h1 h2=>by
    rcases aKE r m with h | h
    ·exact hzero r h1 h
    ·rw[show r=m by omega]
     exact CI,by (repeat' apply aMh)<;>first | rfl | trivial | assumption⟩
  ·rw[decide_eq_false CI] at es
   have fW:¬(m:Int)=(n:Int):=by omega
   have Ya:=Ur.swp hkm hm
   have S9:swp k m A k k≠0:=by unfold Go.PM.swp;rw[if_pos rfl];exact CI
   simp only[xV,g0,g4,g5,g6,ajH,a1,c1,c2,c3,es,fW,dT,VX,Nat.reduceEqDiff,Nat.reduceAdd,Nat.reduceLeDiff,Nat.reduceLT,Nat.reduceSub]
   refine gC rfl ((Qb (c:=c) hT1 oK hm dS).mono ?_)
   rintro _ Hs ⟨hOs,hTs⟩
   have hTs:=hTs.congr fun a c _ _=>atT
   have hOs:=trB hO1 (ofR hOs)
   generalize hA':Go.PM.swp k m A=A' at *
   generalize xJ:Go.PM.swp k m bb=IK at *
   simp only[g0,g4,g5,dT,VX,Nat.reduceEqDiff,Nat.reduceAdd,Nat.reduceLeDiff,Nat.reduceLT,Nat.reduceSub]
   refine aP (fun(i:Nat) aQ H2=>i≤n∧Tb aM gF hi n (n+1) b g (jnR k A' IK n i) H2∧(H.length≤H2.length∧∀b' g' x,(b'<gF∨hi≤b')→aG H b' g'=some x→aG H2 b' g'=some x)∧aQ 0 = .ref b g 0 n c∧aQ 4=VI n∧aQ 5=VI k∧aQ 7=VI i) (fun i=>n-i) 0
    ⟨aK5 _,hTs.congr fun a c _ _=>(if_neg (Nat.not_lt_zero a)).symm,hOs,by (repeat' apply aMh)<;>first | rfl | trivial | assumption⟩ ?_
   clear g0 g4 g5 g6 hTs hOs
   rintro i ρ H2 ⟨bZ,RU,Q0,g0,g4,g5,g7⟩
   have hg:=hgk k hk
   have bits:∀a c,a<n→c<n+1→aK (H6 A' IK n a c)≤343597383684:=fun a c ha hc=>by
    rcases aKE c n with h | h
    ·rw[IX h]
     have:=Ya.z.bits ha h
     omega
    ·rw[show c=n by omega,Zv]
     have:=Ya.right hX (by omega) ha
     omega
   by_cases Vq:(i:Int)<(n:Int)
   ·have uW:i<n:=by omega
    by_cases Wn:(i:Int)=(k:Int)
    ·obtain rfl:k=i:=by omega
     simp only[nU,g0,g4,g5,g7,Vq,wn k (by omega),eq_self,decide_true,dT,VX,Nat.reduceEqDiff,Nat.reduceAdd,Nat.reduceLeDiff,Nat.reduceLT,Nat.reduceSub]
     exact⟨k+1,by omega,by omega,RU.congr fun _ _ _ _=>V9 (.inl rfl),Q0,by (repeat' apply aMh)<;>first | rfl | trivial | assumption⟩
    ·have aAh:i≠k:=by omega
     have a2:=RU.addr (c:=c) uW
     obtain⟨rb2,rg2,rc2,d1,d2,d3,_⟩:=RU.spot (i:=i) (j:=k) uW (by omega) jA pT
     have d3:=(d3 true).trans (cI _)
     rw[Ta,IX oK] at d3
     have Su:=rA (A' i k)
     by_cases NB:A' i k=0
     ·rw[decide_eq_true NB] at Su
      simp only[nU,g0,g4,g5,g7,Vq,Wn,a2,d1,d2,d3,Su,wn i (by omega),dT,VX,Nat.reduceEqDiff,Nat.reduceAdd,Nat.reduceLeDiff,Nat.reduceLT,Nat.reduceSub]
      exact⟨i+1,by omega,by omega,RU.congr fun _ _ _ _=>V9 (.inr NB),Q0,by (repeat' apply aMh)<;>first | rfl | trivial | assumption⟩
     ·rw[decide_eq_false NB] at Su
      have a3:=RU.addr (c:=c) oK
      obtain⟨rb3,rg3,rc3,d4,d5,d6,_⟩:=RU.spot (i:=k) (j:=k) oK (by omega) jA pT
      have d6:=(d6 true).trans (cI _)
      rw[ZF,IX oK] at d6
      have bik:=Ya.z.bits uW oK
      have bkk:=Ya.z.bits oK oK
      have ef:=BF (A' i k) (A' k k) S9 (by omega) (by omega)
      have bf:=Dy (A' i k) (A' k k)
      have s1:=GJ (lo:=lo) (H:=H2) (q:=A' i k / A' k k) (by have:=Q0.1;omega)
      have rf:=(jD (H:=H2) (g:=0) (es:=[aM (A' i k / A' k k)]) (e:=3) (w:=true))
      have hT3:=RU.pre (aMv H2 [.row 0 [aM (A' i k / A' k k)] 3 true])
      have hO3:=trB Q0 (ofA (L:=[.row 0 [aM (A' i k / A' k k)] 3 true]))
      have hH2:hi≤H2.length:=aKC hhi Q0.1
      simp only[nU,g0,g4,g5,g7,Vq,Wn,a2,a3,d1,d2,d3,d4,d5,d6,Su,ef,s1,dT,VX,Nat.reduceEqDiff,Nat.reduceAdd,Nat.reduceLeDiff,Nat.reduceLT,Nat.reduceSub]
      have hel:∀j,H6 A' IK n i j-A' i k / A' k k*H6 A' IK n k j=jnA k A' IK n i j:=fun j=>(anY aAh).symm
      generalize hfq:A' i k / A' k k=fq at *
      refine aP (fun(j:Nat) aQ H4=>k≤j∧j≤n+1∧Tb aM gF hi n (n+1) b g (jnC k A' IK n i j) H4∧(H.length≤H4.length∧∀b' g' x,(b'<gF∨hi≤b')→aG H b' g'=some x→aG H4 b' g'=some x)∧aG H4 H2.length 0=some ([aM fq],3,true)∧aQ 0 = .ref b g 0 n c∧aQ 4=VI n∧aQ 5=VI k∧aQ 7=VI i∧aQ 8 = .ptr H2.length 0 0 0∧aQ 9=VI j) (fun j=>n+1-j) k
       ⟨aKB _,by omega,hT3.congr fun _ _ _ _=>adM (fun c hc=>Ya.u.1 k c oK hc (by omega)) oK aAh,hO3,rf,by (repeat' apply aMh)<;>first | rfl | trivial | assumption⟩ ?_
      clear g0 g4 g5 g7 hT3 hO3 rf
      rintro j ρ H4 ⟨hkj,Ew,hT4,hO4,rf,g0,g4,g5,g7,g8,g9⟩
      have lf:=amH rf
      by_cases ajB:(j:Int)≤(n:Int)
      ·have Hu:j<n+1:=by omega
       have a4:=hT4.addr (c:=c) uW
       have a5:=hT4.addr (c:=c) oK
       obtain⟨rb4,rg4,rc4,t1,t2,t3,t4⟩:=hT4.spot (i:=i) (j:=j) uW Hu jA pT
       obtain⟨rb5,rg5,rc5,t5,t6,t7,_⟩:=hT4.spot (i:=k) (j:=j) oK Hu jA pT
       have t3:=(t3 true).trans (cI _)
       have t7:=(t7 true).trans (cI _)
       rw[asG] at t3
       rw[aqC aAh] at t7
       have bij:=bits i j uW Hu
       have bkj:=bits k j oK Hu
       have em:=uF fq (H6 A' IK n k j) (by omega) (by omega)
       have bm:=gB fq (H6 A' IK n k j)
       have eS:=EE (H6 A' IK n i j) (fq*H6 A' IK n k j) (by omega) (by omega)
       rw[hel] at eS
       obtain⟨H5,t8,t9,hT5,_⟩:=t4 lo (jnA k A' IK n i j) dS
       have hT5:=hT5.congr fun _ _ _ _=>ahE
       have rf5:=t9.2 _ _ _ (by omega) rf
       simp only[xY,g0,g4,g5,g7,g8,g9,ajB,a4,a5,t1,t2,t3,t5,t6,t7,t8,lf,em,eS,wn j (by omega),dT,VX,Nat.reduceEqDiff,Nat.reduceAdd,Nat.reduceLeDiff,Nat.reduceLT,Nat.reduceSub]
       exact⟨j+1,by omega,by omega,by omega,hT5,trB hO4 (ofR t9),rf5,by (repeat' apply aMh)<;>first | rfl | trivial | assumption⟩
      ·have Sp:j=n+1:=by omega
       subst Sp
       simp only[xY,g4,g7,g9,ajB,wn i (by omega),dT,VX,Nat.reduceEqDiff,Nat.reduceAdd,Nat.reduceLeDiff,Nat.reduceLT,Nat.reduceSub]
       exact⟨i+1,by omega,by omega,hT4.congr fun _ _ _ hc=>apW hc,hO4,by (repeat' apply aMh)<;>first | rfl | trivial | assumption⟩
   ·have mC:i=n:=by omega
    subst mC
    have hU3:=Ya.step S9 oK
    simp only[nU,g4,g5,g7,Vq,wn k (by omega),dT,VX,Nat.reduceEqDiff,Nat.reduceAdd,Nat.reduceLeDiff,Nat.reduceLT,Nat.reduceSub]
    exact⟨k+1,by omega,by omega,⟨_,_,hU3,RU.congr fun a _ ha _=>if_pos ha⟩,Q0,by (repeat' apply aMh)<;>first | rfl | trivial | assumption⟩
 ·have hke:k=n:=by omega
  subst hke
  have hg:=hgk k hk
  have e0:∀K,mW false [.bool false,.slice none 0 0,.slice none 0 0] 0 [] K=some (.ref K.length 0 0 0 0,K++[.row 0 [] 3 true]):=fun K=>mX rfl
  simp only[yF,g0,g4,g5,T2,e0,dT,VX,Nat.reduceEqDiff,Nat.reduceAdd,Nat.reduceLeDiff,Nat.reduceLT,Nat.reduceSub]
  have aEh:=trB hO1 (ofA (L:=[.row 0 [] 3 true]))
  refine aP (fun(i:Nat) aQ H2=>i≤k∧Tb aM gF hi k (k+1) b g (H6 A bb k) H2∧(H.length≤H2.length∧∀b' g' x,(b'<gF∨hi≤b')→aG H b' g'=some x→aG H2 b' g'=some x)∧aG H2 H1.length i=some ((vec i X).map aM,3,true)∧aQ 0 = .ref b g 0 k c∧aQ 4=VI k∧aQ 10 = .ref H1.length i 0 i i∧aQ 11=VI i) (fun i=>k-i) 0
   ⟨aK5 _,hT1.pre (aMv _ _),aEh,jD,by (repeat' apply aMh)<;>first | rfl | trivial | assumption⟩ ?_
  clear g0 g4 g5
  rintro i ρ H2 ⟨qL,RU,Q0,wA,g0,g4,g10,g11⟩
  have hb:=RU.lt
  have aIV:hi≤H1.length:=aKC hhi hO1.1
  by_cases bZ:(i:Int)<(k:Int)
  ·have uW:i<k:=by omega
   have a2:=RU.addr (c:=c) uW
   obtain⟨rb2,rg2,rc2,d1,d2,d3,_⟩:=RU.spot (i:=i) (j:=k) uW (by omega) jA pT
   obtain⟨rb3,rg3,rc3,d4,d5,d6,_⟩:=RU.spot (i:=i) (j:=i) uW (by omega) jA pT
   have d3:=(d3 true).trans (cI _)
   have d6:=(d6 true).trans (cI _)
   rw[Zv] at d3
   rw[IX uW] at d6
   have Rh:=Option.some.inj (d1.symm.trans d4)
   injection Rh with h1 h2 _ _ h5
   subst h1 h2 h5
   have bii:=Ur.z.bits uW uW
   have bbi:=Ur.right hX (by omega) uW
   have ed:=BF (bb i) (A i i) (Ur.u.2 i uW) (by omega) (by omega)
   rw[←Ur.done uW] at ed
   have eL:∀H,mW false [.bool false,.slice none 0 0,.slice none 0 0] 1 [(0,aM (X i))] H=some (.tree [aM (X i)] (.cl 3),H):=fun H=>iY rfl rfl rfl
   have eS:∀H,cZ 3 (.tree [aM (X i)] (.cl 3)) H=some [aM (X i)]:=fun H=>eV rfl rfl
   have eP:=Fq (lo:=lo) (bytes:=56) (x:=X i) wA (by rw[jM]) (by have:=hO1.1;omega) (by decide) (by decide) (by omega)
   simp only[yB,g0,g4,g10,g11,bZ,a2,d1,d2,d3,d4,d5,d6,ed,eL,eS,eP,wn i (by omega),dT,VX,Nat.reduceEqDiff,Nat.reduceAdd,Nat.reduceLeDiff,Nat.reduceLT,Nat.reduceSub]
   refine⟨i+1,by omega,by omega,RU.dB (jY.set (by omega)),⟨by rw[List.length_set];exact Q0.1,fun b' g' x xJ hx=>aZ (by have:=iT hx;have:=hO1.1;omega) (Q0.2 b' g' x xJ hx)⟩,by rw[Bt];exact bQ wA,by (repeat' apply aMh)<;>first | rfl | trivial | assumption⟩
  ·have mC:i=k:=by omega
   subst mC
   simp only[yB,g4,g10,g11,bZ,dT,VX,Nat.reduceEqDiff,Nat.reduceAdd,Nat.reduceLeDiff,Nat.reduceLT,Nat.reduceSub]
   exact⟨_,rfl,Q0.1,⟨H1.length,i,i,hO1.1,iT wA,by rw[jM],by rw[jM];exact aKB _,wA⟩,Q0.2⟩
end Go.PM
namespace Go.PM
open Go.Lib
def Zm (k:Nat) (A:Nat→Nat→Rat) (i a c:Nat):Rat:=if a<i then Hr (Nn k A) k A a c else A a c
def elC (k:Nat) (A:Nat→Nat→Rat) (i j a c:Nat):Rat:=if a=i∧c<j then Hr (Nn k A) k A i c else Zm k A i a c
def elB (k:Nat) (A:Nat→Nat→Rat) (b:Nat→Rat) (i a:Nat):Rat:=if a<i then T6 (Nn k A) k b a else b a
def bkR (A:Nat→Nat→Rat) (b X:Nat→Rat) (s i:Nat):Rat:=if s≤i then X i else b i
theorem Sb {k:Nat} {A:Nat→Nat→Rat} {a c:Nat} (h:a≤k):Hr (Nn k A) k A a c=A a c:=by
 unfold Hr Nn
 rw[if_neg (by omega),aOi]
 grind
theorem Ry {k:Nat} {A:Nat→Nat→Rat} {b:Nat→Rat} {a:Nat} (h:a≤k):T6 (Nn k A) k b a=b a:=by
 unfold T6 Nn
 rw[if_neg (by omega),aOi]
 grind
theorem adV {k:Nat} {A:Nat→Nat→Rat} {a c:Nat}:A a c=Zm k A (k+1) a c:=by
 unfold Zm
 split
 ·exact(Sb (by omega)).symm
 ·rfl
theorem aeU {k:Nat} {A:Nat→Nat→Rat} {b:Nat→Rat} {a:Nat}:b a=elB k A b (k+1) a:=by
 unfold elB
 split
 ·exact(Ry (by omega)).symm
 ·rfl
section
variable {k i:Nat} {A:Nat→Nat→Rat} {b:Nat→Rat}
theorem Tw {c:Nat}:Zm k A i i c=A i c:=if_neg (aOh _)
theorem aaO {c:Nat} (h:k<i):Zm k A i k c=A k c:=by
 unfold Zm
 rw[if_pos h,Sb (aKB _)]
theorem arH:elB k A b i i=b i:=if_neg (aOh _)
theorem atJ (h:k<i):elB k A b i k=b k:=by
 unfold elB
 rw[if_pos h,Ry (aKB _)]
theorem akL (h:A i k=0) {c:Nat}:Hr (Nn k A) k A i c=A i c:=by
 unfold Hr Nn
 split
 ·rw[h,Rat.div_def,aOi,aOi];grind
 ·rw[aOi];grind
theorem aoK (h:A i k=0):T6 (Nn k A) k b i=b i:=by
 unfold T6 Nn
 split
 ·rw[h,Rat.div_def,aOi,aOi];grind
 ·rw[aOi];grind
theorem ajL (h:A i k=0) {a c:Nat}:Zm k A i a c=Zm k A (i+1) a c:=by
 unfold Zm
 by_cases h1:a<i
 ·rw[if_pos h1,if_pos (by omega)]
 ·rw[if_neg h1]
  by_cases h2:a=i
  ·subst h2
   rw[if_pos (by omega),akL h]
  ·rw[if_neg (by omega)]
theorem ahX (h:A i k=0) {a:Nat}:elB k A b i a=elB k A b (i+1) a:=by
 unfold elB
 by_cases h1:a<i
 ·rw[if_pos h1,if_pos (by omega)]
 ·rw[if_neg h1]
  by_cases h2:a=i
  ·subst h2
   rw[if_pos (by omega),aoK h]
  ·rw[if_neg (by omega)]
theorem amS (h:k<i) {c:Nat}:Hr (Nn k A) k A i c=A i c-A i k / A k k*A k c:=by
 unfold Hr Nn
 rw[if_pos h]
theorem axP (h:k<i):T6 (Nn k A) k b i=b i-A i k / A k k*b k:=by
 unfold T6 Nn
 rw[if_pos h]
theorem afG (hz:∀c,c<k→A k c=0) (h:k<i) {a c:Nat}:Zm k A i a c=elC k A i k a c:=by
 unfold elC
 by_cases h1:a=i∧c<k
 ·obtain⟨rfl,h2⟩:=h1
  rw[if_pos ⟨rfl,h2⟩,Tw,amS h,hz c h2]
  grind
 ·rw[if_neg h1]
theorem alU {j a c:Nat}:OQ (elC k A i j) i j (Hr (Nn k A) k A i j) a c=elC k A i (j+1) a c:=by
 unfold OQ elC
 by_cases h1:a=i∧c=j
 ·obtain⟨rfl,rfl⟩:=h1
  rw[if_pos ⟨rfl,rfl⟩,if_pos ⟨rfl,by omega⟩]
 ·rw[if_neg h1]
  by_cases h2:a=i∧c<j
  ·rw[if_pos h2,if_pos ⟨h2.1,by omega⟩]
  ·rw[if_neg h2,if_neg (by omega)]
theorem aqP {n a c:Nat} (hc:c<n):elC k A i n a c=Zm k A (i+1) a c:=by
 unfold elC
 by_cases h1:a=i∧c<n
 ·obtain⟨rfl,_⟩:=h1
  rw[if_pos ⟨rfl,hc⟩]
  unfold Zm
  rw[if_pos (by omega)]
 ·rw[if_neg h1]
  unfold Zm
  by_cases h2:a<i
  ·rw[if_pos h2,if_pos (by omega)]
  ·rw[if_neg h2,if_neg (by omega)]
theorem arB {j:Nat}:elC k A i j i j=A i j:=by
 unfold elC
 rw[if_neg (by omega),Tw]
theorem arK {j c:Nat} (h:k<i):elC k A i j k c=A k c:=by
 unfold elC
 rw[if_neg (by omega),aaO h]
theorem amP {a:Nat}:zR (elB k A b i) i (T6 (Nn k A) k b i) a=elB k A b (i+1) a:=by
 unfold zR elB
 by_cases h1:a=i
 ·subst h1
  rw[if_pos rfl,if_pos (by omega)]
 ·rw[if_neg h1]
  by_cases h2:a<i
  ·rw[if_pos h2,if_pos (by omega)]
  ·rw[if_neg h2,if_neg (by omega)]
theorem aDh {m:Nat} {a:Nat}:zR (zR b k (b m)) m (b k) a=swp k m b a:=by
 unfold zR swp
 by_cases h1:a=m
 ·subst h1
  rw[if_pos rfl]
  by_cases h2:a=k
  ·subst h2;rw[if_pos rfl]
  ·rw[if_neg h2,if_pos rfl]
 ·rw[if_neg h1]
  by_cases h2:a=k
  ·rw[if_pos h2,if_pos h2]
  ·rw[if_neg h2,if_neg h2,if_neg h1]
end
set_option maxHeartbeats 16000000 in
set_option maxRecDepth 30000 in
theorem TM {lo gF hi n b g c rb rg rc G η:Nat} {H:aA} {A0:Nat→Nat→Rat} {b0 X:Nat→Rat} (hS:Sy aF gF hi n b g rb rg A0 b0 H) (hU:X6 n 0 G A0 b0 X) (hX:dH η n X) (hn:n≤12) (hG:2^n*(G+1)≤68719476736) (hη:η≤274877906944) (dS:lo≤gF) (Bm:lo≤rb) (hlH:lo≤H.length) (hhi:hi≤H.length) (BX:rb<H.length) :
  jH 118 [.ref b g 0 n c,.ref rb rg 0 n rc] lo H fun r H'=>r = .eJ [.ref rb rg 0 n rc,VB true]∧C9 gF hi rb H H'∧Rw aF rb rg n X H':=by
 refine jH.walk ⟨true,false⟩ Ti (aMp rfl) ?_
 have el:=hS.t.len (c:=c)
 simp only[OV,Jh,el,dT,VX,Nat.reduceEqDiff,Nat.reduceAdd,Nat.reduceLeDiff,Nat.reduceLT,Nat.reduceSub]
 have hgk:∀k,k≤n→gk G k≤68719476736:=fun k hk=>aKC (avI hk) hG
 have wn:∀k:Nat,k≤n→IntKind.i64.wrap ((k:Int)+1)=((k+1:Nat):Int):=fun k hk=>wN _ (by omega) (by omega)
 refine aP (fun(k:Nat) ρ H1=>k≤n∧(∃A bb,X6 n k (gk G k) A bb X∧Sy aF gF hi n b g rb rg A bb H1)∧C9 gF hi rb H H1∧ρ 0 = .ref b g 0 n c∧ρ 1 = .ref rb rg 0 n rc∧ρ 6=VI n∧ρ 16=VI n∧ρ 17=VI k) (fun k=>n-k) 0
  ⟨aK5 _,⟨A0,b0,hU,hS⟩,C9.refl,by (repeat' apply aMh)<;>first | rfl | trivial | assumption⟩ ?_
 rintro k ρ H1 ⟨hk,⟨A,bb,Ur,hS1⟩,hO1,g0,g1,g6,g16,g17⟩
 by_cases T2:(k:Int)<(n:Int)
 ·
  have oK:k<n:=by omega
  obtain⟨pm,hp1,hp2,hp3⟩:=Ur.f.ahT oK Ur.u
  simp only[CA,g0,g1,g6,g16,g17,T2,dT,VX,Nat.reduceEqDiff,Nat.reduceAdd,Nat.reduceLeDiff,Nat.reduceLT,Nat.reduceSub]
  refine aP (fun(m:Nat) aQ H2=>H2=H1∧k≤m∧m≤n∧(∀r,k≤r→r<m→A r k=0)∧aQ 0 = .ref b g 0 n c∧aQ 1 = .ref rb rg 0 n rc∧aQ 6=VI n∧aQ 7=VI k∧aQ 8=VI m∧aQ 16=VI n∧aQ 17=VI k) (fun m=>n-m) k
   ⟨rfl,aKB _,hk,fun r h1 h2=>by omega,by (repeat' apply aMh)<;>first | rfl | trivial | assumption⟩ ?_
  clear g0 g1 g6 g16 g17
  rintro m ρ H2 ⟨rfl,hkm,hmn,hzero,g0,g1,g6,g7,g8,g16,g17⟩
  have hm:m<n:=by
   rcases aKE m n with h | h
   ·exact h
   ·exact absurd (hzero pm hp1 (by omega)) hp3
  have ajH:(m:Int)<(n:Int):=by omega
  have a1:=hS1.t.addr (c:=c) hm
  obtain⟨p1,q1,c1,c2,c3,_⟩:=hS1.spot hm oK dC fR
  have c3:=(c3 true).trans (bF _)
  have es:=dJ (A m k)
  by_cases hz:jL (A m k)=0
  ·have CI:=zF.1 hz
   simp only[CL,g0,g6,g7,g8,ajH,a1,c1,c2,c3,es,hz,wn m hmn,dT,VX,Nat.reduceEqDiff,Nat.reduceAdd,Nat.reduceLeDiff,Nat.reduceLT,Nat.reduceSub]
   exact⟨m+1,by omega,by omega,by omega,fun r h1 h2=>by
    rcases aKE r m with h | h
    ·exact hzero r h1 h
    ·rw[show r=m by omega]
     exact CI,by (repeat' apply aMh)<;>first | rfl | trivial | assumption⟩
  ·have hmk:A m k≠0:=fun h=>hz (zF.2 h)
   have fW:¬(m:Int)=(n:Int):=by omega
   have Ya:=Ur.swp hkm hm
   have S9:swp k m A k k≠0:=by unfold Go.PM.swp;rw[if_pos rfl];exact hmk
   obtain⟨u,v,e1,e2,e3⟩:=hS1.t.swap oK hm
   obtain rfl:p1=v:=Option.some.inj (c1.symm.trans e2)
   obtain⟨Ha,Hb,e4,e5,e6,e7,e8,e9⟩:=e3 lo dS
   have ak:=hS1.t.addr (c:=c) oK
   have r1:=hS1.r.addr (c:=rc) hm
   have r2:=(hS1.r.get hm true).trans (bF _)
   have r3:=hS1.r.addr (c:=rc) oK
   have r4:=(hS1.r.get oK true).trans (bF _)
   have hSb:Sy aF gF hi n b g rb rg (Go.PM.swp k m A) bb Hb:=⟨e9,e8.2 _ _ _ hS1.d hS1.r,hS1.d⟩
   have r5:=hSb.r.addr (c:=rc) oK
   obtain⟨Hc,f1,f2,hSc⟩:=hSb.put oK Bm dC fR (bb m)
   have r6:=hSc.r.addr (c:=rc) hm
   obtain⟨Hd,f3,f4,hSd⟩:=hSc.put hm Bm dC fR (bb k)
   have hSd:=hSd.congr (fun _ _ _ _=>rfl) fun a _=>aDh (k:=k) (m:=m) (b:=bb)
   have hOd:C9 gF hi rb H Hd:=((hO1.trans e8.aCx).trans f2).trans f4
   generalize hA':Go.PM.swp k m A=A' at *
   generalize xJ:Go.PM.swp k m bb=IK at *
   simp only[CL,g0,g1,g6,g7,g8,ajH,a1,c1,c2,c3,es,hz,fW,e1,e2,e4,e5,e6,ak,r1,r2,r3,r4,r5,r6,f1,f3,wn k hk,bF,dT,VX,Nat.reduceEqDiff,Nat.reduceAdd,Nat.reduceLeDiff,Nat.reduceLT,Nat.reduceSub]
   refine aP (fun(i:Nat) aQ H2=>k+1≤i∧i≤n∧Sy aF gF hi n b g rb rg (Zm k A' i) (elB k A' IK i) H2∧C9 gF hi rb H H2∧aQ 0 = .ref b g 0 n c∧aQ 1 = .ref rb rg 0 n rc∧aQ 6=VI n∧aQ 7=VI k∧aQ 9=VI i∧aQ 16=VI n∧aQ 17=VI k) (fun i=>n-i) (k+1)
    ⟨aKB _,by omega,hSd.congr (fun _ _ _ _=>adV) fun _ _=>aeU,hOd,by (repeat' apply aMh)<;>first | rfl | trivial | assumption⟩ ?_
   clear g0 g1 g6 g7 g8 g16 g17 hSd hOd f3 f4 r6 hSc f1 f2 r5 hSb
   rintro i ρ H2 ⟨hki,bZ,hS2,Q0,g0,g1,g6,g7,g9,g16,g17⟩
   have hg:=hgk k hk
   by_cases Vq:(i:Int)<(n:Int)
   ·have uW:i<n:=by omega
    have a2:=hS2.t.addr (c:=c) uW
    obtain⟨p2,q2,d1,d2,d3,_⟩:=hS2.spot uW oK dC fR
    have d3:=(d3 true).trans (bF _)
    rw[Tw] at d3
    have Su:=dJ (A' i k)
    by_cases NB:jL (A' i k)=0
    ·have CI:=zF.1 NB
     simp only[zA,g0,g1,g6,g7,g9,Vq,a2,d1,d2,d3,Su,NB,wn i bZ,dT,VX,Nat.reduceEqDiff,Nat.reduceAdd,Nat.reduceLeDiff,Nat.reduceLT,Nat.reduceSub]
     exact⟨i+1,by omega,by omega,by omega,hS2.congr (fun _ _ _ _=>ajL CI) fun _ _=>ahX CI,Q0,by (repeat' apply aMh)<;>first | rfl | trivial | assumption⟩
    ·have a3:=hS2.t.addr (c:=c) oK
     obtain⟨p3,q3,d4,d5,d6,_⟩:=hS2.spot oK oK dC fR
     have d6:=(d6 true).trans (bF _)
     rw[aaO (by omega)] at d6
     have bik:=Ya.z.bits uW oK
     have bkk:=Ya.z.bits oK oK
     have ef:=Ae (A' i k) (A' k k) S9 (by omega) (by omega)
     have bf:=Dy (A' i k) (A' k k)
     have acQ:rb<H2.length:=iT (x:=((vec n (elB k A' IK i)).map aF,3,true)) hS2.r
     have s1:=JK (lo:=lo) (H:=H2) (q:=A' i k / A' k k) (by have:=Q0.1;omega)
     have rf:=(jD (H:=H2) (g:=0) (es:=[aF (A' i k / A' k k)]) (e:=3) (w:=true))
     have Xl:=hS2.app (L:=[.row 0 [aF (A' i k / A' k k)] 3 true])
     have hO3:=Q0.trans (C9.app (L:=[.row 0 [aF (A' i k / A' k k)] 3 true]))
     have hH2:hi≤H2.length:=aKC hhi Q0.1
     simp only[zA,g0,g1,g6,g7,g9,Vq,a2,a3,d1,d2,d3,d4,d5,d6,Su,NB,ef,s1,dT,VX,Nat.reduceEqDiff,Nat.reduceAdd,Nat.reduceLeDiff,Nat.reduceLT,Nat.reduceSub]
     generalize hfq:A' i k / A' k k=fq at *
     refine aP (fun(j:Nat) aQ H4=>k≤j∧j≤n∧Sy aF gF hi n b g rb rg (elC k A' i j) (elB k A' IK i) H4∧C9 gF hi rb H H4∧aG H4 H2.length 0=some ([aF fq],3,true)∧aQ 0 = .ref b g 0 n c∧aQ 1 = .ref rb rg 0 n rc∧aQ 6=VI n∧aQ 7=VI k∧aQ 9=VI i∧aQ 10 = .ptr H2.length 0 0 0∧aQ 11=VI j∧aQ 16=VI n∧aQ 17=VI k) (fun j=>n-j) k
      ⟨aKB _,hk,Xl.congr (fun _ _ _ _=>afG (fun c hc=>Ya.u.1 k c oK hc hc) (by omega)) fun _ _=>rfl,hO3,rf,by (repeat' apply aMh)<;>first | rfl | trivial | assumption⟩ ?_
     clear g0 g1 g6 g7 g9 g16 g17 Xl hO3 rf
     rintro j ρ H4 ⟨hkj,Ew,hS4,hO4,rf,g0,g1,g6,g7,g9,g10,g11,g16,g17⟩
     have lf:bH true 3 (.ptr H2.length 0 0 0) H4=some (aF fq):=by rw[bJ,rf];exact bF _
     by_cases ajB:(j:Int)<(n:Int)
     ·have Hu:j<n:=by omega
      have a4:=hS4.t.addr (c:=c) uW
      have a5:=hS4.t.addr (c:=c) oK
      obtain⟨p4,q4,t1,t2,t3,t4⟩:=hS4.spot uW Hu dC fR
      obtain⟨p5,q5,t5,t6,t7,_⟩:=hS4.spot oK Hu dC fR
      have t3:=(t3 true).trans (bF _)
      have t7:=(t7 true).trans (bF _)
      rw[arB] at t3
      rw[arK (by omega)] at t7
      have bij:=Ya.z.bits uW Hu
      have bkj:=Ya.z.bits oK Hu
      have em:=jW fq (A' k j) (by omega) (by omega)
      have bm:=gB fq (A' k j)
      have eS:=vX (A' i j) (fq*A' k j) (by omega) (by omega)
      have hel:A' i j-fq*A' k j=Hr (Nn k A') k A' i j:=by rw[amS (by omega),hfq]
      rw[hel] at eS
      obtain⟨H5,t8,t9,Yh⟩:=t4 lo (Hr (Nn k A') k A' i j) dS
      have Yh:=Yh.congr (fun _ _ _ _=>alU) fun _ _=>rfl
      have rf5:=t9.2 _ _ _ (by omega) (by omega) rf
      simp only[CN,g0,g6,g7,g9,g10,g11,ajB,a4,a5,t1,t2,t3,t5,t6,t7,t8,lf,em,eS,wn j Ew,dT,VX,Nat.reduceEqDiff,Nat.reduceAdd,Nat.reduceLeDiff,Nat.reduceLT,Nat.reduceSub]
      exact⟨j+1,by omega,by omega,by omega,Yh,hO4.trans t9,rf5,by (repeat' apply aMh)<;>first | rfl | trivial | assumption⟩
     ·have Sp:j=n:=by omega
      subst Sp
      have hS4:=hS4.congr (fun _ c _ hc=>aqP hc) fun _ _=>rfl
      have r7:=hS4.r.addr (c:=rc) uW
      have r8:=(hS4.r.get uW true).trans (bF _)
      have r9:=hS4.r.addr (c:=rc) oK
      have r10:=(hS4.r.get oK true).trans (bF _)
      rw[arH] at r8
      rw[atJ (by omega)] at r10
      have bbi:=Ya.right hX (by omega) uW
      have bbk:=Ya.right hX (by omega) oK
      have em:=jW fq (IK k) (by omega) (by omega)
      have bm:=gB fq (IK k)
      have eS:=vX (IK i) (fq*IK k) (by omega) (by omega)
      have hel:IK i-fq*IK k=T6 (Nn k A') k IK i:=by rw[axP (by omega),hfq]
      rw[hel] at eS
      obtain⟨H5,t8,t9,Yh⟩:=hS4.put uW Bm dC fR (T6 (Nn k A') k IK i)
      have Yh:=Yh.congr (fun _ _ _ _=>rfl) fun _ _=>amP
      simp only[CN,g0,g1,g6,g7,g9,g10,g11,ajB,r7,r8,r9,r10,lf,em,eS,t8,wn i bZ,dT,VX,Nat.reduceEqDiff,Nat.reduceAdd,Nat.reduceLeDiff,Nat.reduceLT,Nat.reduceSub]
      exact⟨i+1,by omega,by omega,by omega,Yh,hO4.trans t9,by (repeat' apply aMh)<;>first | rfl | trivial | assumption⟩
   ·have mC:i=n:=by omega
    subst mC
    have hU3:=Ya.step S9 oK
    simp only[zA,g6,g9,g17,Vq,wn k hk,dT,VX,Nat.reduceEqDiff,Nat.reduceAdd,Nat.reduceLeDiff,Nat.reduceLT,Nat.reduceSub]
    exact⟨k+1,by omega,by omega,⟨_,_,hU3,hS2.congr (fun a _ ha _=>if_pos ha) fun a ha=>if_pos ha⟩,Q0,by (repeat' apply aMh)<;>first | rfl | trivial | assumption⟩
 ·have hke:k=n:=by omega
  subst hke
  have hg:=hgk k hk
  have w0:IntKind.i64.wrap ((k:Int)-1)=(k:Int)-1:=wrap64 (by omega) (by omega)
  simp only[CA,g0,g1,g6,g16,g17,T2,w0,dT,VX,Nat.reduceEqDiff,Nat.reduceAdd,Nat.reduceLeDiff,Nat.reduceLT,Nat.reduceSub]
  refine aP (fun(s:Nat) aQ H2=>s≤k∧Sy aF gF hi k b g rb rg A (bkR A bb X s) H2∧C9 gF hi rb H H2∧aQ 0 = .ref b g 0 k c∧aQ 1 = .ref rb rg 0 k rc∧aQ 6=VI k∧aQ 12=VI ((s:Int)-1)) (fun s=>s) k
   ⟨aKB _,hS1.congr (fun _ _ _ _=>rfl) fun a ha=>(if_neg (by omega)).symm,hO1,by (repeat' apply aMh)<;>first | rfl | trivial | assumption⟩ ?_
  clear g0 g1 g6 g16 g17
  rintro s ρ H2 ⟨hs,hS2,Q0,g0,g1,g6,g12⟩
  by_cases hs0:(0:Int)≤(s:Int)-1
  ·obtain⟨t,rfl⟩:∃t,s=t+1:=⟨s-1,by omega⟩
   have hx:((t+1:Nat):Int)-1=(t:Int):=by omega
   rw[hx] at g12 hs0
   have Rk:t<k:=by omega
   have hts:(0:Int)≤(t:Int):=by omega
   simp only[CS,g0,g1,g6,g12,hts,wn t (by omega),dT,VX,Nat.reduceEqDiff,Nat.reduceAdd,Nat.reduceLeDiff,Nat.reduceLT,Nat.reduceSub]
   refine aP (fun(j:Nat) aQ H3=>t+1≤j∧j≤k∧Sy aF gF hi k b g rb rg A (zR (bkR A bb X (t+1)) t (bk A bb X t j)) H3∧C9 gF hi rb H H3∧aQ 0 = .ref b g 0 k c∧aQ 1 = .ref rb rg 0 k rc∧aQ 6=VI k∧aQ 12=VI t∧aQ 13=VI j) (fun j=>k-j) (t+1)
    ⟨aKB _,by omega,hS2.congr (fun _ _ _ _=>rfl) fun a ha=>by
     unfold zR
     by_cases h:a=t
     ·subst h
      rw[if_pos rfl,akM]
      unfold bkR
      exact if_neg (by omega)
     ·rw[if_neg h],Q0,by (repeat' apply aMh)<;>first | rfl | trivial | assumption⟩ ?_
   clear g0 g1 g6 g12
   rintro j ρ H3 ⟨htj,Tl,Xl,hO3,g0,g1,g6,g12,g13⟩
   by_cases Ew:(j:Int)<(k:Int)
   ·have Hu:j<k:=by omega
    have r7:=Xl.r.addr (c:=rc) Rk
    have r8:=(Xl.r.get Rk true).trans (bF _)
    have r9:=Xl.r.addr (c:=rc) Hu
    have r10:=(Xl.r.get Hu true).trans (bF _)
    rw[show zR (bkR A bb X (t+1)) t (bk A bb X t j) t=bk A bb X t j from if_pos rfl] at r8
    rw[show zR (bkR A bb X (t+1)) t (bk A bb X t j) j=X j by unfold zR bkR;rw[if_neg (by omega),if_pos (by omega)]] at r10
    have a4:=Xl.t.addr (c:=c) Rk
    obtain⟨p4,q4,t1,t2,t3,_⟩:=Xl.spot Rk Hu dC fR
    have t3:=(t3 true).trans (bF _)
    have btj:=Ur.z.bits Rk Hu
    have bxj:=hX.bits Hu
    have bp:=Ur.part hX (by omega) Rk htj Tl
    have em:=jW (A t j) (X j) (by omega) (by omega)
    have bm:=gB (A t j) (X j)
    have eS:=vX (bk A bb X t j) (A t j*X j) (by omega) (by omega)
    rw[←apJ] at eS
    obtain⟨H5,t8,t9,Yh⟩:=Xl.put Rk Bm dC fR (bk A bb X t (j+1))
    have Yh:=Yh.congr (fun _ _ _ _=>rfl) (IK:=zR (bkR A bb X (t+1)) t (bk A bb X t (j+1))) fun a _=>by
     unfold zR
     by_cases h:a=t
     ·rw[if_pos h,if_pos h]
     ·rw[if_neg h,if_neg h,if_neg h]
    simp only[CJ,g0,g1,g6,g12,g13,Ew,r7,r8,r9,r10,a4,t1,t2,t3,em,eS,t8,wn j Tl,dT,VX,Nat.reduceEqDiff,Nat.reduceAdd,Nat.reduceLeDiff,Nat.reduceLT,Nat.reduceSub]
    exact⟨j+1,by omega,by omega,by omega,Yh,hO3.trans t9,by (repeat' apply aMh)<;>first | rfl | trivial | assumption⟩
   ·have Sp:j=k:=by omega
    subst Sp
    have r7:=Xl.r.addr (c:=rc) Rk
    have r8:=(Xl.r.get Rk true).trans (bF _)
    rw[show zR (bkR A bb X (t+1)) t (bk A bb X t j) t=bk A bb X t j from if_pos rfl] at r8
    have a4:=Xl.t.addr (c:=c) Rk
    obtain⟨p4,q4,t1,t2,t3,_⟩:=Xl.spot Rk Rk dC fR
    have t3:=(t3 true).trans (bF _)
    have btt:=Ur.z.bits Rk Rk
    have bp:=Ur.part hX (by omega) Rk htj (aKB _)
    have ed:=Ae (bk A bb X t j) (A t t) (Ur.u.2 t Rk) (by omega) (by omega)
    rw[←Ur.back Rk] at ed
    obtain⟨H5,t8,t9,Yh⟩:=Xl.put Rk Bm dC fR (X t)
    have Yh:=Yh.congr (fun _ _ _ _=>rfl) (IK:=bkR A bb X t) fun a _=>by
     unfold zR bkR
     by_cases h:a=t
     ·subst h;rw[if_pos rfl,if_pos (aKB _)]
     ·rw[if_neg h,if_neg h]
      by_cases h2:t+1≤a
      ·rw[if_pos h2,if_pos (by omega)]
      ·rw[if_neg h2,if_neg (by omega)]
    have wt:IntKind.i64.wrap ((t:Int)-1)=(t:Int)-1:=wrap64 (by omega) (by omega)
    simp only[CJ,g0,g1,g6,g12,g13,Ew,r7,r8,a4,t1,t2,t3,ed,t8,wt,dT,VX,Nat.reduceEqDiff,Nat.reduceAdd,Nat.reduceLeDiff,Nat.reduceLT,Nat.reduceSub]
    exact⟨t,by omega,by omega,Yh,hO3.trans t9,by (repeat' apply aMh)<;>first | rfl | trivial | assumption⟩
  ·have hse:s=0:=by omega
   subst hse
   simp only[CS,g1,g12,hs0,dT,VX,Nat.reduceEqDiff,Nat.reduceAdd,Nat.reduceLeDiff,Nat.reduceLT,Nat.reduceSub]
   exact⟨Q0,hS2.r.congr fun a _=>if_pos (aK5 _)⟩
end Go.PM
namespace Go.PM
theorem Zs (q:Rat):q*((q.den:Int):Rat)=((q.num:Int):Rat):=by
 have h1:mkRat q.num q.den=q:=Rat.mkRat_self q
 rw[Rat.mkRat_eq_div] at h1
 have h2:((q.den:Nat):Rat)≠0:=by
  have:=q.den_nz
  exact_mod_cast this
 rw[Rat.intCast_natCast]
 grind
theorem common {β:Nat} {f:Nat→Rat}:∀ {K:Nat},(∀k,k<K→aK (f k)≤β)→∃s:Int,s≠0∧s.natAbs<2^(K*β+1)∧∀k,k<K→Dl s (K*β+1) (f k)
 | 0,_=>⟨1,by decide,by simp,fun k hk=>absurd hk (Nat.not_lt_zero _)⟩
 |
  K+1,h=>by
  obtain⟨s,h1,h2,h3⟩:=common (K:=K) fun k hk=>h k (by omega)
  have hK:=h K (by omega)
  have hd:(f K).den<2^β:=aKD (HR _) (aME (by decide) (aKC oE hK))
  have hn:(f K).num.natAbs<2^β:=aKD (HR _) (aME (by decide) (aKC pY hK))
  have e:2^((K+1)*β+1)=2^(K*β+1)*2^β:=by rw[←Nat.pow_add];congr 1;rw[aK6];omega
  have ayL:((f K).den:Int)≠0:=by have:=(f K).den_nz;omega
  refine⟨s*((f K).den:Int),aOj h1 ayL,?_,fun k hk => ?_⟩
  ·rw[aNf,e,aNg]
   exact aOa h2 hd
  ·by_cases hkK:k=K
   ·subst hkK
    refine⟨(f k).num*s,?_,?_⟩
    ·have hm:f k*(((f k).den:Int):Rat)=(((f k).num:Int):Rat):=Zs (f k)
     rw[aOb,aOb,←hm]
     grind
    ·rw[aNf,e,aL3]
     exact aOa h2 hn
   ·obtain⟨M,m1,m2⟩:=h3 k (by omega)
    refine⟨M*((f K).den:Int),?_,?_⟩
    ·rw[aOb,aOb,←m1]
     grind
    ·rw[aNf,e,aNg]
     exact aOa m2 hd
theorem dH.of {β n:Nat} {f:Nat→Rat} (h:∀k,k<n→aK (f k)≤β):dH (n*β+1) n f:=by
 obtain⟨s,h1,h2,h3⟩:=common h
 exact⟨s,h1,h2,h3⟩
theorem dH.wide {g h n:Nat} {f:Nat→Rat} (hf:dH g n f) (hg:g≤h):dH h n f:=by
 obtain⟨s,h1,h2,h3⟩:=hf
 exact⟨s,h1,aKD h2 (aME (by decide) hg),fun i hi=>(h3 i hi).wide hg⟩
theorem dH.times {g h n:Nat} {f:Nat→Rat} {q:Rat} (hf:dH g n f) (hq:aK q≤h):dH (g+h) n fun i=>q*f i:=by
 obtain⟨s,h1,h2,h3⟩:=hf
 have hd:q.den<2^h:=aKD (HR _) (aME (by decide) (aKC oE hq))
 have hn:q.num.natAbs<2^h:=aKD (HR _) (aME (by decide) (aKC pY hq))
 have ayL:(q.den:Int)≠0:=by have:=q.den_nz;omega
 have hm:q*((q.den:Int):Rat)=((q.num:Int):Rat):=Zs q
 have OM:Dl (q.den:Int) h q:=⟨q.num,hm,hn⟩
 refine⟨s*(q.den:Int),aOj h1 ayL,?_,fun i hi => ?_⟩
 ·rw[aNf,aNg,Nat.pow_add]
  exact aOa h2 hd
 ·have:=(h3 i hi).mul OM
  rwa [Rat.mul_comm] at this
theorem aqW {n β:Nat} {F:Nat→Nat→Rat} (h:∀i j,i<n→j<n→aK (F i j)≤β):∃s:Int,s≠0∧s.natAbs<2^(n*n*β+1)∧∀i j,i<n→j<n→Dl s (n*n*β+1) (F i j):=by
 obtain⟨s,h1,h2,h3⟩:=common (K:=n*n) (f:=fun k=>F (k / n) (k % n)) fun k hk=>by
  have hn:0<n:=by
   cases n with
   | zero=>omega
   | succ n=>omega
  exact h _ _ (Nat.div_lt_of_lt_mul hk) (Nat.mod_lt _ hn)
 refine⟨s,h1,h2,fun i j hi hj => ?_⟩
 have hk:i*n+j<n*n:=by
  have:(i+1)*n≤n*n:=aK2 _ hi
  rw[aK6] at this
  omega
 have h4:=h3 (i*n+j) hk
 have e1:(i*n+j) / n=i:=by rw[aL3,Nat.mul_add_div (by omega),Nat.div_eq_of_lt hj,Nat.add_zero]
 have e2:(i*n+j) % n=j:=by rw[aL3,Nat.mul_add_mod,Nat.mod_eq_of_lt hj]
 simp only[e1,e2] at h4
 exact h4
theorem B0.aqO {n g:Nat} {A:Nat→Nat→Rat} (hF:B0 n A) (hS:qD g n n A) (hn:n≤16):∀(b:Nat→Rat) (h:Nat),dH h n b→∃X,eU n A b X∧dH (h+(n*n*(2*(2^n*(g+1)))+5)) n X:=by
 have aCq:∀j,∃X,eU n A (fun i=>if i=j then 1 else 0) X∧∀i,i<n→aK (X i)≤2*(2^n*(g+1)):=fun j=>by
  have hF':B0 n (fun a c=>if c<n then A a c else if a=j then 1 else 0):=fun x hx=>hF x fun i hi=>by
   rw[←hx i hi]
   exact gT fun c hc=>by simp only[hc,if_true]
  have hS':qD g n (n+1) (fun a c=>if c<n then A a c else if a=j then 1 else 0):=by
   obtain⟨s,h1,h2,h3⟩:=hS
   refine⟨s,h1,h2,fun a c ha hc => ?_⟩
   by_cases hcn:c<n
   ·simp only[hcn,if_true]
    exact h3 a c ha hcn
   ·simp only[hcn,if_false]
    by_cases haj:a=j
    ·simp only[haj,if_true]
     exact⟨s,by rw[Rat.one_mul],h2⟩
    ·simp only[haj,if_false]
     exact Dl.zero
  obtain⟨X,x1,x2⟩:=hF'.ajX hS'
  refine⟨X,fun i hi => ?_,x2⟩
  have h:=x1 i hi
  have e:Sg (fun c=>(if c<n then A i c else if i=j then 1 else 0)*X c) n=Sg (fun c=>A i c*X c) n:=gT fun c hc=>by simp only[hc,if_true]
  rw[e] at h
  rw[h]
  simp[rhs]
 obtain⟨C,hC⟩:∃C:Nat→Nat→Rat,∀j,eU n A (fun i=>if i=j then 1 else 0) (C j)∧∀i,i<n→aK (C j i)≤2*(2^n*(g+1)):=⟨fun j=>Classical.choose (aCq j),fun j=>Classical.choose_spec (aCq j)⟩
 obtain⟨s,s1,s2,s3⟩:=aqW (n:=n) (F:=fun i j=>C j i) fun i j hi hj=>(hC j).2 i hi
 intro b h hb
 obtain⟨t,t1,t2,t3⟩:=hb
 refine⟨fun i=>Sg (fun j=>C j i*b j) n,fun i hi => ?_,s*t,aOj s1 t1,?_,fun i hi => ?_⟩
 ·have e:Sg (fun i'=>A i i'*Sg (fun j=>C j i'*b j) n) n=Sg (fun j=>b j*Sg (fun i'=>A i i'*C j i') n) n:=by
   have e1:Sg (fun i'=>A i i'*Sg (fun j=>C j i'*b j) n) n=Sg (fun i'=>Sg (fun j=>A i i'*(C j i'*b j)) n) n:=gT fun i' _=>(DR _ _ _).symm
   rw[e1,apZ]
   refine gT fun j _ => ?_
   rw[←DR]
   exact gT fun i' _=>by grind
  rw[e,Oj (k:=i) hi fun j hj Ed=>by rw[(hC j).1 i hi];simp only[];rw[if_neg (by omega)];grind,(hC i).1 i hi]
  simp only[if_true]
  grind
 ·rw[aNf]
  have h2:s.natAbs*t.natAbs<2^(n*n*(2*(2^n*(g+1)))+1)*2^h:=aOa s2 t2
  rw[←Nat.pow_add] at h2
  exact aKD h2 (aME (by decide) (by omega))
 ·exact(Dl.ajJ hn fun j hj=>(s3 i j hi hj).mul (t3 j hj)).wide (by omega)
theorem aBw {f:Nat→Rat} {n:Nat} (h:∀i,i<n→0≤f i) {j:Nat} (hj:j<n):f j≤Sg f n:=by
 induction n with
 | zero=>omega
 |
  succ n ih =>
  have h0:=LP fun i (hi:i<n)=>h i (by omega)
  have hn:=h n (by omega)
  rw[Sg]
  by_cases Ew:j=n
  ·subst Ew;grind
  ·have:=ih (fun i hi=>h i (by omega)) (by omega)
   grind
theorem Tx (x:Nat→Rat):∀n,1≤n→∃m,m<n∧∀j,j<n→x j≤x m
 |
  n+1,_=>by
  by_cases hn:n=0
  ·subst hn
   exact⟨0,by decide,fun j hj=>by rw[show j=0 by omega];exact aN7⟩
  ·obtain⟨m,h1,h2⟩:=Tx x n (by omega)
   by_cases h:x m≤x n
   ·exact⟨n,by omega,fun j hj=>by
     by_cases Ew:j=n
     ·subst Ew;exact aN7
     ·exact Rat.le_trans (h2 j (by omega)) h⟩
   ·exact⟨m,by omega,fun j hj=>by
     by_cases Ew:j=n
     ·subst Ew
      have:=Rat.not_le.1 h
      grind
     ·exact h2 j (by omega)⟩
def Y7 (n:Nat) (G:Nat→Nat→Rat) (E:Nat→Rat) (r:Rat) (i j:Nat):Rat:=(if j=i then Sg (G i) n+E i+r else 0)-G i j
theorem aaG {n:Nat} {G:Nat→Nat→Rat} {E x:Nat→Rat} {r:Rat} {i:Nat} (hi:i<n):Sg (fun j=>Y7 n G E r i j*x j) n=(Sg (G i) n+E i+r)*x i-Sg (fun j=>G i j*x j) n:=by
 have e:Sg (fun j=>Y7 n G E r i j*x j) n=Sg (fun j=>if j=i then (Sg (G i) n+E i+r)*x i else 0) n-Sg (fun j=>G i j*x j) n:=by
  rw[←N0]
  refine gT fun j _ => ?_
  unfold Y7
  by_cases h:j=i
  ·subst h
   rw[if_pos rfl,if_pos rfl]
   grind
  ·rw[if_neg h,if_neg h]
   grind
 rw[e,Oj (k:=i) hi fun j _ hj=>if_neg hj,if_pos rfl]
theorem Q8 {n:Nat} {G:Nat→Nat→Rat} {E x:Nat→Rat} {r M:Rat} (hG:∀i j,0≤G i j) (hE:∀i,0≤E i) (hr:0≤r) (hx:eU n (Y7 n G E r) (fun _=>0) x) (hM:0<M) (hle:∀j,j<n→x j≤M) {i:Nat} (hi:i<n) (hxi:x i=M) :
  E i=0∧∀j,j<n→0<G i j→x j=M:=by
 have h1:=hx i hi
 rw[aaG hi,hxi] at h1
 have h2:Sg (fun j=>G i j*(M-x j)) n+(E i+r)*M=0:=by
  have e:Sg (fun j=>G i j*(M-x j)) n=M*Sg (G i) n-Sg (fun j=>G i j*x j) n:=by
   rw[←DR,←N0]
   exact gT fun j _=>by grind
  rw[e]
  grind
 have h3:∀j,j<n→0≤G i j*(M-x j):=fun j hj=>aOk (hG i j) (by have:=hle j hj;grind)
 have h4:=LP h3
 have hEi:=hE i
 have h5:0≤E i*M:=aOk hEi (Rat.le_of_lt hM)
 have h6:0≤r*M:=aOk hr (Rat.le_of_lt hM)
 refine⟨?_,fun j hj hg => ?_⟩
 ·have h7:E i*M=0:=by grind
  rcases Rat.mul_eq_zero.1 h7 with h | h
  ·exact h
  ·grind
 ·have h7:=aBw h3 hj
  have h8:G i j*(M-x j)=0:=by have:=h3 j hj;grind
  rcases Rat.mul_eq_zero.1 h8 with h | h
  ·grind
  ·grind
theorem arJ {n:Nat} {A:Nat→Nat→Rat} {x:Nat→Rat} (hx:eU n A (fun _=>0) x):eU n A (fun _=>0) fun i => -x i:=fun i hi=>by
 have e:Sg (fun j=>A i j * -x j) n=(-1)*Sg (fun j=>A i j*x j) n:=by
  rw[←DR]
  exact gT fun j _=>by grind
 rw[e,hx i hi]
 grind
theorem aiA {n:Nat} {G:Nat→Nat→Rat} {E:Nat→Rat} {r:Rat} (hG:∀i j,0≤G i j) (hE:∀i,0≤E i) (hr:0≤r)
  (wA:∀S:Nat→Prop,(∀i j,i<n→j<n→S i→0<G i j→S j)→(∀i,i<n→S i→E i=0)→∀i,i<n→¬S i):B0 n (Y7 n G E r):=by
 have half:∀x,eU n (Y7 n G E r) (fun _=>0) x→∀j,j<n→x j≤0:=fun x hx j hj=>by
  obtain⟨m,m1,m2⟩:=Tx x n (by omega)
  refine Rat.not_lt.1 fun jZ => ?_
  have hM:0<x m:=by have:=m2 j hj;grind
  refine wA (fun i=>x i=x m) (fun i k hi hk hS hg=>(Q8 hG hE hr hx hM m2 hi hS).2 k hk hg) (fun i hi hS=>(Q8 hG hE hr hx hM m2 hi hS).1) m m1 rfl
 intro x hx j hj
 have h1:=half x hx j hj
 have h2 : -x j≤0:=half _ (arJ hx) j hj
 grind
section
variable {g:List (List Rat)} {e:List Rat} {n:Nat} {S:Nat→Prop}
def noS (S:Nat→Prop) (st:List Bool):Prop:=∀i,S i→st.getD i false=false
theorem aaZ {st:List Bool} {i:Nat} {v:Bool} (h:noS S st) (hv:S i→v=false):noS S (st.set i v):=fun k hk=>by
 rw[aKy,List.getElem?_set]
 by_cases Wn:i=k
 ·subst Wn
  rw[if_pos rfl]
  by_cases hl:i<st.length
  ·rw[if_pos hl];exact hv hk
  ·rw[if_neg hl];rfl
 ·rw[if_neg Wn]
  have:=h k hk
  rwa [aKy] at this
theorem Jf {f:List Bool→Nat→List Bool} {st:List Bool} (h:noS S st):∀m,(∀st j,j<m→noS S st→noS S (f st j))→noS S ((List.range m).foldl f st)
 | 0,_=>h
 |
  m+1,hf=>by
  rw[sD]
  exact hf _ m (by omega) (Jf h m fun st j hj=>hf st j (by omega))
theorem aiE (mQ:∀i j,S i→j<n→0<(g.getD i []).getD j 0→S j) (he:∀i,S i→¬0<e.getD i 0) (m:Nat):noS S (qF g e n m):=by
 refine Jf (fun i _ => ?_) m fun st _ _ h => ?_
 ·rw[aKy,List.getElem?_replicate]
  split<;>rfl
 ·refine Jf h n fun st i _ h => ?_
  unfold L5 Si
  refine Jf (aaZ h fun hi => ?_) n fun st j hj h => ?_
  ·rw[h i hi,decide_eq_false (he i hi)]
   rfl
  ·refine aaZ h fun hi => ?_
   rw[h i hi,Bool.false_or]
   by_cases hg:0<(g.getD i []).getD j 0
   ·rw[h j (mQ i j hi hj hg),Bool.and_false]
   ·rw[decide_eq_false hg]
    rfl
end
end Go.PM
namespace Go.PM
theorem Dl.add {s:Int} {g:Nat} {a b:Rat} (ha:Dl s g a) (hb:Dl s g b):Dl s (g+1) (a+b):=by
 obtain⟨M,m1,m2⟩:=ha
 obtain⟨N,n1,n2⟩:=hb
 refine⟨M+N,by rw[Rat.add_mul,m1,n1,Rat.intCast_add],?_⟩
 have:=Int.natAbs_add_le M N
 rw[Nat.pow_succ]
 omega
theorem Dl.neg {s:Int} {g:Nat} {a:Rat} (ha:Dl s g a):Dl s g (-a):=by
 obtain⟨M,m1,m2⟩:=ha
 exact⟨-M,by rw[Rat.neg_mul,m1,Rat.intCast_neg],by rw[Int.natAbs_neg];exact m2⟩
theorem dH.congr {h n:Nat} {X Y:Nat→Rat} (hX:dH h n X) (he:∀i,i<n→X i=Y i):dH h n Y:=by
 obtain⟨t,h1,h2,h3⟩:=hX
 exact⟨t,h1,h2,fun i hi=>by rw[←he i hi];exact h3 i hi⟩
abbrev EI:=List Rat×List (List Rat)×List Rat
def gE (g:List (List Rat)) (i j:Nat):Rat:=(g.getD i []).getD j 0
def eE (e:List Rat) (i:Nat):Rat:=e.getD i 0
def Qy (x:EI) (r:Rat):Nat→Nat→Rat:=Y7 x.1.length (gE x.2.1) (eE x.2.2) r
structure mE (x:EI):Prop where
 n:1≤x.1.length∧x.1.length≤6
 g:x.2.1.length=x.1.length
 e:x.2.2.length=x.1.length
 w:jB x.1=true
 wb:∀q∈x.1,aK q≤665
 gr:∀r∈x.2.1,r.length=x.1.length∧∀q∈r,0≤q∧aK q≤665
 er:∀q∈x.2.2,0≤q∧aK q≤665
 gd:∀i,gE x.2.1 i i=0
 ok:Fp x=true
theorem BI {P:Rat→Prop} {u:List Rat} (h:∀q∈u,P q) (h0:P 0) (i:Nat):P (u.getD i 0):=by
 rw[aKy]
 cases hu:u[i]? with
 | none=>exact h0
 | some q=>exact h q (aLv hu)
section
variable {x:EI} (hx:mE x)
include hx
theorem mE.TS {P:Rat→Prop} (h:∀q,0≤q∧aK q≤665→P q) (i j:Nat):P (gE x.2.1 i j):=by
 refine h _ ?_
 unfold gE
 have h0:(0:Rat)≤0∧aK 0≤665:=⟨aN7,by rw[rZ];decide⟩
 rw[aKy (l:=x.2.1)]
 cases hr:x.2.1[i]? with
 | none=>exact BI (P:=fun q=>0≤q∧aK q≤665) (u:=[]) (fun q hq=>by cases hq) h0 j
 | some r=>exact BI (P:=fun q=>0≤q∧aK q≤665) (hx.gr r (aLv hr)).2 h0 j
theorem mE.To {P:Rat→Prop} (h:∀q,0≤q∧aK q≤665→P q) (i:Nat):P (eE x.2.2 i) :=
 h _ (BI (P:=fun q=>0≤q∧aK q≤665) hx.er ⟨aN7,by rw[rZ];decide⟩ i)
theorem mE.aqA {r:Rat} (hr:0≤r):B0 x.1.length (Qy x r):=by
 refine aiA (hx.TS fun q h=>h.1) (hx.To fun q h=>h.1) hr fun S h1 h2 i hi hS => ?_
 have hno:=aiE (g:=x.2.1) (e:=x.2.2) (n:=x.2.2.length) (S:=fun i=>i<x.1.length∧S i) (fun i j hi hj hg=>⟨by rw[←hx.e];exact hj,h1 i j hi.1 (by rw[←hx.e];exact hj) hi.2 hg⟩) (fun i hi h=>by
  have:=h2 i hi.1 hi.2
  unfold eE at this
  rw[this] at h
  exact absurd h (by decide)) x.2.2.length i ⟨hi,hS⟩
 have jP:=aKP.1 hx.ok
 have hlen:=DX x.2.1 x.2.2 x.2.2.length x.2.2.length
 obtain⟨v,xQ⟩:∃v,(qF x.2.1 x.2.2 x.2.2.length x.2.2.length)[i]? = some v:=⟨_,aKI (by rw[hlen,hx.e];exact hi)⟩
 rw[aKy,xQ,aNP] at hno
 have:=jP _ (aLv xQ)
 rw[hno] at this
 cases this
theorem mE.scaled {r:Rat} {K:Nat} (hK:K=43) (hr:aK r≤665):qD (K*665+9) x.1.length x.1.length (Qy x r):=by
 obtain⟨s,h1,h2,h3⟩:=common (β:=665) (K:=K) (f:=fun k=>if k<36 then gE x.2.1 (k / 6) (k % 6) else if k<42 then eE x.2.2 (k-36) else r) fun k hk=>by
  split
  ·exact hx.TS (fun q h=>h.2) _ _
  ·split
   ·exact hx.To (fun q h=>h.2) _
   ·exact hr
 have hn:=hx.n
 have kg:∀i j,i<6→j<6→Dl s (K*665+1) (gE x.2.1 i j):=fun i j hi hj=>by
  have h:=h3 (i*6+j) (by omega)
  rw[if_pos (by omega)] at h
  have e1:(i*6+j) / 6=i:=by omega
  have e2:(i*6+j) % 6=j:=by omega
  rw[e1,e2] at h
  exact h
 have ke:∀i,i<6→Dl s (K*665+1) (eE x.2.2 i):=fun i hi=>by
  have h:=h3 (36+i) (by omega)
  rw[if_neg (by omega),if_pos (by omega),show 36+i-36=i by omega] at h
  exact h
 have kr:Dl s (K*665+1) r:=by
  have h:=h3 42 (by omega)
  rw[if_neg (by omega),if_neg (by omega)] at h
  exact h
 refine⟨s,h1,aKD h2 (aME (by decide) (by omega)),fun i j hi hj => ?_⟩
 unfold Qy Y7
 have e:∀a b:Rat,a-b=a + -b:=fun a b=>Rat.sub_eq_add_neg a b
 rw[e]
 have X2:Dl s (K*665+5) (Sg (gE x.2.1 i) x.1.length):=Dl.ajJ (by omega) fun j hj=>kg i j (by omega) (by omega)
 have hd:Dl s (K*665+8) (if j=i then Sg (gE x.2.1 i) x.1.length+eE x.2.2 i+r else 0):=by
  split
  ·exact((X2.add ((ke i (by omega)).wide (by omega))).add (kr.wide (by omega))).wide (by omega)
  ·exact Dl.zero
 exact(hd.add ((kg i j (by omega) (by omega)).neg.wide (by omega)))
theorem mE.step {γ:Nat} (Z5:γ=132000000) {r:Rat} (h0:0≤r) (hr:aK r≤665) {b:Nat→Rat} {h:Nat} (hb:dH h x.1.length b):∃X,eU x.1.length (Qy x r) b X∧dH (h+γ) x.1.length X:=by
 have hn:=hx.n
 obtain⟨K,hK⟩:∃K,K=43:=⟨43,rfl⟩
 obtain⟨X,h1,h2⟩:=(hx.aqA h0).aqO (hx.scaled hK hr) (by omega) b h hb
 refine⟨X,h1,h2.wide ?_⟩
 have e1:2^x.1.length≤2^6:=aME (by decide) hn.2
 have e2:2^x.1.length*(K*665+9+1)≤2^6*(K*665+9+1):=aK2 _ e1
 have e3:x.1.length*x.1.length≤6*6:=Nat.mul_le_mul hn.2 hn.2
 have e4:x.1.length*x.1.length*(2*(2^x.1.length*(K*665+9+1)))≤6*6*(2*(2^6*(K*665+9+1))):=Nat.mul_le_mul e3 (Nat.mul_le_mul_left _ e2)
 have e5:6*6*(2*(2^6*(K*665+9+1)))=4608*(K*665+10):=by rw[show (2:Nat)^6=64 by decide];omega
 omega
omit hx in
theorem apL {n:Nat} {G:Nat→Nat→Rat} {E X b:Nat→Rat} (hG:∀i j,0≤G i j) (hE:∀i,0≤E i) (hX:eU n (Y7 n G E 0) b X) (hb:∀i,i<n→0<b i):∀i,i<n→0<X i:=fun i hi=>by
 obtain⟨m,m1,m2⟩:=Tx (fun i => - X i) n (by omega)
 have h1:=hX m m1
 rw[aaG m1] at h1
 have h2:Sg (fun j=>G m j*(X j-X m)) n=Sg (fun j=>G m j*X j) n-X m*Sg (G m) n:=by
  rw[←DR,←N0]
  exact gT fun j _=>by grind
 have h3:0≤Sg (fun j=>G m j*(X j-X m)) n:=LP fun j hj=>aOk (hG m j) (by have:=m2 j hj;grind)
 have h4:=hb m m1
 have hm:0<X m:=by
  refine Rat.not_le.1 fun hle => ?_
  have h5:0≤E m * -X m:=aOk (hE m) (by grind)
  grind
 have:=m2 i hi
 grind
end
open Classical in
noncomputable def ahW (n:Nat) (A:Nat→Nat→Rat) (b:Nat→Rat):Nat→Rat:=if h:∃X,eU n A b X then Classical.choose h else fun _=>0
theorem Vy {n:Nat} {A:Nat→Nat→Rat} {b:Nat→Rat} (h:∃X,eU n A b X):eU n A b (ahW n A b):=by
 unfold ahW
 rw[dif_pos h]
 exact Classical.choose_spec h
noncomputable def sK (x:EI):Nat→Nat→Rat
 | 0=>fun _=>1
 | k+1=>ahW x.1.length (Qy x 0) (sK x k)
def kJ:Nat→Rat
 | 0=>1
 | k+1=>kJ k*((k+1:Nat):Int)
def qZ (b:List Rat) (X:Nat→Rat) (n:Nat):Rat:=Sg (fun i=>b.getD i 0*X i) n
noncomputable def cP (x:EI) (k:Nat):Rat:=qZ x.1 (sK x k) x.1.length*kJ k
theorem mE.sol {γ:Nat} (Z5:γ=132000000) {x:EI} (hx:mE x) {r:Rat} (h0:0≤r) (hr:aK r≤665) {b:Nat→Rat} {h:Nat} (hb:dH h x.1.length b):eU x.1.length (Qy x r) b (ahW x.1.length (Qy x r) b)∧dH (h+γ) x.1.length (ahW x.1.length (Qy x r) b):=by
 obtain⟨X,h1,h2⟩:=hx.step Z5 h0 hr hb
 have h3:=Vy ⟨X,h1⟩
 exact⟨h3,h2.congr fun i hi=>(hx.aqA h0).uniq h1 h3 i hi⟩
theorem rz0:aK (0:Rat)≤665:=by rw[rZ];decide
theorem mE.mom {γ:Nat} (Z5:γ=132000000) {x:EI} (hx:mE x):∀k,dH (2+γ*k) x.1.length (sK x k)
 | 0=>⟨1,by decide,Nat.one_lt_two_pow (by omega),fun i _=>⟨1,by show (1:Rat)*_=_;rw[Rat.one_mul],Nat.one_lt_two_pow (by omega)⟩⟩
 | k+1=>((mE.sol Z5 hx aN7 rz0 (mE.mom Z5 hx k)).2).wide (by rw[Nat.mul_add_one];omega)
theorem mE.Ij {x:EI} (hx:mE x) (k:Nat):eU x.1.length (Qy x 0) (sK x k) (sK x (k+1)):=(mE.sol rfl hx aN7 rz0 (mE.mom rfl hx k)).1
theorem Bh:∀k,k≤6→aK (kJ k)≤40
 | 0,_=>by show aK 1≤_;rw[AQ];decide
 |
  k+1,hk=>by
  have h:∀k,k≤6→aK (kJ k)≤1+5*k:=by
   intro k
   induction k with
   | zero=>intro _;show aK 1≤_;rw[AQ];decide
   |
    succ k ih =>
    intro hk
    have h1:=ih (by omega)
    have h2:=gB (kJ k) ((k+1:Nat):Int)
    have h3:aK (((k+1:Nat):Int):Rat)≤5:=by
     have h4:=G4 ((k+1:Nat):Int)
     have h5:bl (k+1)≤5:=zO (by omega)
     rw[aNg] at h4
     omega
    show aK (kJ k*_)≤_
    omega
  have:=h (k+1) hk
  omega
theorem U6 {f:Nat→Rat} {B n:Nat} (h:∀i,i<n→aK (f i)≤B):∀m,m≤n→aK (Sg f m)≤m*(B+1)+1
 | 0,_=>by show aK 0≤_;rw[rZ];omega
 |
  m+1,hm=>by
  have h1:=U6 h m (by omega)
  have h2:=vE (Sg f m) (f m)
  have h3:=h m (by omega)
  rw[Sg,aK6]
  omega
theorem mE.begun {x:EI} (hx:mE x) {X:Nat→Rat} {h:Nat} (hX:dH h x.1.length X):∀m,m≤x.1.length→aK (qZ x.1 X m)≤6*(h+666)+1:=fun m hm=>by
 have h1:=U6 (f:=fun i=>x.1.getD i 0*X i) (B:=665+h) (n:=x.1.length) (fun i hi=>by
  have h2:=gB (x.1.getD i 0) (X i)
  have h3:=hX.bits hi
  have h4:aK (x.1.getD i 0)≤665:=BI (P:=fun q=>aK q≤665) hx.wb rz0 i
  omega) m hm
 have hn:=hx.n
 have h2:m*(665+h+1)≤6*(665+h+1):=aK2 _ (by omega)
 unfold qZ
 omega
theorem mE.zG {x:EI} (hx:mE x) {k:Nat} (hk:k≤6):aK (cP x k)≤5000000000:=by
 obtain⟨γ,Z5⟩:∃γ,γ=132000000:=⟨132000000,rfl⟩
 have h1:=hx.begun (mE.mom Z5 hx k) x.1.length (aKB _)
 have h0:γ*k≤γ*6:=Nat.mul_le_mul_left _ hk
 have h2:=gB (qZ x.1 (sK x k) x.1.length) (kJ k)
 have h3:=Bh k hk
 unfold cP
 omega
theorem mE.V8 {x:EI} (hx:mE x):0<cP x 1:=by
 have hp:∀i,i<x.1.length→0<sK x 1 i:=apL (hx.TS fun q h=>h.1) (hx.To fun q h=>h.1) (hx.Ij 0) fun i _=>by show (0:Rat)<1;decide
 obtain⟨m,m1,m2⟩:=Tx (fun i => - sK x 1 i) x.1.length hx.n.1
 have hw:=hx.w
 unfold jB at hw
 rw[Bool.and_eq_true] at hw
 have hw0:∀q∈x.1,0≤q:=fun q hq=>by
  have:=List.any_eq_false.1 (by simpa using hw.1:(x.1.any fun q=>decide (q<0))=false) q hq
  exact Rat.not_lt.1 (by simpa using this)
 have hw1:Sg (fun i=>x.1.getD i 0) x.1.length=1:=by
  have h1:=of_decide_eq_true hw.2
  have h2:=alG x.1 0
  rw[h2] at h1
  have key:∀(n:Nat) (f:Nat→Rat),dM (vec n f)=Sg f n:=fun n f=>by
   induction n with
   | zero=>rfl
   |
    succ n ih =>
    rw[Bt,Sg,←ih]
    unfold dM
    rw[List.foldl_append]
    rfl
  rwa [key] at h1
 have h3:sK x 1 m*Sg (fun i=>x.1.getD i 0) x.1.length≤qZ x.1 (sK x 1) x.1.length:=by
  rw[←DR]
  refine aAH fun i hi => ?_
  have h4:=m2 i hi
  have h5:0≤x.1.getD i 0:=BI (P:=fun q=>0≤q) hw0 aN7 i
  have h6:0≤x.1.getD i 0*(sK x 1 i-sK x 1 m):=aOk h5 (by grind)
  grind
 rw[hw1] at h3
 have h7:=hp m m1
 have h8:kJ 1=1:=by show (1:Rat)*_=1;rw[Rat.one_mul];rfl
 unfold cP
 rw[h8]
 grind
end Go.PM
namespace Go.PM
open Go.Lib
theorem Y9 {qs:List Rat}:dM qs=Sg (fun i=>qs.getD i 0) qs.length:=by
 have key:∀(n:Nat) (f:Nat→Rat),dM (vec n f)=Sg f n:=fun n f=>by
  induction n with
  | zero=>rfl
  |
   succ n ih =>
   rw[Bt,Sg,←ih]
   unfold dM
   rw[List.foldl_append]
   rfl
 rw[←key,←alG]
theorem YI {g:List (List Rat)} {i:Nat} (hi:i<g.length):∃r,g[i]? = some r∧∀j,gE g i j=r.getD j 0:=by
 refine⟨g[i],aKI hi,fun j => ?_⟩
 unfold gE
 rw[aKy (l:=g),aKI hi]
 rfl
abbrev Fi (x:EI):VV:=CE aF x.1 x.2.1 x.2.2
section
variable {x:EI} (hx:mE x)
include hx
theorem IG (i:Nat) (hi:i<x.1.length):TC 136 [Fi x,VI i] (aF (Sg (gE x.2.1 i) x.1.length+eE x.2.2 i)):=by
 refine TC.walk ⟨true,false⟩ FO rfl (aMp rfl) (Lw (KJ _ _ _) rfl) (oF _) ?_
 obtain⟨r,hr,hg⟩:=YI (g:=x.2.1) (i:=i) (by rw[hx.g];exact hi)
 have Mm:=hx.gr r (aLv hr)
 obtain⟨q,hq⟩:∃q,x.2.2[i]? = some q:=⟨_,aKI (by rw[hx.e];exact hi)⟩
 have hqm:=hx.er q (aLv hq)
 have hn:=hx.n
 have he:eE x.2.2 i=q:=by unfold eE;rw[aKy,hq];rfl
 have hs:Sg (gE x.2.1 i) x.1.length=dM r:=by
  rw[Y9,Mm.1]
  exact gT fun j _=>hg j
 rw[he,hs]
 have a1:=fun H=>aI (f:=aC aF) (t := .op) (H:=H) (size:=1) (k := .i64) hr rfl
 have a2:=fun H=>aI (f:=aF) (t := .op) (H:=H) (size:=3) (k := .i64) hq rfl
 have l1:∀K,bH false 1 (.cJ (Fi x) 1) K=some (aC (aC aF) x.2.1):=fun K=>rfl
 have l2:∀K,bH false 1 (.cJ (Fi x) 2) K=some (aC aF x.2.2):=fun K=>rfl
 have l3:∀K,bH false 1 (.cJ (aC aF r) 0) K=some (aC aF r):=fun K=>rfl
 have jP:(aB (Fi x)).all bN=true:=rfl
 have hsb:=En (B:=665) (n:=6) (fun q hq=>(Mm.2 q hq).2) (by omega)
 have e1:=nQ (dM r) q (by omega) (by omega)
 simp only[BS,zS,jP,if_true,l1,l2,l3,a1,a2,dT,VX,Nat.reduceEqDiff,Nat.reduceAdd,Nat.reduceLeDiff,Nat.reduceLT,Nat.reduceSub]
 refine rK rfl (Pk (v:=aC aF r) r (B:=665) (Rd.tree dC) (aKB _) (fun q hq=>(Mm.2 q hq).2) (by omega) (by decide) (by omega)) fun y L hy => ?_
 subst hy
 have s1:bL 0 3 (.ptr 0 0 0 0) (aF (dM r+q)) ([cell0]++L)=some ([.row 0 [aF (dM r+q)] 3 true]++L):=by
  have Kp:aG ([cell0]++L) 0 0=some ([VV.agg [VB false,.tree [] .nil,.tree [] .nil]],3,true):=rfl
  rw[bS (e:=3) Kp (by exact aNT) (aKB _) (dC _) (fR _)]
  rfl
 have l4:bH true 3 (.ptr 0 0 0 0) ([.row 0 [aF (dM r+q)] 3 true]++L)=some (aF (dM r+q)):=by
  have Kp:aG ([fC.row 0 [aF (dM r+q)] 3 true]++L) 0 0=some ([aF (dM r+q)],3,true):=rfl
  rw[bJ,Kp]
  exact bF _
 simp only[l2,a2,bF,e1,s1,l4,dT,VX,Nat.reduceEqDiff,Nat.reduceAdd,Nat.reduceLeDiff,Nat.reduceLT,Nat.reduceSub]
 exact aL (eR _)
end
def mP (G:Nat→Nat→Rat) (i j a c:Nat):Rat:=if a<i∨(a=i∧c<j) then -G a c else 0
def mD (n:Nat) (G:Nat→Nat→Rat) (E:Nat→Rat) (r:Rat) (i a c:Nat):Rat:=if a=c∧a<i then Y7 n G E r a c else -G a c
section
variable {n:Nat} {G:Nat→Nat→Rat} {E:Nat→Rat} {r:Rat}
theorem apI {a c:Nat}:(0:Rat)=mP G 0 0 a c:=by unfold mP;rw[if_neg (by omega)]
theorem azQ {i j a c:Nat}:OQ (mP G i j) i j (-G i j) a c=mP G i (j+1) a c:=by
 unfold OQ mP
 by_cases h:a=i∧c=j
 ·obtain⟨rfl,rfl⟩:=h
  rw[if_pos ⟨rfl,rfl⟩,if_pos (by omega)]
 ·rw[if_neg h]
  by_cases h2:a<i∨(a=i∧c<j)
  ·rw[if_pos h2,if_pos (by omega)]
  ·rw[if_neg h2,if_neg (by omega)]
theorem axX {i a c:Nat} (hc:c<n):mP G i n a c=mP G (i+1) 0 a c:=by
 unfold mP
 by_cases h2:a<i∨(a=i∧c<n)
 ·rw[if_pos h2,if_pos (by omega)]
 ·rw[if_neg h2,if_neg (by omega)]
theorem aAg {a c:Nat} (ha:a<n):mP G n 0 a c=mD n G E r 0 a c:=by
 unfold mP mD
 rw[if_pos (by omega),if_neg (by omega)]
theorem ayD {i:Nat}:mD n G E r i i i = -G i i:=by
 unfold mD
 rw[if_neg (by omega)]
theorem aAa {i a c:Nat}:OQ (mD n G E r i) i i (-G i i+(Sg (G i) n+E i)+r) a c=mD n G E r (i+1) a c:=by
 unfold OQ mD
 by_cases h:a=i∧c=i
 ·obtain⟨rfl,rfl⟩:=h
  rw[if_pos ⟨rfl,rfl⟩,if_pos ⟨rfl,by omega⟩]
  unfold Y7
  rw[if_pos rfl]
  grind
 ·rw[if_neg h]
  by_cases h2:a=c∧a<i
  ·rw[if_pos h2,if_pos ⟨h2.1,by omega⟩]
  ·rw[if_neg h2,if_neg (by omega)]
theorem avW {a c:Nat} (ha:a<n):mD n G E r n a c=Y7 n G E r a c:=by
 unfold mD
 by_cases h:a=c
 ·rw[if_pos ⟨h,ha⟩]
 ·rw[if_neg (by omega)]
  unfold Y7
  rw[if_neg (by omega)]
  grind
end
def SQ (P:Nat→Nat→aA→VV→Prop) (H:aA) (r:VV) (H':aA):Prop:=H.length≤H'.length∧(∀b g x,aG H b g=some x→aG H' b g=some x)∧P H.length H'.length H' r
theorem Cn {F lo:Nat} {args:List VV} {P:Nat→Nat→aA→VV→Prop} {H:aA} {K:VV→aA→Prop} (CF:FH.contains F=true) (h:jH F args lo H (SQ P H)) (hk:∀r H',H.length≤H'.length→(∀b g x,aG H b g=some x→aG H' b g=some x)→P H.length H'.length H' r→K r H'):dI F args lo H K :=
 gC CF (h.mono fun r H' ⟨h1,h2,h3⟩=>hk r H' h1 h2 h3)
set_option maxHeartbeats 8000000 in
set_option maxRecDepth 20000 in
theorem Fe {x:EI} (hx:mE x) {lo:Nat} {H:aA} (r:Rat) (hr:aK r≤665) (dS:lo≤H.length) :
  jH 119 [Fi x,aF r,VB false] lo H (SQ (TabIs aF 3 (QH x.1.length x.1.length (Qy x r))) H):=by
 refine jH.walk ⟨true,false⟩ DE (aMp rfl) ?_
 have hn:=hx.n
 have jP:(aB (Fi x)).all bN=true:=rfl
 have l0:∀K,bH false 1 (.cJ (Fi x) 0) K=some (aC aF x.1):=fun K=>rfl
 have l1:∀K,bH false 1 (.cJ (Fi x) 1) K=some (aC (aC aF) x.2.1):=fun K=>rfl
 have ls:∀K,bH true 3 (.cJ (Fi x) 0) K=some (Fi x):=fun K=>rfl
 have lr:∀K,bH true 3 (.cJ (aF r) 0) K=some (aF r):=fun K=>bF r
 simp only[xK,vD,jP,fR,if_true,l0,List.length_map,dT,VX,Nat.reduceEqDiff,Nat.reduceAdd,Nat.reduceLeDiff,Nat.reduceLT,Nat.reduceSub]
 refine rK rfl (Sq x.1.length (by omega) dS) fun z L hz => ?_
 rw[aoD] at hz
 obtain⟨b,g,c,rfl,hc,hT⟩:=hz.tb
 have hhi:H.length≤(H++L).length:=(aMv H L).length_le
 have hO:(H++L).length≤(H++L).length∧∀b g x,aG H b g=some x→aG (H++L) b g=some x:=⟨aKB _,fun _ _ _ h=>dU h⟩
 generalize hHz:H++L=Hz at *
 have tr:∀ {K K':aA},(Hz.length≤K.length∧∀b g x,aG H b g=some x→aG K b g=some x)→QJ H.length Hz.length K K'→(Hz.length≤K'.length∧∀b g x,aG H b g=some x→aG K' b g=some x):=fun h o=>⟨by rw[o.1];exact h.1,fun b g x hx=>o.2 b g x (.inl (iT hx)) (h.2 b g x hx)⟩
 have hlen:=hT.len (c:=c)
 simp only[hlen,dT,VX,Nat.reduceEqDiff,Nat.reduceAdd,Nat.reduceLeDiff,Nat.reduceLT,Nat.reduceSub]
 generalize hG:gE x.2.1=G at *
 generalize hE:eE x.2.2=E at *
 generalize hnn:x.1.length=n at *
 have bG:∀i j,aK (G i j)≤665:=fun i j=>by rw[←hG];exact hx.TS (P:=fun q=>aK q≤665) (fun q h=>h.2) i j
 have wn:∀k:Nat,k≤n→IntKind.i64.wrap ((k:Int)+1)=((k+1:Nat):Int):=fun k hk=>wN _ (by omega) (by omega)
 refine aP (fun(i:Nat) ρ H1=>i≤n∧Tb aF H.length Hz.length n n b g (mP G i 0) H1∧(Hz.length≤H1.length∧∀b g x,aG H b g=some x→aG H1 b g=some x)∧ρ 2=VB false∧ρ 3 = .cJ (Fi x) 0∧ρ 4 = .cJ (aF r) 0∧ρ 7 = .ref b g 0 n c∧ρ 16=VI n∧ρ 17=VI i) (fun i=>n-i) 0
  ⟨aK5 _,hT.congr fun _ _ _ _=>apI,hO,by (repeat' apply aMh)<;>first | rfl | trivial | assumption⟩ ?_
 clear hT hO hlen
 rintro i ρ H1 ⟨hi,hT,hO,g2,g3,g4,g7,g16,g17⟩
 have hlen:=hT.len (c:=c)
 by_cases bZ:(i:Int)<(n:Int)
 ·have uW:i<n:=by omega
  simp only[nH,g2,g3,g4,g7,g16,g17,bZ,hlen,dT,VX,Nat.reduceEqDiff,Nat.reduceAdd,Nat.reduceLeDiff,Nat.reduceLT,Nat.reduceSub]
  refine aP (fun(j:Nat) ρ H2=>j≤n∧Tb aF H.length Hz.length n n b g (mP G i j) H2∧(Hz.length≤H2.length∧∀b g x,aG H b g=some x→aG H2 b g=some x)∧ρ 2=VB false∧ρ 3 = .cJ (Fi x) 0∧ρ 4 = .cJ (aF r) 0∧ρ 7 = .ref b g 0 n c∧ρ 8=VI i∧ρ 16=VI n∧ρ 17=VI i∧ρ 21=VI n∧ρ 22=VI j) (fun j=>n-j) 0
   ⟨aK5 _,hT,hO,by (repeat' apply aMh)<;>first | rfl | trivial | assumption⟩ ?_
  clear g2 g3 g4 g7 g16 g17 hT hO hlen
  rintro j ρ H2 ⟨hj,hT,hO,g2,g3,g4,g7,g8,g16,g17,g21,g22⟩
  by_cases Ew:(j:Int)<(n:Int)
  ·have Hu:j<n:=by omega
   obtain⟨row,lT,Xg⟩:=YI (g:=x.2.1) (i:=i) (by rw[hx.g,hnn];exact uW)
   have Mm:=hx.gr row (aLv lT)
   obtain⟨q,hq⟩:∃q,row[j]? = some q:=⟨_,aKI (by rw[Mm.1,hnn];exact Hu)⟩
   have hGq:G i j=q:=by rw[←hG,Xg,aKy,hq];rfl
   have a1:=fun H=>aI (f:=aC aF) (t := .op) (H:=H) (size:=1) (k := .i64) lT rfl
   have a2:=fun H=>aI (f:=aF) (t := .op) (H:=H) (size:=3) (k := .i64) hq rfl
   have arL:∀K,bH false 1 (.cJ (aC aF row) 0) K=some (aC aF row):=fun K=>rfl
   have a3:=hT.addr (c:=c) uW
   obtain⟨rb1,rg1,rc1,c1,c2,_,c4⟩:=hT.spot (i:=i) (j:=j) uW Hu dC fR
   obtain⟨H3,c5,c6,hT3,_⟩:=c4 lo (-q) dS
   have em:=Df q
   simp only[nI,g2,g3,g7,g8,g21,g22,Ew,l1,a1,a2,arL,a3,c1,c2,c5,em,bF,wn j hj,dT,VX,Nat.reduceEqDiff,Nat.reduceAdd,Nat.reduceLeDiff,Nat.reduceLT,Nat.reduceSub]
   exact⟨j+1,by omega,by omega,hT3.congr fun _ _ _ _=>by rw[←hGq];exact azQ,tr hO c6,by (repeat' apply aMh)<;>first | rfl | trivial | assumption⟩
  ·have Sp:j=n:=by omega
   subst Sp
   simp only[nI,g17,g21,g22,Ew,wn i hi,dT,VX,Nat.reduceEqDiff,Nat.reduceAdd,Nat.reduceLeDiff,Nat.reduceLT,Nat.reduceSub]
   exact⟨i+1,by omega,by omega,hT.congr fun _ _ _ hc=>axX hc,hO,by (repeat' apply aMh)<;>first | rfl | trivial | assumption⟩
 ·have mC:i=n:=by omega
  subst mC
  simp only[nH,g3,g4,g7,g16,g17,bZ,hlen,dT,VX,Nat.reduceEqDiff,Nat.reduceAdd,Nat.reduceLeDiff,Nat.reduceLT,Nat.reduceSub]
  refine aP (fun(k:Nat) ρ H1=>k≤i∧Tb aF H.length Hz.length i i b g (mD i G E r k) H1∧(Hz.length≤H1.length∧∀b g x,aG H b g=some x→aG H1 b g=some x)∧ρ 3 = .cJ (Fi x) 0∧ρ 4 = .cJ (aF r) 0∧ρ 7 = .ref b g 0 i c∧ρ 59=VI i∧ρ 60=VI k) (fun k=>i-k) 0
   ⟨aK5 _,hT.congr fun _ _ ha _=>aAg ha,hO,by (repeat' apply aMh)<;>first | rfl | trivial | assumption⟩ ?_
  clear g2 g3 g4 g7 g16 g17 hT hO hlen
  rintro k ρ H2 ⟨hk,hT,hO,g3,g4,g7,g59,g60⟩
  by_cases T2:(k:Int)<(i:Int)
  ·have ZH:k<i:=by omega
   have a3:=hT.addr (c:=c) ZH
   obtain⟨rb1,rg1,rc1,c1,c2,c3,c4⟩:=hT.spot (i:=k) (j:=k) ZH ZH dC fR
   have c3:=(c3 true).trans (bF _)
   rw[ayD] at c3
   obtain⟨H3,c5,c6,hT3,_⟩:=c4 lo (-G k k+(Sg (G k) i+E k)+r) dS
   have eo:=IG hx k (by rw[hnn];exact ZH)
   rw[hG,hE,hnn] at eo
   have b1:=bG k k
   have b2:aK (-G k k)≤665:=by rw[G5];exact b1
   have b3:=U6 (f:=G k) (B:=665) (n:=i) (fun j _=>bG k j) i (aKB _)
   have b4:aK (E k)≤665:=by rw[←hE];exact hx.To (P:=fun q=>aK q≤665) (fun q h=>h.2) k
   have b5:=vE (Sg (G k) i) (E k)
   have b6:=vE (-G k k) (Sg (G k) i+E k)
   have b7:i*(665+1)≤6*(665+1):=aK2 _ (by omega)
   have e1:=nQ (-G k k) (Sg (G k) i+E k) (by omega) (by omega)
   have e2:=nQ (-G k k+(Sg (G k) i+E k)) r (by omega) (by omega)
   simp only[nG,g3,g4,g7,g59,g60,T2,ls,lr,a3,c1,c2,c3,c5,eo,e1,e2,wn k hk,dT,VX,Nat.reduceEqDiff,Nat.reduceAdd,Nat.reduceLeDiff,Nat.reduceLT,Nat.reduceSub]
   exact⟨k+1,by omega,by omega,hT3.congr fun _ _ _ _=>aAa,tr hO c6,by (repeat' apply aMh)<;>first | rfl | trivial | assumption⟩
  ·have hke:k=i:=by omega
   subst hke
   simp only[nG,g7,g59,g60,T2,dT,VX,Nat.reduceEqDiff,Nat.reduceAdd,Nat.reduceLeDiff,Nat.reduceLT,Nat.reduceSub]
   have hT:=hT.congr fun a c ha _=>avW ha
   obtain⟨rs,h1,h2⟩:=hT
   refine⟨aKC hhi hO.1,hO.2,b,g,c,rs,by rw[Cf],by rw[Cf];exact hc,h1.wide (aKB _) hO.1,?_⟩
   rw[h2]
   unfold Qy
   rw[hnn,hG,hE]
end Go.PM