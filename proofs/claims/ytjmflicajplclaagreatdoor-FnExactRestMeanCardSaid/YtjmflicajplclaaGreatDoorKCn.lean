/- Texts of a claim, in one: part 14. -/
import Derived.KernelRfl
import Derived.Test.YtjmflicajplclaaGreatDoorKCm
open And renaming intro → aMd
open Bool renaming not_false → aOb,not_true → aOc
open Int renaming mul_ne_zero → aOf,natAbs_mul → aNb,natAbs_natCast → aNc
open List renaming all_eq_true → aKL,cons_append → aLX,getD_eq_getElem?_getD → aKu,getElem?_cons_succ → aMh,getElem?_cons_zero → aKR,getElem?_eq_getElem → aKE,length_cons → aKH,length_eq_zero_iff → aMF,length_nil → aMa,mapM_cons → aLU,mem_of_getElem? → aLr,nil_append → aLP,prefix_append → aMr
open Nat renaming add_mul → aK2,add_sub_cancel_left → aMo,le_of_ble_eq_true → aMl,le_refl → aKx,le_trans → aKy,lt_irrefl → aOd,lt_of_lt_of_le → aKz,lt_or_ge → aKA,mul_comm → aLZ,mul_le_mul_right → aKY,mul_lt_mul'' → aN6,pow_le_pow_right → aMA,zero_add → aL5,zero_le → aK1,zero_lt_one → aNP
open Option renaming getD_some → aNL
open Rat renaming intCast_mul → aN7,le_refl → aN3,mul_nonneg → aOg,zero_mul → aOe
set_option linter.unusedSimpArgs false
set_option linter.unusedVariables false
namespace Go.PM
def cZ:aE:=(.seq (LS [LM 77 10,LM 78 4,LO 79 (.bin .lss (LT 77) (LT 78))] (.cond (LT 79) .skip (.exit 0))) (.seq (.block 1 (LS [LM 83 0,LO 84 (.chk (LT 83)),LO 85 (LA 1 84),LO 86 (LL 85),LM 87 10,LO 88 (.iaddr 1 (LT 86) (LT 87)),LO 89 (LL 88),LO 90 (.call 57 [(LT 89)]),LM 82 90,LO 91 (LX 82 0),LO 92 (LX 82 1),LM 11 91,LM 12 92] (.seq (LS [LM 93 12,LO 94 (.un .not (LT 93)),LM 95 94,LZ 95 96 (.mv (LT 11)),LZ 95 97 (.len (LT 96)),LZ 95 98 (.mv (LT 4)),LZ 95 99 (.bin .neq (LT 97) (LT 98)),LO 100 (.pick (LT 95) LG (LT 99)),LM 101 100,LZ 101 102 (.mv (LT 11)),LZ 101 103 (.call 58 [(LT 102)]),LZ 101 104 (.un .not (LT 103)),LO 105 (.pick (LT 101) LG (LT 104)),LM 106 105,LZ 106 107 (.mv (LT 11)),LZ 106 108 (.mv (LT 10)),LZ 106 109 (.iaddr 3 (LT 107) (LT 108)),LZ 106 110 (LK 109),LZ 106 111 (.call 59 [(LT 110)]),LZ 106 112 (.un .not (LT 111)),LO 113 (.pick (LT 106) LG (LT 112))] (.cond (LT 113) (LS [LO 114 (LK 5),LN (.store 3 (LT 2) (LT 114)),LO 3 (.mv LF)] .ret) .skip)) (.cT [LO 115 (LA 1 5),LO 116 (LL 115),LM 117 11,LO 118 (.lit [(.slice none 0 0)] 1 [(0,(LT 117))]),LO 119 (.app 1 24 (LT 116) (LT 118)),LO 120 (LA 1 5),LN (.store 1 (LT 120) (LT 119))])))) (.cT [LM 80 10,LO 81 (.bin .add (LT 80) (LI 1)),LM 10 81])))
def dT:aE:=(LS [LO 2 (.new [(.slice none 0 0),(.slice none 0 0),(.slice none 0 0)]),LO 3 (.mv LF)] (LS [LM 13 0,LO 14 (.chk (LT 13)),LO 15 (LA 0 14),LO 16 (LL 15),LO 17 (.len (LT 16)),LM 4 17] (LS [LO 18 (.build [(.slice none 0 0),(.slice none 0 0),(.slice none 0 0)] [(0,1),(1,1),(2,1)] []),LO 5 (.new [(.slice none 0 0),(.slice none 0 0),(.slice none 0 0)]),LN (.store 3 (LT 5) (LT 18))] (.seq (LS [LM 19 4,LO 20 (.bin .lss (LT 19) (LI 1)),LM 21 20,LZ 21 22 (.mv (LT 4)),LZ 21 23 (.bin .gtr (LT 22) (LI 6)),LO 24 (.pick (LT 21) LG (LT 23)),LM 25 24,LZ 25 26 (.mv (LT 0)),LZ 25 27 (.chk (LT 26)),LZ 25 28 (LA 1 27),LZ 25 29 (LL 28),LZ 25 30 (.len (LT 29)),LZ 25 31 (.mv (LT 4)),LZ 25 32 (.bin .neq (LT 30) (LT 31)),LO 33 (.pick (LT 25) LG (LT 32)),LM 34 33,LZ 34 35 (.mv (LT 0)),LZ 34 36 (.chk (LT 35)),LZ 34 37 (LA 2 36),LZ 34 38 (LL 37),LZ 34 39 (.len (LT 38)),LZ 34 40 (.mv (LT 4)),LZ 34 41 (.bin .neq (LT 39) (LT 40)),LO 42 (.pick (LT 34) LG (LT 41))] (.cond (LT 42) (LS [LO 43 (LK 5),LN (.store 3 (LT 2) (LT 43)),LO 3 (.mv LF)] .ret) .skip)) (LS [LM 45 0,LO 46 (.chk (LT 45)),LO 47 (LA 0 46),LO 48 (LL 47),LO 49 (.call 57 [(LT 48)]),LM 44 49,LO 50 (LX 44 0),LO 51 (LX 44 1),LM 6 50,LM 7 51] (LS [LM 53 0,LO 54 (.chk (LT 53)),LO 55 (LA 2 54),LO 56 (LL 55),LO 57 (.call 57 [(LT 56)]),LM 52 57,LO 58 (LX 52 0),LO 59 (LX 52 1),LM 8 58,LM 9 59] (.seq (LS [LM 60 7,LO 61 (.un .not (LT 60)),LM 62 61,LZ 62 63 (.mv (LT 9)),LZ 62 64 (.un .not (LT 63)),LO 65 (.pick (LT 62) LG (LT 64)),LM 66 65,LZ 66 67 (.mv (LT 6)),LZ 66 68 (.call 96 [(LT 67)]),LZ 66 69 (.un .not (LT 68)),LO 70 (.pick (LT 66) LG (LT 69)),LM 71 70,LZ 71 72 (.mv (LT 8)),LZ 71 73 (.call 58 [(LT 72)]),LZ 71 74 (.un .not (LT 73)),LO 75 (.pick (LT 71) LG (LT 74))] (.cond (LT 75) (LS [LO 76 (LK 5),LN (.store 3 (LT 2) (LT 76)),LO 3 (.mv LF)] .ret) .skip)) (.seq (LS [LO 10 (.mv (LI 0))] (.block 0 (.loop cZ))) (LS [LM 121 6,LO 122 (LA 0 5),LN (.store 1 (LT 122) (LT 121))] (LS [LM 123 8,LO 124 (LA 2 5),LN (.store 1 (LT 124) (LT 123))] (LS [LO 125 (LK 5),LQ 126 (.call 166 [(LT 5)]),LN (.store 3 (LT 2) (LT 125)),LM 3 126] .ret)))))))))))
def gF:aU:=⟨127,[(.cell 2 true 3),(.tmp 3)],dT⟩
theorem M7:fQ 109=some gF:=by kernel_rfl
def dZ:aE:=(.seq (LS [LM 44 7,LM 45 3,LO 46 (.bin .lss (LT 44) (LT 45))] (.cond (LT 46) .skip (.exit 4))) (.seq (.block 5 (.cT [LM 49 4,LM 50 6,LM 51 4,LM 52 6,LO 53 (.iaddr 1 (LT 51) (LT 52)),LO 54 (LL 53),LM 55 54,LZ 55 56 (.mv (LT 4)),LZ 55 57 (.mv (LT 7)),LZ 55 58 (.iaddr 1 (LT 56) (LT 57)),LZ 55 59 (LL 58),LZ 55 60 (.mv (LT 59)),LY 60 61 (.mv (LT 0)),LY 60 62 (.chk (LT 61)),LY 60 63 (LA 1 62),LY 60 64 (LL 63),LY 60 65 (.mv (LT 6)),LY 60 66 (.iaddr 1 (LT 64) (LT 65)),LY 60 67 (LL 66),LY 60 68 (.mv (LT 7)),LY 60 69 (.iaddr 3 (LT 67) (LT 68)),LY 60 70 (LK 69),LY 60 71 (.call 59 [(LT 70)]),LY 60 72 (.un .not (LT 71)),LZ 55 73 (.pick (LT 60) (LT 72) LF),LO 74 (.pick (LT 55) LG (LT 73)),LO 75 (.iaddr 1 (LT 49) (LT 50)),LN (.store 1 (LT 75) (LT 74))])) (.cT [LM 47 7,LO 48 (.bin .add (LT 47) (LI 1)),LM 7 48])))
def iM:aE:=(.seq (LS [LM 21 6,LM 22 3,LO 23 (.bin .lss (LT 21) (LT 22))] (.cond (LT 23) .skip (.exit 2))) (.seq (.block 3 (LS [LM 26 4,LM 27 6,LM 28 4,LM 29 6,LO 30 (.iaddr 1 (LT 28) (LT 29)),LO 31 (LL 30),LM 32 31,LZ 32 33 (.mv (LT 0)),LZ 32 34 (.chk (LT 33)),LZ 32 35 (LA 2 34),LZ 32 36 (LL 35),LZ 32 37 (.mv (LT 6)),LZ 32 38 (.iaddr 3 (LT 36) (LT 37)),LZ 32 39 (LK 38),LZ 32 40 (.call 59 [(LT 39)]),LZ 32 41 (.un .not (LT 40)),LO 42 (.pick (LT 32) LG (LT 41)),LO 43 (.iaddr 1 (LT 26) (LT 27)),LN (.store 1 (LT 43) (LT 42))] (LS [LO 7 (.mv (LI 0))] (.block 4 (.loop dZ))))) (.cT [LM 24 6,LO 25 (.bin .add (LT 24) (LI 1)),LM 6 25])))
def tG:aE:=(.seq (LS [LM 16 5,LM 17 3,LO 18 (.bin .lss (LT 16) (LT 17))] (.cond (LT 18) .skip (.exit 0))) (.seq (.block 1 (LS [LO 6 (.mv (LI 0))] (.block 2 (.loop iM)))) (.cT [LM 19 5,LO 20 (.bin .add (LT 19) (LI 1)),LM 5 20])))
def nL:aE:=(.seq (LS [LM 76 8,LM 77 3,LO 78 (.bin .lss (LT 76) (LT 77))] (.cond (LT 78) .skip (.exit 6))) (.seq (.block 7 (LS [LM 81 4,LM 82 8,LO 83 (.iaddr 1 (LT 81) (LT 82)),LO 84 (LL 83),LO 85 (.un .not (LT 84))] (.cond (LT 85) (LS [LO 2 (.mv LF)] .ret) .skip))) (.cT [LM 79 8,LO 80 (.bin .add (LT 79) (LI 1)),LM 8 80])))
def BQ:aE:=(LS [LO 2 (.mv LF)] (LS [LM 9 0,LO 10 (.chk (LT 9)),LO 11 (LA 0 10),LO 12 (LL 11),LO 13 (.len (LT 12)),LM 3 13] (LS [LM 14 3,LO 15 (.make [(.bool false)] 1 (LT 14) (LT 14)),LM 4 15] (.seq (LS [LO 5 (.mv (LI 0))] (.block 0 (.loop tG))) (.seq (LS [LO 8 (.mv (LI 0))] (.block 6 (.loop nL))) (LS [LO 2 (.mv LG)] .ret))))))
def DF:aU:=⟨86,[(.tmp 2)],BQ⟩
theorem IG:fQ 166=some DF:=by kernel_rfl
def uE:aE:=(LS [LO 1 (.box (LT 0)),LO 2 (.mv (.const (.string ⟨#[]⟩))),LO 3 (.mv LF)] (LS [LO 7 (.call 109 [(LT 1)]),LM 6 7,LO 8 (LX 6 0),LO 9 (LX 6 1),LO 4 (.new [(.slice none 0 0),(.slice none 0 0),(.slice none 0 0)]),LN (.store 3 (LT 4) (LT 8)),LM 5 9] (.seq (LS [LM 10 5,LO 11 (.un .not (LT 10))] (.cond (LT 11) (LS [LO 2 (.mv (.const (.string ⟨#[]⟩))),LO 3 (.mv LF)] .ret) .skip)) (LS [LO 12 (.call 122 [(LT 4),(LI 2)]),LO 13 (.call 130 [(LI 2)]),LO 14 (.call 122 [(LT 4),(LI 1)]),LO 15 (.call 125 [(LT 13),(LT 14)]),LO 16 (.call 81 [(LT 12),(LT 15)]),LO 17 (.call 112 [(LT 16)]),LO 18 (LX 17 0),LO 19 (LX 17 1),LM 2 18,LM 3 19] .ret))))
def yY:aU:=⟨20,[(.tmp 2),(.tmp 3)],uE⟩
theorem M6:fQ 53=some yY:=by kernel_rfl
def yP:aE:=(.seq (LS [LM 8 6,LM 9 1,LO 10 (.len (LT 9)),LO 11 (.bin .lss (LT 8) (LT 10))] (.cond (LT 11) .skip (.exit 0))) (.seq (.block 1 (.cT [LO 14 (LK 5),LM 15 0,LO 16 (.chk (LT 15)),LO 17 (LA 0 16),LO 18 (LL 17),LM 19 6,LO 20 (.iaddr 3 (LT 18) (LT 19)),LO 21 (LK 20),LM 22 1,LM 23 6,LO 24 (.iaddr 3 (LT 22) (LT 23)),LO 25 (LK 24),LQ 26 (.call 125 [(LT 21),(LT 25)]),LQ 27 (.call 79 [(LT 14),(LT 26)]),LN (.store 3 (LT 5) (LT 27))])) (.cT [LM 12 6,LO 13 (.bin .add (LT 12) (LI 1)),LM 6 13])))
def EV:aE:=(LS [LO 4 (.new [(.bool false),(.slice none 0 0),(.slice none 0 0)])] (LS [LO 7 (.call 77 []),LO 5 (.new [(.bool false),(.slice none 0 0),(.slice none 0 0)]),LN (.store 3 (LT 5) (LT 7))] (.seq (LS [LO 6 (.mv (LI 0))] (.block 0 (.loop yP))) (LS [LO 28 (LK 5),LN (.store 3 (LT 4) (LT 28))] .ret))))
def HE:aU:=⟨29,[(.cell 4 true 3)],EV⟩
theorem Nk:fQ 113=some HE:=by kernel_rfl
def xX:aE:=(.seq (LS [LM 26 11,LM 27 7,LO 28 (.bin .lss (LT 26) (LT 27))] (.cond (LT 28) .skip (.exit 2))) (.seq (.block 3 (.cT [LM 31 10,LM 32 0,LO 33 (.chk (LT 32)),LO 34 (LA 1 33),LO 35 (LL 34),LM 36 9,LO 37 (.iaddr 1 (LT 35) (LT 36)),LO 38 (LL 37),LM 39 11,LO 40 (.iaddr 3 (LT 38) (LT 39)),LO 41 (LK 40),LO 42 (.call 157 [(LT 41)]),LO 43 (.lit [(.bool false),(.slice none 0 0),(.slice none 0 0)] 1 [(0,(LT 42))]),LO 44 (.app 3 56 (LT 31) (LT 43)),LM 10 44])) (.cT [LM 29 11,LO 30 (.bin .add (LT 29) (LI 1)),LM 11 30])))
def yH:aE:=(.seq (LS [LM 20 9,LM 21 7,LO 22 (.bin .lss (LT 20) (LT 21))] (.cond (LT 22) .skip (.exit 0))) (.seq (.block 1 (LS [LO 25 (.lit [(.bool false),(.slice none 0 0),(.slice none 0 0)] 0 []),LM 10 25] (.seq (LS [LO 11 (.mv (LI 0))] (.block 2 (.loop xX))) (LS [LM 45 10,LM 46 9,LM 47 0,LO 48 (.chk (LT 47)),LO 49 (LA 1 48),LO 50 (LL 49),LM 51 9,LO 52 (.iaddr 1 (LT 50) (LT 51)),LO 53 (LL 52),LQ 54 (.call 60 [(LT 53)]),LM 55 0,LO 56 (.chk (LT 55)),LO 57 (LA 2 56),LO 58 (LL 57),LM 59 9,LO 60 (.iaddr 3 (LT 58) (LT 59)),LO 61 (LK 60),LQ 62 (.call 79 [(LT 54),(LT 61)]),LO 63 (LK 4),LQ 64 (.call 79 [(LT 62),(LT 63)]),LO 65 (.iaddr 3 (LT 45) (LT 46)),LN (.store 3 (LT 65) (LT 64))] (.cT [LM 66 8,LM 67 10,LM 68 2,LM 69 9,LO 70 (.iaddr 3 (LT 68) (LT 69)),LO 71 (LK 70),LO 72 (.lit [(.bool false),(.slice none 0 0),(.slice none 0 0)] 1 [(0,(LT 71))]),LO 73 (.app 3 56 (LT 67) (LT 72)),LO 74 (.lit [(.slice none 0 0)] 1 [(0,(LT 73))]),LO 75 (.app 1 24 (LT 66) (LT 74)),LM 8 75]))))) (.cT [LM 23 9,LO 24 (.bin .add (LT 23) (LI 1)),LM 9 24])))
def EX:aE:=(LS [LO 4 (.box (LT 1)),LO 6 (.mv (.const (.slice none 0 0)))] (LS [LM 14 0,LO 15 (.chk (LT 14)),LO 16 (LA 0 15),LO 17 (LL 16),LO 18 (.len (LT 17)),LM 7 18] (LS [LO 19 (.lit [(.slice none 0 0)] 0 []),LM 8 19] (.seq (LS [LO 9 (.mv (LI 0))] (.block 0 (.loop yH))) (LS [LM 77 8,LO 78 (.call 134 [(LT 77)]),LM 76 78,LO 79 (LX 76 0),LO 80 (LX 76 1),LM 12 79,LM 13 80] (LS [LM 81 12,LM 6 81] .ret))))))
def Ho:aU:=⟨82,[(.tmp 6)],EX⟩
theorem Nl:fQ 114=some Ho:=by kernel_rfl
def wM:aE:=(.seq (LS [LM 11 6,LM 12 0,LO 13 (.chk (LT 12)),LO 14 (LA 0 13),LO 15 (LL 14),LO 16 (.len (LT 15)),LO 17 (.bin .lss (LT 11) (LT 16))] (.cond (LT 17) .skip (.exit 0))) (.seq (.block 1 (.cT [LM 20 5,LO 21 (.call 83 []),LO 22 (.lit [(.bool false),(.slice none 0 0),(.slice none 0 0)] 1 [(0,(LT 21))]),LO 23 (.app 3 56 (LT 20) (LT 22)),LM 5 23])) (.cT [LM 18 6,LO 19 (.bin .add (LT 18) (LI 1)),LM 6 19])))
def vU:aE:=(.seq (LS [LM 30 9,LM 31 5,LO 32 (.len (LT 31)),LO 33 (.bin .lss (LT 30) (LT 32))] (.cond (LT 33) .skip (.exit 4))) (.seq (.block 5 (.cT [LM 36 8,LM 37 7,LQ 38 (.call 130 [(LT 37)]),LM 39 5,LM 40 9,LO 41 (.iaddr 3 (LT 39) (LT 40)),LO 42 (LK 41),LQ 43 (.call 125 [(LT 38),(LT 42)]),LQ 44 (.lit [(.bool false),(.slice none 0 0),(.slice none 0 0)] 1 [(0,(LT 43))]),LO 45 (.app 3 56 (LT 36) (LT 44)),LM 8 45])) (.cT [LM 34 9,LO 35 (.bin .add (LT 34) (LI 1)),LM 9 35])))
def vR:aE:=(.seq (LS [LM 24 7,LM 25 1,LO 26 (.bin .leq (LT 24) (LT 25))] (.cond (LT 26) .skip (.exit 2))) (.seq (.block 3 (LS [LO 29 (.lit [(.bool false),(.slice none 0 0),(.slice none 0 0)] 0 []),LM 8 29] (.seq (LS [LO 9 (.mv (LI 0))] (.block 4 (.loop vU))) (.cT [LM 46 0,LO 47 (.call 77 []),LM 48 8,LO 49 (.call 114 [(LT 46),(LT 47),(LT 48)]),LM 5 49])))) (.cT [LM 27 7,LO 28 (.bin .add (LT 27) (LI 1)),LM 7 28])))
def C4:aE:=(LS [LO 4 (.new [(.bool false),(.slice none 0 0),(.slice none 0 0)])] (LS [LO 10 (.lit [(.bool false),(.slice none 0 0),(.slice none 0 0)] 0 []),LM 5 10] (.seq (LS [LO 6 (.mv (LI 0))] (.block 0 (.loop wM))) (.seq (LS [LO 7 (.mv (LI 1))] (.block 2 (.loop vR))) (LS [LM 50 0,LM 51 5,LO 52 (.call 113 [(LT 50),(LT 51)]),LN (.store 3 (LT 4) (LT 52))] .ret)))))
def FB:aU:=⟨53,[(.cell 4 true 3)],C4⟩
theorem K6:fQ 122=some FB:=by kernel_rfl
end Go.PM
namespace Go.PM
open Go.Lib
def SvS (s:vH) (lo hi:Nat) (H:aA) (v:VV):Prop:=(∃a b c,v = .agg [a,b,c]∧bO a=true∧bO b=true∧bO c=true∧∀n,n≤lo→jU n a=true∧jU n b=true∧jU n c=true)∧JF (vM s) lo hi H v
theorem SvS.dC {s:vH}:∀ {lo hi H H' v},SvS s lo hi H v→jV lo hi H H'→SvS s lo hi H' v:=fun h hk=>⟨h.1,h.2.dC hk⟩
theorem SvS.wide {s:vH}:∀ {lo hi gB qI:Nat} {H:aA} {v:VV},SvS s lo hi H v→gB≤lo→hi≤qI→SvS s gB qI H v:=fun h hl hh=>by
 obtain⟨⟨a,b,c,h1,h2,h3,h4,h5⟩,h6⟩:=h
 exact⟨⟨a,b,c,h1,h2,h3,h4,fun n hn=>h5 n (by omega)⟩,fun H' hk=>h6 H' (hk.sub hl hh)⟩
theorem SvS.ag {s:vH} {lo hi:Nat} {H:aA} {v:VV} (h:SvS s lo hi H v) (n:Nat) (hn:n≤lo):∃a b c,v = .agg [a,b,c]∧bO a=true∧bO b=true∧bO c=true∧jU n a=true∧jU n b=true∧jU n c=true:=by
 obtain⟨⟨a,b,c,h1,h2,h3,h4,h5⟩,_⟩:=h
 exact⟨a,b,c,h1,h2,h3,h4,h5 n hn⟩
end Go.PM
namespace Go.PM
open Go.Lib
theorem adB (b:List Rat) (g:List (List Rat)) (e:List Rat):aY (Cv aM b g e)=true:=by
 show aO [aC aM b,aC (aC aM) g,aC aM e]=true
 simp only[aO,rG,acB,Bool.and_self]
theorem LsO.own {α:Type} {f:α→VV} {e lo hi n:Nat} {H:aA} {v:VV} {o:Option (List α)} (h:LsO f e o lo hi H v) (hn:n≤lo):jU n v=true:=by
 cases o with
 |
  none =>
  have h:v = .tree [] .nil:=h
  subst h
  rfl
 |
  some ys =>
  obtain⟨b,g,c,h1,h2,rfl,h3⟩:=h
  simp[jU];omega
theorem Uk.own {α:Type} {f:α→VV} {e lo hi n:Nat} {H:aA} {v:VV} {cG:List (List α)} (h:Uk f e cG lo hi H v) (hn:n≤lo):jU n v=true:=by
 rcases h with⟨rfl,_⟩ | ⟨b,g,rs,q1,q2,rfl,_⟩
 ·rfl
 ·simp[jU];omega
end Go.PM
namespace Go.PM
open Go.Lib
end Go.PM
namespace Go.PM
open Go.Lib
end Go.PM
namespace Go.PM
open Go.Lib
end Go.PM
namespace Go.PM
open Go.Lib
section
variable {b:List Rat} {g:List (List Rat)} {e row:List Rat} {n i:Nat} {st:List Bool}
abbrev svP (b:List Rat) (g:List (List Rat)) (e:List Rat):VV:=(Cv aM b g e).cI 0
theorem UW {q:Rat} (h:0≤q):decide (0<q) = !decide (q=0):=by
 by_cases hz:q=0
 ·rw[decide_eq_true hz,hz];rfl
 ·rw[decide_eq_false hz,decide_eq_true (by grind)];rfl
set_option maxHeartbeats 2000000 in
theorem akL (hn:n≤1000000) (hi:i<n) (vZ:st.length=n) (lL:row.length=n) (W7:g[i]? = some row) (kZ:∀q∈row,0≤q) {r:Int} {ρ:cV} {Q:VQ} (g0:ρ 0=svP b g e) (g3:ρ 3=VI n) (g4:ρ 4 = .ref 0 0 0 n n) (g5:ρ 5=VI r) (g6:ρ 6=VI i) (g7:ρ 7=VI 0)
  (hQ:∀aQ,aQ 0=svP b g e→aQ 3=VI n→aQ 4 = .ref 0 0 0 n n→aQ 5=VI r→aQ 6=VI i→Q .normal aQ [tR (RW row i st n)]) :
  VW ⟨true,false⟩ 0 (.loop dZ) (tI 4 Q) ρ [tR st]:=by
 refine aP (fun(j:Nat) aQ H=>j≤n∧H=[tR (RW row i st j)]∧aQ 0=svP b g e∧aQ 3=VI n∧aQ 4 = .ref 0 0 0 n n∧aQ 5=VI r∧aQ 6=VI i∧aQ 7=VI j) (fun j=>n-j) 0 ⟨aK1 _,rfl,g0,g3,g4,g5,g6,g7⟩ ?_
 clear g0 g3 g4 g5 g6 g7
 rintro j aQ H ⟨hj,rfl,g0,g3,g4,g5,g6,g7⟩
 have hl:(RW row i st j).length=n:=by rw[Sw,vZ]
 have B3:RW row i st (j+1)=orJ row i (RW row i st j) j:=rH
 generalize hs:RW row i st j=s at *
 by_cases bW:(j:Int)<(n:Int)
 ·have Eu:j<n:=by omega
  obtain⟨q,hq⟩:∃q,row[j]? = some q:=⟨_,aKE (by omega)⟩
  have wi:IntKind.i64.wrap ((j:Int)+1)=((j+1:Nat):Int):=wrapN (j+1) (by omega) (by omega)
  have e2:=rB q
  have hpz:=UW (kZ q (aLr hq))
  have a1:=fun K=>xW (st:=s) (n:=n) hi K
  have a2:=fun K=>yE (st:=s) (i:=i) (by omega) K
  have a3:=fun K=>xW (st:=s) (n:=n) Eu K
  have a4:=fun K=>yE (st:=s) (i:=j) (by omega) K
  have a5:=fun v K=>DW (st:=s) (i:=i) (by omega) v K
  have a6:=fun H=>aH (f:=aC aM) (t := .op) (H:=H) (size:=1) (k := .i64) W7 rfl
  have a7:=fun H=>aH (f:=aM) (t := .op) (H:=H) (size:=3) (k := .i64) hq rfl
  have pT:∀v:Bool,v=(s.getD i false||(decide (0<q)&&s.getD j false))→s.set i v=RW row i st (j+1):=by
   intro v hv
   rw[B3,orJ,hv,aKu (l:=row),hq,aNL]
  cases XN:s.getD i false with
  |
   true =>
   rw[XN] at a2
   simp only[dZ,Cv,g0,g3,g4,g6,g7,bW,a1,a2,a5,wi,dS,VX,Nat.reduceEqDiff,Nat.reduceAdd,Nat.reduceLeDiff,Nat.reduceLT,Nat.reduceSub]
   exact⟨j+1,by omega,by omega,by rw[←pT true (by rw[XN];rfl)],by (repeat' apply aMd)<;>first | rfl | trivial | assumption⟩
  |
   false =>
   rw[XN] at a2
   cases hsj:s.getD j false with
   |
    false =>
    rw[hsj] at a4
    simp only[dZ,Cv,g0,g3,g4,g6,g7,bW,a1,a2,a3,a4,a5,wi,dS,VX,Nat.reduceEqDiff,Nat.reduceAdd,Nat.reduceLeDiff,Nat.reduceLT,Nat.reduceSub]
    exact⟨j+1,by omega,by omega,by rw[←pT false (by rw[XN,hsj,Bool.and_false];rfl)],by (repeat' apply aMd)<;>first | rfl | trivial | assumption⟩
   |
    true =>
    rw[hsj] at a4
    by_cases hz:q=0
    ·rw[decide_eq_true hz] at e2 hpz
     simp only[dZ,Cv,g0,g3,g4,g6,g7,bW,a1,a2,a3,a4,a5,a6,a7,e2,wi,dU,cH,aL5,aKR,aMh,dS,VX,Nat.reduceEqDiff,Nat.reduceAdd,Nat.reduceLeDiff,Nat.reduceLT,Nat.reduceSub]
     exact⟨j+1,by omega,by omega,by rw[←pT false (by rw[XN,hpz];rfl)],by (repeat' apply aMd)<;>first | rfl | trivial | assumption⟩
    ·rw[decide_eq_false hz] at e2 hpz
     simp only[dZ,Cv,g0,g3,g4,g6,g7,bW,a1,a2,a3,a4,a5,a6,a7,e2,wi,dU,cH,aL5,aKR,aMh,dS,VX,Nat.reduceEqDiff,Nat.reduceAdd,Nat.reduceLeDiff,Nat.reduceLT,Nat.reduceSub]
     exact⟨j+1,by omega,by omega,by rw[←pT true (by rw[XN,hsj,hpz];rfl)],by (repeat' apply aMd)<;>first | rfl | trivial | assumption⟩
 ·have S7:j=n:=by omega
  subst S7
  subst hs
  simp only[dZ,g3,g7,bW,dS,VX,Nat.reduceEqDiff,Nat.reduceAdd,Nat.reduceLeDiff,Nat.reduceLT,Nat.reduceSub]
  refine hQ _ ?_ ?_ ?_ ?_ ?_<;>first | exact g0 | exact g3 | exact g4 | exact g5 | exact g6 | rfl
set_option maxHeartbeats 2000000 in
theorem anS (hn:n≤1000000) (vZ:st.length=n) (hg:g.length=n) (W7:∀w∈g,w.length=n∧∀q∈w,0≤q) (he:e.length=n) (hep:∀q∈e,0≤q) {r:Int} {ρ:cV} {Q:VQ} (g0:ρ 0=svP b g e) (g3:ρ 3=VI n) (g4:ρ 4 = .ref 0 0 0 n n) (g5:ρ 5=VI r) (g6:ρ 6=VI 0)
  (hQ:∀aQ,aQ 0=svP b g e→aQ 3=VI n→aQ 4 = .ref 0 0 0 n n→aQ 5=VI r→Q .normal aQ [tR (mH g e n st n)]) :
  VW ⟨true,false⟩ 0 (.loop iM) (tI 2 Q) ρ [tR st]:=by
 refine aP (fun(i:Nat) aQ H=>i≤n∧H=[tR (mH g e n st i)]∧aQ 0=svP b g e∧aQ 3=VI n∧aQ 4 = .ref 0 0 0 n n∧aQ 5=VI r∧aQ 6=VI i) (fun i=>n-i) 0 ⟨aK1 _,rfl,g0,g3,g4,g5,g6⟩ ?_
 clear g0 g3 g4 g5 g6
 rintro i aQ H ⟨hi,rfl,g0,g3,g4,g5,g6⟩
 have hl:(mH g e n st i).length=n:=by rw[Iw,vZ]
 have B3:mH g e n st (i+1)=LB g e n (mH g e n st i) i:=rH
 generalize hs:mH g e n st i=s at *
 by_cases bW:(i:Int)<(n:Int)
 ·have Eu:i<n:=by omega
  obtain⟨q,hq⟩:∃q,e[i]? = some q:=⟨_,aKE (by omega)⟩
  obtain⟨row,hr⟩:∃row,g[i]? = some row:=⟨_,aKE (by omega)⟩
  have BY:=W7 row (aLr hr)
  have wi:IntKind.i64.wrap ((i:Int)+1)=((i+1:Nat):Int):=wrapN (i+1) (by omega) (by omega)
  have e2:=rB q
  have hpz:=UW (hep q (aLr hq))
  have a1:=fun K=>xW (st:=s) (n:=n) Eu K
  have a2:=fun K=>yE (st:=s) (i:=i) (by omega) K
  have a5:=fun v K=>DW (st:=s) (i:=i) (by omega) v K
  have a7:=fun H=>aH (f:=aM) (t := .op) (H:=H) (size:=3) (k := .i64) hq rfl
  have pT:∀v:Bool,v=(s.getD i false||decide (0<q))→RW row i (s.set i v) n=mH g e n st (i+1):=by
   intro v hv
   rw[B3,LB,hv,aKu (l:=g),hr,aNL,aKu (l:=e),hq,aNL]
  have post:∀(v:Bool) (tC:cV),v=(s.getD i false||decide (0<q))→tC 0=svP b g e→tC 3=VI n→tC 4 = .ref 0 0 0 n n→tC 5=VI r→tC 6=VI i→tC 7=VI 0 →
    ∀(Q':VQ),(∀xA,xA 0=svP b g e→xA 3=VI n→xA 4 = .ref 0 0 0 n n→xA 5=VI r→xA 6=VI i→Q' .normal xA [tR (mH g e n st (i+1))])→VW ⟨true,false⟩ 0 (.loop dZ) (tI 4 Q') tC [tR (s.set i v)]:=by
   intro v tC hv k0 k3 k4 k5 k6 k7 Q' hQ'
   refine akL hn Eu (by rw[List.length_set,hl]) BY.1 hr BY.2 k0 k3 k4 k5 k6 k7 fun xA m0 m3 m4 m5 m6 => ?_
   rw[pT v hv]
   exact hQ' xA m0 m3 m4 m5 m6
  cases XN:s.getD i false with
  |
   true =>
   rw[XN] at a2 post
   simp only[iM,Cv,g0,g3,g4,g6,bW,a1,a2,a5,dS,VX,Nat.reduceEqDiff,Nat.reduceAdd,Nat.reduceLeDiff,Nat.reduceLT,Nat.reduceSub]
   refine post true _ (by simp) ?_ ?_ ?_ ?_ ?_ ?_ _ fun xA m0 m3 m4 m5 m6 => ?_
   all_goals first | exact g0 | exact g3 | exact g4 | exact g5 | exact g6 | rfl | skip
   simp only[m6,wi,dS,VX,Nat.reduceEqDiff,Nat.reduceAdd,Nat.reduceLeDiff,Nat.reduceLT,Nat.reduceSub]
   exact⟨i+1,by omega,by omega,by (repeat' apply aMd)<;>first | rfl | trivial | assumption⟩
  |
   false =>
   rw[XN] at a2 post
   by_cases hz:q=0
   ·rw[decide_eq_true hz] at e2 hpz
    simp only[iM,Cv,g0,g3,g4,g6,bW,a1,a2,a5,a7,e2,dU,cH,aL5,aKR,aMh,dS,VX,Nat.reduceEqDiff,Nat.reduceAdd,Nat.reduceLeDiff,Nat.reduceLT,Nat.reduceSub]
    refine post false _ (by rw[hpz];rfl) ?_ ?_ ?_ ?_ ?_ ?_ _ fun xA m0 m3 m4 m5 m6 => ?_
    all_goals first | exact g0 | exact g3 | exact g4 | exact g5 | exact g6 | rfl | skip
    simp only[m6,wi,dS,VX,Nat.reduceEqDiff,Nat.reduceAdd,Nat.reduceLeDiff,Nat.reduceLT,Nat.reduceSub]
    exact⟨i+1,by omega,by omega,by (repeat' apply aMd)<;>first | rfl | trivial | assumption⟩
   ·rw[decide_eq_false hz] at e2 hpz
    simp only[iM,Cv,g0,g3,g4,g6,bW,a1,a2,a5,a7,e2,dU,cH,aL5,aKR,aMh,dS,VX,Nat.reduceEqDiff,Nat.reduceAdd,Nat.reduceLeDiff,Nat.reduceLT,Nat.reduceSub]
    refine post true _ (by rw[hpz];rfl) ?_ ?_ ?_ ?_ ?_ ?_ _ fun xA m0 m3 m4 m5 m6 => ?_
    all_goals first | exact g0 | exact g3 | exact g4 | exact g5 | exact g6 | rfl | skip
    simp only[m6,wi,dS,VX,Nat.reduceEqDiff,Nat.reduceAdd,Nat.reduceLeDiff,Nat.reduceLT,Nat.reduceSub]
    exact⟨i+1,by omega,by omega,by (repeat' apply aMd)<;>first | rfl | trivial | assumption⟩
 ·have mI:i=n:=by omega
  subst mI
  subst hs
  simp only[iM,g3,g6,bW,dS,VX,Nat.reduceEqDiff,Nat.reduceAdd,Nat.reduceLeDiff,Nat.reduceLT,Nat.reduceSub]
  refine hQ _ ?_ ?_ ?_ ?_<;>first | exact g0 | exact g3 | exact g4 | exact g5 | rfl
theorem UI (b:List Rat) (g:List (List Rat)) (e:List Rat):aY (svP b g e)=true:=adB b g e
set_option maxHeartbeats 1000000 in
theorem Iu (hn:n≤1000000) (hb:b.length=n) (hg:g.length=n) (W7:∀w∈g,w.length=n∧∀q∈w,0≤q) (he:e.length=n) (hep:∀q∈e,0≤q):TC 166 [svP b g e] (VB ((qD g e n n).all id)):=by
 refine TC.walk ⟨true,false⟩ IG rfl (aMl rfl) (Al (UI b g e)) rfl ?_
 have e0:∀H,BM [.bool false] 1 (VI n) (VI n) H=some (.ref H.length 0 0 n n,H++[tR (List.replicate n false)]):=fun H=>nT (f:=fun b=>VB b) rfl (by omega) (by omega)
 have xF:((b.length:Nat):Int)=(n:Int):=by omega
 simp only[DF,BQ,Cv,xF,e0,dU,aL5,aKR,aMh,aLP,aMa,dS,VX,Nat.reduceEqDiff,Nat.reduceAdd,Nat.reduceLeDiff,Nat.reduceLT,Nat.reduceSub]
 refine aP (fun(i:Nat) aQ H=>i≤n∧H=[tR (qD g e n i)]∧aQ 0=svP b g e∧aQ 3=VI n∧aQ 4 = .ref 0 0 0 n n∧aQ 5=VI i) (fun i=>n-i) 0 ⟨aK1 _,rfl,rfl,rfl,rfl,rfl⟩ ?_
 rintro i aQ H ⟨hi,rfl,g0,g3,g4,g5⟩
 have hl:=Ea g e n i
 have B3:qD g e n (i+1)=mH g e n (qD g e n i) n:=rH
 by_cases bW:(i:Int)<(n:Int)
 ·have wi:IntKind.i64.wrap ((i:Int)+1)=((i+1:Nat):Int):=wrapN (i+1) (by omega) (by omega)
  simp only[tG,g3,g5,bW,dS,VX,Nat.reduceEqDiff,Nat.reduceAdd,Nat.reduceLeDiff,Nat.reduceLT,Nat.reduceSub]
  refine anS (r:=(i:Int)) (b:=b) hn hl hg W7 he hep ?_ ?_ ?_ ?_ ?_ fun xA m0 m3 m4 m5 => ?_
  all_goals first | exact g0 | exact g3 | exact g4 | exact g5 | rfl | skip
  simp only[m5,wi,dS,VX,Nat.reduceEqDiff,Nat.reduceAdd,Nat.reduceLeDiff,Nat.reduceLT,Nat.reduceSub]
  exact⟨i+1,by omega,by omega,by rw[B3],by (repeat' apply aMd)<;>first | rfl | trivial | assumption⟩
 ·have mI:i=n:=by omega
  subst mI
  simp only[tG,g3,g5,bW,dS,VX,Nat.reduceEqDiff,Nat.reduceAdd,Nat.reduceLeDiff,Nat.reduceLT,Nat.reduceSub]
  generalize qD g e i i=s at *
  refine aP (fun(j:Nat) aQ H=>j≤i∧H=[tR s]∧(∀x∈s.take j,x=true)∧aQ 3=VI i∧aQ 4 = .ref 0 0 0 i i∧aQ 8=VI j) (fun j=>i-j) 0 ⟨aK1 _,rfl,by simp,by simp only[dS,VX,Nat.reduceEqDiff,Nat.reduceAdd,Nat.reduceLeDiff,Nat.reduceLT,Nat.reduceSub];exact g3,by simp only[dS,VX,Nat.reduceEqDiff,Nat.reduceAdd,Nat.reduceLeDiff,Nat.reduceLT,Nat.reduceSub];exact g4,rfl⟩ ?_
  clear g0 g3 g4 g5 bW
  rintro j aQ H ⟨hj,rfl,ht,g3,g4,g8⟩
  by_cases bW:(j:Int)<(i:Int)
  ·have Ev:j<i:=by omega
   have wj:IntKind.i64.wrap ((j:Int)+1)=((j+1:Nat):Int):=wrapN (j+1) (by omega) (by omega)
   have a3:=fun K=>xW (st:=s) (n:=i) Ev K
   have a4:=fun K=>yE (st:=s) (i:=j) (by omega) K
   obtain⟨x,hx⟩:∃x,s[j]? = some x:=⟨_,aKE (by omega)⟩
   have hxd:s.getD j false=x:=by rw[aKu,hx];rfl
   rw[hxd] at a4
   cases x with
   |
    false =>
    have:s.all id=false:=by
     cases h:s.all id with
     | false=>rfl
     | true=>exact absurd (aKL.1 h false (aLr hx)) (by decide)
    rw[this]
    simp only[nL,g3,g4,g8,bW,a3,a4,aOb,dS,VX,Nat.reduceEqDiff,Nat.reduceAdd,Nat.reduceLeDiff,Nat.reduceLT,Nat.reduceSub]
    exact aL rfl
   |
    true =>
    simp only[nL,g3,g4,g8,bW,a3,a4,wj,aOc,dS,VX,Nat.reduceEqDiff,Nat.reduceAdd,Nat.reduceLeDiff,Nat.reduceLT,Nat.reduceSub]
    refine⟨j+1,by omega,by omega,fun y hy => ?_,by (repeat' apply aMd)<;>first | rfl | trivial | assumption⟩
    rw[sQ hx] at hy
    rcases List.mem_append.1 hy with h | h
    ·exact ht y h
    ·rw[List.mem_singleton] at h
     exact h
  ·have S7:j=i:=by omega
   subst S7
   have:s.all id=true:=by
    rw[List.take_of_length_le (by omega)] at ht
    exact aKL.2 ht
   rw[this]
   simp only[nL,g3,g8,bW,dS,VX,Nat.reduceEqDiff,Nat.reduceAdd,Nat.reduceLeDiff,Nat.reduceLT,Nat.reduceSub]
   exact aL rfl
end
def DK (c:List (List ByteArray)):Nat→List (List Rat)
 | 0=>[]
 |
  i+1=>match iS c i,iI c.length i (c.getD i []) with
  | some out,some r=>out++[r]
  | some out,none=>out
  | none,_=>DK c i
theorem T4 {c:List (List ByteArray)} {i:Nat} {out:List (List Rat)} (h:iS c i=some out) (hr:iI c.length i (c.getD i [])=none):∀j,i+1≤j→DK c j=out:=by
 have hn:iS c (i+1)=none:=by rw[iS,h,hr]
 intro j hj
 induction j with
 | zero=>omega
 |
  succ j ih =>
  by_cases he:i=j
  ·subst he
   rw[DK,h,hr]
  ·rw[DK,Eb hn j (by omega)]
   exact ih (by omega)
def MQ (s:vH):List (List Rat):=if (1≤s.b.length∧s.b.length≤6)∧s.g.length=s.b.length∧s.e.length=s.b.length then
  match mQ s.b,sZ s.e with
  | some _,some r=>if (r.any fun q=>decide (q<0))=false then DK s.g s.b.length else []
  | _,_=>[]
 else []
def No (s:vH):VV:=match eW s with
 | some x => .eG [Cv aM x.1 x.2.1 x.2.2,VB (Fm x)]
 | none => .eG [.agg [.tree [] .op,aC (aC aM) (MQ s),.tree [] .op],VB false]
theorem T7 (b:List Rat) (g:List (List Rat)) (e:List Rat):gZ (Cv aM b g e)=true:=by
 show sK [aC aM b,aC (aC aM) g,aC aM e]=true
 simp only[sK,G4,alF,Bool.and_self]
theorem alQ (s:vH):gZ (No s)=true:=by
 unfold No
 split
 ·exact zP (T7 _ _ _) rfl
 ·exact zP (T7 [] _ []) rfl
end Go.PM
namespace Go.PM
open Go.Lib
theorem Nt {out:List (List Rat)} (h:out.length=0) (K:aA):PM.fz 6 K (.tree [] .nil)=some (aC (aC aM) out):=by
 have ho:out=[]:=aMF.1 h
 subst ho
 exact Cd
theorem NI {out:List (List Rat)} {i:Nat} {X Y:fN} (h:out.length=i+1):PM.fz 6 [X,Y,.row i (out.map (aC aM)) 1 true] (.ref 2 i 0 (i+1) (i+1))=some (aC (aC aM) out):=by
 have:=GK (d:=4) (c:=i+1) (b:=2) (g:=i) (e:=1) (w:=true) (H:=[X,Y,.row i (out.map (aC aM)) 1 true]) (rG ·) (by rw[eJ,eJ,aT]) (by omega)
 rw[h] at this
 exact this
def YS (i:Nat) (out:List (List Rat)):aA:=match i with
 | 0=>[kR,kR]
 | i+1=>[kR,.row 0 [.agg [.tree [] .nil,.ref 2 i 0 (i+1) (i+1),.tree [] .nil]] 3 true,.row i (out.map (aC aM)) 1 true]
theorem Vx {H:aA} {u v:VV} (h:PM.fz 6 H u=some v):PM.fz depth H (.eG [.agg [.tree [] .nil,u,.tree [] .nil],VB false])=some (.eG [.agg [.tree [] .op,v,.tree [] .op],VB false]):=by
 refine bN (d:=6) (Gy (d:=5) ?_) (aN (v:=VB false) rfl)
 rw[aLU,Cd,aLU,h,aLU,Cd]
 rfl
set_option maxHeartbeats 4000000 in
set_option maxRecDepth 20000 in
theorem MK (s:vH) (hb:Tl s):TC 109 [(vM s).cI 0] (No s):=by
 refine TC.walk ⟨true,false⟩ M7 rfl (aMl rfl) (Al (show aY (vM s)=true from rP _)) (alQ _) ?_
 have zB:=hb.b4
 have hel:=hb.e4
 have bad:eW s=none→MQ s=[]→∀K,PM.fz depth K (.eG [.agg [.tree [] .nil,.tree [] .nil,.tree [] .nil],VB false])=some (No s):=fun h hp K=>by
  have:No s = .eG [.agg [.tree [] .op,.tree [] .op,.tree [] .op],VB false]:=by unfold No;rw[h,hp];rfl
  rw[this]
  exact Vx Cd
 have st1:bL 0 3 (.ptr 1 0 0 0) (.agg [.tree [] .nil,.tree [] .nil,.tree [] .nil]) [kR,kR]=some [kR,kR]:=by
  rw[bS (e:=3) (g:=0) (j:=0) (eJ.trans aT) (by exact aNP) (by omega) rfl rfl]
  rfl
 have KS:bL 0 3 (.ptr 0 0 0 0) (.agg [.tree [] .nil,.tree [] .nil,.tree [] .nil]) [kR,kR]=some [kR,kR]:=by
  rw[bS (e:=3) (g:=0) (j:=0) aT (by exact aNP) (aKx _) rfl rfl]
  rfl
 have SG:bF true 3 (.ptr 0 0 0 0) [kR,kR]=some (.agg [.tree [] .nil,.tree [] .nil,.tree [] .nil]):=rfl
 have ld1:bF true 3 (.ptr 1 0 0 0) [kR,kR]=some (.agg [.tree [] .nil,.tree [] .nil,.tree [] .nil]):=rfl
 by_cases h1:(s.b.length:Int)<1
 ·have bad:=bad (by unfold eW;exact if_neg (by omega)) (by unfold MQ;exact if_neg (by omega))
  simp only[gF,dT,vM,h1,KS,st1,SG,ld1,dU,aKR,aMh,aL5,aLP,aMa,aLX,aKH,dS,VX,Nat.reduceEqDiff,Nat.reduceAdd,Nat.reduceLeDiff,Nat.reduceLT,Nat.reduceSub]
  exact bad _
 by_cases h6:(6:Int)<(s.b.length:Int)
 ·have bad:=bad (by unfold eW;exact if_neg (by omega)) (by unfold MQ;exact if_neg (by omega))
  simp only[gF,dT,vM,h1,h6,KS,st1,SG,ld1,dU,aKR,aMh,aL5,aLP,aMa,aLX,aKH,dS,VX,Nat.reduceEqDiff,Nat.reduceAdd,Nat.reduceLeDiff,Nat.reduceLT,Nat.reduceSub]
  exact bad _
 by_cases hg:(s.g.length:Int)=(s.b.length:Int)
 case neg =>
  have bad:=bad (by unfold eW;exact if_neg (by omega)) (by unfold MQ;exact if_neg (by omega))
  simp only[gF,dT,vM,h1,h6,hg,KS,st1,SG,ld1,dU,aKR,aMh,aL5,aLP,aMa,aLX,aKH,ne_eq,not_false_eq_true,decide_true,dS,VX,Nat.reduceEqDiff,Nat.reduceAdd,Nat.reduceLeDiff,Nat.reduceLT,Nat.reduceSub]
  exact bad _
 by_cases he:(s.e.length:Int)=(s.b.length:Int)
 case neg =>
  have bad:=bad (by unfold eW;exact if_neg (by omega)) (by unfold MQ;exact if_neg (by omega))
  simp only[gF,dT,vM,h1,h6,hg,he,KS,st1,SG,ld1,dU,aKR,aMh,aL5,aLP,aMa,aLX,aKH,ne_eq,not_false_eq_true,not_true_eq_false,decide_true,decide_false,dS,VX,Nat.reduceEqDiff,Nat.reduceAdd,Nat.reduceLeDiff,Nat.reduceLT,Nat.reduceSub]
  exact bad _
 have uO:(1≤s.b.length∧s.b.length≤6)∧s.g.length=s.b.length∧s.e.length=s.b.length:=by omega
 have e1:=A7 s.b (by omega) hb.bs
 have e2:=A7 s.e (by omega) hb.es
 cases hwr:sZ s.b with
 |
  none =>
  rw[hwr,Es] at e1
  have hw:=Mo hwr
  have bad:=bad (by unfold eW;rw[if_pos uO,hw]) (by unfold MQ;rw[if_pos uO,hw])
  cases hr:sZ s.e with
  |
   none =>
   rw[hr,Es] at e2
   simp only[gF,dT,vM,h1,h6,hg,he,e1,e2,KS,st1,SG,ld1,dU,aKR,aMh,aL5,aLP,aMa,aLX,aKH,ne_eq,not_true_eq_false,decide_false,dS,VX,Nat.reduceEqDiff,Nat.reduceAdd,Nat.reduceLeDiff,Nat.reduceLT,Nat.reduceSub]
   exact bad _
  |
   some r =>
   rw[hr,Et] at e2
   simp only[gF,dT,vM,h1,h6,hg,he,e1,e2,KS,st1,SG,ld1,dU,aKR,aMh,aL5,aLP,aMa,aLX,aKH,ne_eq,not_true_eq_false,decide_false,dS,VX,Nat.reduceEqDiff,Nat.reduceAdd,Nat.reduceLeDiff,Nat.reduceLT,Nat.reduceSub]
   exact bad _
 |
  some w =>
  rw[hwr,Et] at e1
  obtain⟨hwb,hwl,_⟩:=nD hwr
  have R6:=Jd w hwb hwl
  cases hr:sZ s.e with
  |
   none =>
   rw[hr,Es] at e2
   have bad:=bad (by unfold eW;rw[if_pos uO,hr];cases mQ s.b<;>rfl) (by unfold MQ;rw[if_pos uO,hr];cases mQ s.b<;>rfl)
   simp only[gF,dT,vM,h1,h6,hg,he,e1,e2,KS,st1,SG,ld1,dU,aKR,aMh,aL5,aLP,aMa,aLX,aKH,ne_eq,not_true_eq_false,decide_false,dS,VX,Nat.reduceEqDiff,Nat.reduceAdd,Nat.reduceLeDiff,Nat.reduceLT,Nat.reduceSub]
   exact bad _
  |
   some r =>
   rw[hr,Et] at e2
   obtain⟨Bo,BY,abO⟩:=nD hr
   cases hww:iZ w with
   |
    false =>
    rw[hww] at R6
    have hw:mQ s.b=none:=by rw[Fi hwr,if_neg (by simp[hww])]
    have bad:=bad (by unfold eW;rw[if_pos uO,hw]) (by unfold MQ;rw[if_pos uO,hw])
    simp only[gF,dT,vM,h1,h6,hg,he,e1,R6,e2,KS,st1,SG,ld1,dU,aKR,aMh,aL5,aLP,aMa,aLX,aKH,ne_eq,not_true_eq_false,decide_false,dS,VX,Nat.reduceEqDiff,Nat.reduceAdd,Nat.reduceLeDiff,Nat.reduceLT,Nat.reduceSub]
    exact bad _
   |
    true =>
    rw[hww] at R6
    have hw:mQ s.b=some w:=by rw[Fi hwr,if_pos hww]
    have e3:=uK r (by omega)
    cases Ag:r.any (fun q=>decide (q<0)) with
    |
     true =>
     rw[Ag] at e3
     have bad:=bad (by unfold eW;rw[if_pos uO,hw,hr];exact if_neg (by rw[Ag];decide)) (by unfold MQ;rw[if_pos uO,hw,hr];exact if_neg (by rw[Ag];decide))
     simp only[gF,dT,vM,h1,h6,hg,he,e1,R6,e2,e3,KS,st1,SG,ld1,dU,aKR,aMh,aL5,aLP,aMa,aLX,aKH,aOc,ne_eq,not_true_eq_false,decide_false,dS,VX,Nat.reduceEqDiff,Nat.reduceAdd,Nat.reduceLeDiff,Nat.reduceLT,Nat.reduceSub]
     exact bad _
    |
     false =>
     rw[Ag] at e3
     have He:eW s=(iS s.g s.b.length).map fun m=>(w,m,r):=by unfold eW;rw[if_pos uO,hw,hr];exact if_pos Ag
     have DL:MQ s=DK s.g s.b.length:=by unfold MQ;rw[if_pos uO,hw,hr];exact if_pos Ag
     clear bad
     simp only[gF,dT,vM,h1,h6,hg,he,e1,R6,e2,e3,st1,dU,aKR,aMh,aL5,aLP,aMa,aLX,aKH,aOb,aOc,ne_eq,not_true_eq_false,decide_false,dS,VX,Nat.reduceEqDiff,Nat.reduceAdd,Nat.reduceLeDiff,Nat.reduceLT,Nat.reduceSub]
     refine aP (fun(i:Nat) ρ H=>i≤s.b.length∧(∃out,iS s.g i=some out∧H=YS i out)∧ρ 0=(vM s).cI 0∧ρ 2 = .ptr 0 0 0 0∧ρ 4=VI s.b.length∧ρ 5 = .ptr 1 0 0 0∧ρ 6=aC aM w∧ρ 8=aC aM r∧ρ 10=VI i) (fun i=>s.b.length-i) 0
      ⟨aK1 _,⟨[],rfl,rfl⟩,by (repeat' apply aMd)<;>first | rfl | trivial | assumption⟩ ?_
     rintro i ρ H ⟨hi,⟨out,wI,rfl⟩,g0,g2,g4,g5,g6,g8,g10⟩
     obtain⟨hJ,hof⟩:=tM wI
     by_cases bW:(i:Int)<(s.b.length:Int)
     ·obtain⟨x,hx⟩:∃x,s.g[i]? = some x:=⟨_,aKE (by omega)⟩
      have hxm:=aLr hx
      have hgd:s.g.getD i []=x:=by rw[aKu,hx];rfl
      have a1:=fun H=>aH (f:=gL) (t := .op) (H:=H) (size:=1) (k := .i64) hx rfl
      have wi:IntKind.i64.wrap ((i:Int)+1)=((i+1:Nat):Int):=wrapN (i+1) (by omega) (by omega)
      have e4:=A7 x (hb.g9.2 x hxm) (hb.gs x hxm)
      have vZ:iS s.g (i+1)=match iI s.g.length i x with | some q=>some (out++[q]) | none=>none:=by
       rw[iS,wI,hgd]
       cases iI s.g.length i x<;>rfl
      have bad:iI s.g.length i x=none→∀(u:VV) (K:aA),PM.fz 6 K u=some (aC (aC aM) out)→PM.fz depth K (.eG [.agg [.tree [] .nil,u,.tree [] .nil],VB false])=some (No s):=fun h u K hK=>by
       have hp:No s = .eG [.agg [.tree [] .op,aC (aC aM) out,.tree [] .op],VB false]:=by
        have h1:eW s=none:=by
         rw[h] at vZ
         rw[He,Eb vZ s.b.length (by omega)]
         rfl
        unfold No
        rw[h1,DL,T4 wI (by rw[hgd];exact h) s.b.length (by omega)]
       rw[hp]
       exact Vx hK
      cases HQ:sZ x with
      |
       none =>
       rw[HQ,Es] at e4
       have bd:=bad (by unfold iI;rw[HQ])
       cases i with
       |
        zero =>
        simp only[cZ,YS,vM,g0,g2,g4,g5,g10,bW,a1,e4,dU,gH,Nat.reduceLeDiff,Nat.reduceLT,Nat.reduceSub,nH,cD,cP,gP,lO,pN,bne_iff_ne,ne_eq,not_false_eq_true,not_true_eq_false,VX,Nat.reduceEqDiff,Nat.reduceAdd]
        exact bd _ _ (Nt hJ _)
       |
        succ i =>
        simp only[cZ,YS,vM,g0,g2,g4,g5,g10,bW,a1,e4,dU,gH,Nat.reduceLeDiff,Nat.reduceLT,Nat.reduceSub,nH,cD,cP,gP,lO,pN,bne_iff_ne,ne_eq,not_false_eq_true,not_true_eq_false,VX,Nat.reduceEqDiff,Nat.reduceAdd]
        exact bd _ _ (NI hJ)
      |
       some y =>
       rw[HQ,Et] at e4
       obtain⟨hyb,hyl,_⟩:=nD HQ
       by_cases hl:(y.length:Int)=(s.b.length:Int)
       case neg =>
        have bd:=bad (by unfold iI;rw[HQ];exact if_neg (fun h=>hl (by omega)))
        cases i with
        |
         zero =>
         simp only[cZ,YS,vM,g0,g2,g4,g5,g10,bW,a1,e4,hl,dU,ne_eq,not_false_eq_true,decide_true,gH,Nat.reduceLeDiff,Nat.reduceLT,Nat.reduceSub,nH,cD,cP,gP,lO,pN,bne_iff_ne,ne_eq,not_false_eq_true,not_true_eq_false,VX,Nat.reduceEqDiff,Nat.reduceAdd]
         exact bd _ _ (Nt hJ _)
        |
         succ i =>
         simp only[cZ,YS,vM,g0,g2,g4,g5,g10,bW,a1,e4,hl,dU,ne_eq,not_false_eq_true,decide_true,gH,Nat.reduceLeDiff,Nat.reduceLT,Nat.reduceSub,nH,cD,cP,gP,lO,pN,bne_iff_ne,ne_eq,not_false_eq_true,not_true_eq_false,VX,Nat.reduceEqDiff,Nat.reduceAdd]
         exact bd _ _ (NI hJ)
       have e5:=uK y (by omega)
       cases IZ:y.any (fun q=>decide (q<0)) with
       |
        true =>
        rw[IZ] at e5
        have bd:=bad (by unfold iI;rw[HQ];exact if_neg (fun h=>by rw[IZ] at h;cases h.2.1))
        cases i with
        |
         zero =>
         simp only[cZ,YS,vM,g0,g2,g4,g5,g10,bW,a1,e4,e5,hl,dU,aOc,ne_eq,not_true_eq_false,decide_false,gH,Nat.reduceLeDiff,Nat.reduceLT,Nat.reduceSub,nH,cD,cP,gP,lO,pN,bne_iff_ne,ne_eq,not_false_eq_true,not_true_eq_false,VX,Nat.reduceEqDiff,Nat.reduceAdd]
         exact bd _ _ (Nt hJ _)
        |
         succ i =>
         simp only[cZ,YS,vM,g0,g2,g4,g5,g10,bW,a1,e4,e5,hl,dU,aOc,ne_eq,not_true_eq_false,decide_false,gH,Nat.reduceLeDiff,Nat.reduceLT,Nat.reduceSub,nH,cD,cP,gP,lO,pN,bne_iff_ne,ne_eq,not_false_eq_true,not_true_eq_false,VX,Nat.reduceEqDiff,Nat.reduceAdd]
         exact bd _ _ (NI hJ)
       |
        false =>
        rw[IZ] at e5
        obtain⟨q,hq⟩:∃q,y[i]? = some q:=⟨_,aKE (by omega)⟩
        have hqd:y.getD i 0=q:=by rw[aKu,hq];rfl
        have a2:=fun H=>aH (f:=aM) (t := .op) (H:=H) (size:=3) (k := .i64) hq rfl
        have e6:=rB q
        by_cases hz:q=0
        case neg =>
         rw[decide_eq_false hz] at e6
         have bd:=bad (by unfold iI;rw[HQ];exact if_neg (fun h=>hz (by rw[←hqd];exact h.2.2)))
         cases i with
         |
          zero =>
          simp only[cZ,YS,vM,g0,g2,g4,g5,g10,bW,a1,a2,e4,e5,e6,hl,dU,cH,aOb,ne_eq,not_true_eq_false,decide_false,gH,Nat.reduceLeDiff,Nat.reduceLT,Nat.reduceSub,nH,cD,cP,gP,lO,pN,bne_iff_ne,ne_eq,not_false_eq_true,not_true_eq_false,VX,Nat.reduceEqDiff,Nat.reduceAdd]
          exact bd _ _ (Nt hJ _)
         |
          succ i =>
          simp only[cZ,YS,vM,g0,g2,g4,g5,g10,bW,a1,a2,e4,e5,e6,hl,dU,cH,aOb,ne_eq,not_true_eq_false,decide_false,gH,Nat.reduceLeDiff,Nat.reduceLT,Nat.reduceSub,nH,cD,cP,gP,lO,pN,bne_iff_ne,ne_eq,not_false_eq_true,not_true_eq_false,VX,Nat.reduceEqDiff,Nat.reduceAdd]
          exact bd _ _ (NI hJ)
        rw[decide_eq_true hz] at e6
        have lL:iI s.g.length i x=some y:=by unfold iI;rw[HQ];exact if_pos ⟨by omega,IZ,by rw[hqd,hz]⟩
        rw[lL] at vZ
        have eL:∀K,mR false [.slice none 0 0] 1 [(0,aC aM y)] K=some (.tree [aC aM y] (.cl 1),K):=fun K=>iX rfl rfl rfl
        have eS:∀K,cW 1 (.tree [aC aM y] (.cl 1)) K=some [aC aM y]:=fun K=>eV rfl rfl
        cases i with
        |
         zero =>
         have ho:out=[]:=aMF.1 hJ
         subst ho
         have eP:∀K:aA,dP 0 1 24 (.tree [] .nil) [aC aM y] K=some (.ref K.length 0 0 1 1,K++[.row 0 [aC aM y] 1 true]):=fun K=>by simp[dP]
         simp only[cZ,YS,vM,g0,g2,g4,g5,g10,bW,a1,a2,e4,e5,e6,hl,eL,eS,eP,wi,dU,cH,aOb,aOc,ne_eq,not_true_eq_false,decide_false,aKH,aMa,aLX,aLP,gH,Nat.reduceLeDiff,Nat.reduceLT,Nat.reduceSub,nH,cD,cP,gP,lO,pN,bne_iff_ne,ne_eq,not_false_eq_true,not_true_eq_false,VX,Nat.reduceEqDiff,Nat.reduceAdd]
         exact⟨1,by omega,by omega,⟨[y],vZ,rfl⟩,by (repeat' apply aMd)<;>first | rfl | trivial | assumption⟩
        |
         succ i =>
         have eP:dP 0 1 24 (.ref 2 i 0 (i+1) (i+1)) [aC aM y] (YS (i+1) out)=some (.ref 2 (i+1) 0 (i+2) (i+2),[kR,.row 0 [.agg [.tree [] .nil,.ref 2 i 0 (i+1) (i+1),.tree [] .nil]] 3 true,.row (i+1) ((out++[y]).map (aC aM)) 1 true]):=by
          rw[YS,jQ (f:=aC aM) (xs:=out) (by rw[eJ,eJ,aT]) hJ.symm (aK1 _) (by decide) (by decide) (by omega)]
          rfl
         simp only[YS] at eP
         simp only[cZ,YS,vM,g0,g2,g4,g5,g10,bW,a1,a2,e4,e5,e6,hl,eL,eS,eP,wi,dU,cH,aOb,aOc,ne_eq,not_true_eq_false,decide_false,gH,Nat.reduceLeDiff,Nat.reduceLT,Nat.reduceSub,nH,cD,cP,gP,lO,pN,bne_iff_ne,ne_eq,not_false_eq_true,not_true_eq_false,VX,Nat.reduceEqDiff,Nat.reduceAdd]
         exact⟨i+2,by omega,by omega,⟨out++[y],vZ,rfl⟩,by (repeat' apply aMd)<;>first | rfl | trivial | assumption⟩
     ·have mI:i=s.b.length:=by omega
      rw[mI] at wI hJ
      obtain⟨k,hk⟩:∃k,s.b.length=k+1:=⟨s.b.length-1,by omega⟩
      have V9:i=k+1:=by omega
      subst V9
      have aBy:r.length=s.b.length:=by omega
      have aFG:w.length=s.b.length:=(nD hwr).2.2
      have alV:No s = .eG [Cv aM w out r,VB (Fm (w,out,r))]:=by unfold No;rw[He,wI];rfl
      rw[alV]
      have aBa:∀q∈r,0≤q:=fun q hq=>Rat.not_lt.1 (by have:=List.any_eq_false.1 Ag q hq;simpa using this)
      have hF:=Iu (b:=w) (g:=out) (e:=r) (n:=r.length) (by omega) (by omega) (by omega) (fun z hz=>⟨by have:=(hof z hz).1;omega,fun q hq=>((hof z hz).2 q hq).1⟩) rfl aBa
      have Rf:∀Y X:fN,aG [Y,X,.row k (out.map (aC aM)) 1 true] 2 k=some (out.map (aC aM),1,true):=fun Y X=>by rw[eJ,eJ,aT]
      have alD:=fun Y X=>GK (d:=4) (c:=k+1) (rG ·) (Rf Y X) (by omega)
      rw[hk] at hJ
      rw[hJ] at alD
      have hfa:∀Y X,PM.fz 7 [Y,X,.row k (out.map (aC aM)) 1 true] (.agg [aC aM w,.ref 2 k 0 (k+1) (k+1),aC aM r])=some (Cv aM w out r):=fun Y X=>by
       refine Gy (d:=5) ?_
       rw[aLU,aN (rG w),aLU,alD,aLU,aN (rG r)]
       rfl
      have hp1:PM.fz depth [kR,.row 0 [.agg [aC aM w,.ref 2 k 0 (k+1) (k+1),aC aM r]] 3 true,.row k (out.map (aC aM)) 1 true] (.ptr 1 0 0 0)=some (svP w out r):=azL (o:=0) (b:=1) (g:=0) (j:=0) (es:=[.agg [aC aM w,.ref 2 k 0 (k+1) (k+1),aC aM r]]) (x := .agg [aC aM w,.ref 2 k 0 (k+1) (k+1),aC aM r]) (x':=Cv aM w out r) (eJ.trans aT) rfl (hfa _ _)
      have hE2:=fun lo K=>TC.flat (args:=[.ptr 1 0 0 0]) (mB:=[svP w out r]) hF rfl (Al (UI _ _ _)) (fz1 hp1) rfl lo K
      simp only[cZ,YS,g2,g4,g5,g6,g8,g10,bW,hE2,dU,gH,Nat.reduceLeDiff,Nat.reduceLT,Nat.reduceSub,nH,cD,cP,gP,lO,pN,bne_iff_ne,ne_eq,not_false_eq_true,not_true_eq_false,VX,Nat.reduceEqDiff,Nat.reduceAdd]
      exact bN (d:=6) (hfa _ _) (aN (v:=VB _) rfl)
end Go.PM
namespace Go.PM
end Go.PM
namespace Go.PM
theorem pL (q:Rat):(aB (aM q)).all bO=true:=rfl
theorem amS {lo k:Nat} {H K:aA} {x:VV} {q:Rat} (h:lo≤H.length) (hK:K[k]? = some (.row 0 [x] 3 true)):bL lo 3 (.ptr (H.length+k) 0 0 0) (aM q) (H++K)=some (H++K.set k (.row 0 [aM q] 3 true)):=by
 have hr:aG (H++K) (H.length+k) 0=some ([x],3,true):=by
  rw[cB,List.getElem?_append_right (by omega),aMo]
  exact hK
 rw[bS (e:=3) hr (by exact aNP) (by omega) (iY q) (pL q),List.set_append_right _ _ (by omega),aMo]
 rfl
theorem aA9 {H:aA} {b:Nat} {q:Rat} (h:aG H b 0=some ([aM q],3,true)):bF true 3 (.ptr b 0 0 0) H=some (aM q):=by
 rw[bK,h]
 exact cH q
end Go.PM
namespace Go.PM
open Go.Lib
section
variable {lo gB hi N b g c:Nat} {H:aA} {L:List P8}
structure Tq (f:Rat→VV) (lo hi N b g:Nat) (L:List P8) (H:aA):Prop where
 t:Tb f lo hi N N b g (iW L) H
 b:∀t∈L,aK t.2.2≤1331
 l:L.length≤400
theorem Tq.bits {f:Rat→VV} (h:Tq f lo hi N b g L H) (i j:Nat):aK (iW L i j)≤1000000:=by
 have h1:=OQ h.b i j
 have h2:L.length*(1331+1)≤400*(1331+1):=aKY _ h.l
 omega
theorem Tq.dC {f:Rat→VV} {H':aA} (h:Tq f lo hi N b g L H) (hk:jV lo hi H H'):Tq f lo hi N b g L H':=⟨h.t.dC hk,h.b,h.l⟩
theorem Tq.pre {f:Rat→VV} {H':aA} (h:Tq f lo hi N b g L H) (hh:H <+: H'):Tq f lo hi N b g L H':=h.dC (jV.pre hh)
theorem Tq.snoc {f:Rat→VV} {H':aA} {i j:Nat} {q:Rat} (h:Tq f lo hi N b g L H) (hT:Tb f lo hi N N b g (iW (L++[(i,j,q)])) H') (hq:aK q≤1331) (hl:L.length<400):Tq f lo hi N b g (L++[(i,j,q)]) H' :=
 ⟨hT,fun t ht=>by
  rcases List.mem_append.1 ht with ht | ht
  ·exact h.b t ht
  ·rw[List.mem_singleton] at ht
   subst ht
   exact hq,by rw[List.length_append];exact hl⟩
theorem Tq.same {f:Rat→VV} {i:Nat} {q:Rat} (h:Tq f lo hi N b g L H) (hq:aK q≤1331) (hl:L.length<400):Tq f lo hi N b g (L++[(i,i,q)]) H:=h.snoc (by rw[XW];exact h.t) hq hl
end
theorem avO {H:aA} {es:List VV} {k:Nat} (hp:aO es=true):PM.fz depth H (.tree es (.cl k))=some (.tree es .op):=by
 have h0:aY (.tree es (.cl k))=false:=by simp[aY]
 show PM.fz (7+1) H _=_
 unfold PM.fz
 simp only[h0,Bool.false_eq_true,if_false]
 rw[mapM_pure (n:=6) hp]
 rfl
theorem aeI {H:aA} {es:List VV} {k:Nat} (hp:aO es=true):iT depth H (.tree es (.cl k))=[]:=by
 have h0:aY (.tree es (.cl k))=false:=by simp[aY]
 show iT (7+1) H _=_
 unfold iT
 simp only[h0,Bool.false_eq_true,if_false]
 exact Az hp
theorem TC.cl {f lo k:Nat} {H:aA} {es:List VV} {r:VV} {K:VV→aA→Prop} (h:TC f [.tree es .op] r) (hr:Fv.contains f=false) (hp:aO es=true) (BX:aY (.tree es .op)=true):dH f [.tree es (.cl k)] lo H K=K r H:=by
 have h0:aY (.tree es (.cl k))=false:=by simp[aY]
 rw[h.Dx (H:=H) (lo:=lo) (k:=K) hr (Al BX) (fz1 (avO hp)) (by simp[aO,h0]),List.flatMap_cons,aeI hp]
 split<;>rfl
theorem TabIs.fz {f:Rat→VV} {m:List (List Rat)} {lo hi:Nat} {H:aA} {v:VV} (h:TabIs f 3 m lo hi H v) (hpu:∀x,aY (f x)=true):PM.fz depth H v=some (aC (aC f) m):=by
 obtain⟨b,g,c,rs,rfl,k1,hM,hrs⟩:=h
 have BY:rs.length=m.length:=by rw[←hrs,List.length_map]
 have hfz:=hM.fz (d:=5) (c:=c) (by omega) hpu
 rw[hrs,BY] at hfz
 exact hfz
theorem wN {x:Int} (k:Nat) (h:x=k) (hk:k≤1000000000):IntKind.i64.wrap x=(k:Int):=by
 subst h
 exact wrapN k (by omega) (by omega)
theorem QOk.told {p:Nat×List P8} (hp:QOk p):(WY (Py p)).length≤1000000∧∀r∈WY (Py p),r.length≤1000000∧∀q∈r,aK q≤1099511627776:=by
 have hn:=hp.n
 obtain⟨el,eb⟩:=acA XV (B:=600000) hp.rows (by omega) (by omega)
 exact⟨by omega,fun r hr=>⟨by have:=(eb r hr).1;omega,fun q hq=>by have:=(eb r hr).2 q hq;omega⟩⟩
end Go.PM
namespace Go.PM
structure Z0 (s:vH):Prop where
 b:s.b.length≤100
 g:s.g.length≤100
 r:∀x∈s.g,x.length≤100
 e:s.e.length≤100
theorem D1 {β:Type}:∀ {xs:List (List β)} {n:Nat},(∀x∈xs,x.length≤n)→It xs≤xs.length*n
 | [],n,_=>by simp[It]
 |
  x::xs,n,h=>by
  have h1:=h x List.mem_cons_self
  have h2:=D1 (xs:=xs) (n:=n) fun y hy=>h y (List.mem_cons_of_mem _ hy)
  have e:It (x::xs)=x.length+It xs:=by simp[It]
  rw[e,aKH,aK2,Nat.one_mul]
  omega
theorem Z0.n {s:vH} (h:Z0 s):svN s≤10200:=by
 have h1:=D1 h.r
 have h2:s.g.length*100≤100*100:=aKY _ h.g
 have h3:=h.b
 have h4:=h.e
 unfold svN
 omega
end Go.PM
namespace Go.PM
open Go.Lib
theorem LsO.wide {α:Type} {f:α→VV} {e:Nat} {o:Option (List α)}:∀ {lo hi gB qI:Nat} {H:aA} {v:VV},LsO f e o lo hi H v→gB≤lo→hi≤qI→LsO f e o gB qI H v:=by
 intro lo hi gB qI H v h hl hh
 cases o with
 | none=>exact h
 |
  some ys =>
  obtain⟨b,g,c,h1,h2,h3⟩:=h
  exact⟨b,g,c,by omega,by omega,h3⟩
end Go.PM
namespace Go.PM
structure ZT (s:List (List ByteArray)):Prop where
 g:s.length≤100
 r:∀x∈s,x.length≤100
theorem ZT.n {s:List (List ByteArray)} (h:ZT s):It s≤10000:=by
 have h1:=D1 h.r
 have h2:s.length*100≤100*100:=aKY _ h.g
 omega
end Go.PM
namespace Go.PM
end Go.PM
namespace Go.PM
open Go.Lib
end Go.PM
namespace Go.PM
open Go.Lib
def Hv (A:Nat→Nat→Rat) (b:Nat→Rat) (n i j:Nat):Rat:=if j<n then A i j else b i
def jnA (i:Nat) (A:Nat→Nat→Rat) (b:Nat→Rat) (n:Nat):Nat→Nat→Rat:=Hv (G8 (cDg i A) i A) (TZ (cDg i A) i b) n
def jnR (i:Nat) (A:Nat→Nat→Rat) (b:Nat→Rat) (n r a c:Nat):Rat:=if a<r then jnA i A b n a c else Hv A b n a c
def jnC (i:Nat) (A:Nat→Nat→Rat) (b:Nat→Rat) (n r j a c:Nat):Rat:=if a=r∧c<j then jnA i A b n r c else jnR i A b n r a c
section
variable {i n r:Nat} {A:Nat→Nat→Rat} {b:Nat→Rat}
theorem Iy {a c:Nat} (h:c<n):Hv A b n a c=A a c:=if_pos h
theorem Zd {a:Nat}:Hv A b n a n=b a:=if_neg (aOd _)
theorem YD {a c:Nat}:jnA i A b n a c=Hv A b n a c-cDg i A a*Hv A b n i c:=by
 unfold jnA Hv G8 TZ
 split<;>rfl
theorem Zb {c:Nat}:jnA i A b n i c=Hv A b n i c:=by
 rw[YD,show cDg i A i=0 from if_pos rfl,aOe]
 grind
theorem aiJ (h:A r i=0) {c:Nat}:jnA i A b n r c=Hv A b n r c:=by
 rw[YD]
 have:cDg i A r=0:=by
  unfold cDg
  split
  ·rfl
  ·rw[h,Rat.div_def,aOe]
 rw[this,aOe]
 grind
theorem ajD (h:r≠i) {c:Nat}:jnA i A b n r c=Hv A b n r c-A r i / A i i*Hv A b n i c:=by
 rw[YD,show cDg i A r=A r i / A i i from if_neg h]
theorem Tj {c:Nat}:jnR i A b n r r c=Hv A b n r c:=if_neg (aOd _)
theorem aaA {c:Nat}:jnR i A b n r i c=Hv A b n i c:=by
 unfold jnR
 split
 ·exact Zb
 ·rfl
theorem UQ (h:r=i∨A r i=0) {a c:Nat}:jnR i A b n r a c=jnR i A b n (r+1) a c:=by
 unfold jnR
 by_cases h1:a<r
 ·rw[if_pos h1,if_pos (by omega)]
 ·rw[if_neg h1]
  by_cases h2:a=r
  ·subst h2
   rw[if_pos (by omega)]
   rcases h with h | h
   ·subst h;exact Zb.symm
   ·exact(aiJ h).symm
  ·rw[if_neg (by omega)]
theorem aeK (hz:∀c,c<i→A i c=0) (bW:i<n) (h:r≠i) {a c:Nat}:jnR i A b n r a c=jnC i A b n r i a c:=by
 unfold jnC
 by_cases h1:a=r∧c<i
 ·obtain⟨rfl,h2⟩:=h1
  rw[if_pos ⟨rfl,h2⟩,Tj,ajD h,Iy (by omega:c<n),Iy (by omega:c<n),hz c h2]
  grind
 ·rw[if_neg h1]
theorem arK {j:Nat}:jnC i A b n r j r j=Hv A b n r j:=by
 unfold jnC
 rw[if_neg (by omega),Tj]
theorem aqV {j c:Nat} (h:r≠i):jnC i A b n r j i c=Hv A b n i c:=by
 unfold jnC
 rw[if_neg (by omega),aaA]
theorem aiZ {j a c:Nat}:PQ (jnC i A b n r j) r j (jnA i A b n r j) a c=jnC i A b n r (j+1) a c:=by
 unfold PQ jnC
 by_cases h1:a=r∧c=j
 ·obtain⟨rfl,rfl⟩:=h1
  rw[if_pos ⟨rfl,rfl⟩,if_pos ⟨rfl,by omega⟩]
 ·rw[if_neg h1]
  by_cases h2:a=r∧c<j
  ·rw[if_pos h2,if_pos ⟨h2.1,by omega⟩]
  ·rw[if_neg h2,if_neg (by omega)]
theorem arW {a c:Nat} (hc:c<n+1):jnC i A b n r (n+1) a c=jnR i A b n (r+1) a c:=by
 unfold jnC
 by_cases h1:a=r∧c<n+1
 ·obtain⟨rfl,_⟩:=h1
  rw[if_pos ⟨rfl,hc⟩]
  unfold jnR
  rw[if_pos (by omega)]
 ·rw[if_neg h1]
  unfold jnR
  by_cases h2:a<r
  ·rw[if_pos h2,if_pos (by omega)]
  ·rw[if_neg h2,if_neg (by omega)]
theorem aqK {k m a c:Nat}:swp k m (Hv A b n) a c=Hv (swp k m A) (swp k m b) n a c:=by
 unfold swp Hv
 by_cases h1:a=k
 ·simp only[h1,if_true]
 ·simp only[h1,if_false]
  by_cases h2:a=m
  ·simp only[h2,if_true]
  ·simp only[h2,if_false]
end
theorem OA {lo gB hi N M b g c:Nat} {F:Nat→Nat→Rat} {H:aA} {k m:Nat} (h:Tb aM gB hi N M b g F H) (hk:k<N) (hm:m<N) (dR:lo≤gB) :
  jE 179 [.ref b g 0 N c,VI k,VI m] lo H fun _ H'=>Qt gB hi H H'∧Tb aM gB hi N M b g (swp k m F) H':=by
 refine jE.walk ⟨true,false⟩ OW (aMl rfl) ?_
 obtain⟨u,v,e1,e2,e3⟩:=h.swap hk hm
 obtain⟨Ha,Hb,e4,e5,e6,e7,e8,e9⟩:=e3 lo dR
 have a1:=h.addr (c:=c) hk
 have a2:=h.addr (c:=c) hm
 simp only[I5,F8,a1,a2,e1,e2,e4,e5,e6,dS,VX,Nat.reduceEqDiff,Nat.reduceAdd,Nat.reduceLeDiff,Nat.reduceLT,Nat.reduceSub]
 exact⟨e8,e9⟩
set_option maxHeartbeats 16000000 in
set_option maxRecDepth 30000 in
theorem MY {lo gB hi n b g c G η:Nat} {H:aA} {A0:Nat→Nat→Rat} {b0 X:Nat→Rat} (hT:Tb aM gB hi n (n+1) b g (Hv A0 b0 n) H) (hU:DgS n 0 G A0 b0 X) (hX:dG η n X) (hn:n≤12) (hG:2^n*(G+1)≤68719476736) (hη:η≤274877906944) (dR:lo≤gB) (hlH:lo≤H.length) (hhi:hi≤H.length) :
  jE 134 [.ref b g 0 n c] lo H fun r H'=>∃v,r = .eG [v,VB true]∧H.length≤H'.length∧JE aM 3 (vec n X) H.length H'.length H' v∧∀b' g' x,(b'<gB∨hi≤b')→aG H b' g'=some x→aG H' b' g'=some x:=by
 refine jE.walk ⟨true,false⟩ Np (aMl rfl) ?_
 have el:=hT.len (c:=c)
 simp only[HT,EK,el,dS,VX,Nat.reduceEqDiff,Nat.reduceAdd,Nat.reduceLeDiff,Nat.reduceLT,Nat.reduceSub]
 have hgk:∀k,k≤n→gk G k≤68719476736:=fun k hk=>aKy (auV hk) hG
 have wn:∀k:Nat,k≤n+1→IntKind.i64.wrap ((k:Int)+1)=((k+1:Nat):Int):=fun k hk=>wN _ (by omega) (by omega)
 have trB:∀ {lo hi:Nat} {H H' WB:aA},(H.length≤H'.length∧∀b' g' x,(b'<lo∨hi≤b')→aG H b' g'=some x→aG H' b' g'=some x)→(H'.length≤WB.length∧∀b' g' x,(b'<lo∨hi≤b')→aG H' b' g'=some x→aG WB b' g'=some x)→H.length≤WB.length∧∀b' g' x,(b'<lo∨hi≤b')→aG H b' g'=some x→aG WB b' g'=some x:=fun h h'=>⟨aKy h.1 h'.1,fun b g x k1 k2=>h'.2 b g x k1 (h.2 b g x k1 k2)⟩
 have ofR:∀ {lo hi:Nat} {H H':aA},Qt lo hi H H'→(H.length≤H'.length∧∀b' g' x,(b'<lo∨hi≤b')→aG H b' g'=some x→aG H' b' g'=some x):=fun h=>⟨Nat.le_of_eq h.1.symm,h.2⟩
 have ofA:∀ {lo hi:Nat} {H L:aA},(H.length≤(H++L).length∧∀b' g' x,(b'<lo∨hi≤b')→aG H b' g'=some x→aG (H++L) b' g'=some x):=fun {_ _ H L}=>⟨by simp,fun _ _ _ _ h=>eT h⟩
 refine aP (fun(k:Nat) ρ H1=>k≤n∧(∃A bb,DgS n k (gk G k) A bb X∧Tb aM gB hi n (n+1) b g (Hv A bb n) H1)∧(H.length≤H1.length∧∀b' g' x,(b'<gB∨hi≤b')→aG H b' g'=some x→aG H1 b' g'=some x)∧ρ 0 = .ref b g 0 n c∧ρ 4=VI n∧ρ 5=VI k) (fun k=>n-k) 0
  ⟨aK1 _,⟨A0,b0,hU,hT⟩,⟨aKx _,fun _ _ _ _ h=>h⟩,by (repeat' apply aMd)<;>first | rfl | trivial | assumption⟩ ?_
 rintro k ρ H1 ⟨hk,⟨A,bb,Ux,hT1⟩,hO1,g0,g4,g5⟩
 by_cases TU:(k:Int)<(n:Int)
 ·have oG:k<n:=by omega
  obtain⟨pm,hp1,hp2,hp3⟩:=Ux.f.ahJ oG Ux.u.upper
  simp only[xY,g0,g4,g5,TU,dS,VX,Nat.reduceEqDiff,Nat.reduceAdd,Nat.reduceLeDiff,Nat.reduceLT,Nat.reduceSub]
  refine aP (fun(m:Nat) aQ H2=>H2=H1∧k≤m∧m≤n∧(∀r,k≤r→r<m→A r k=0)∧aQ 0 = .ref b g 0 n c∧aQ 4=VI n∧aQ 5=VI k∧aQ 6=VI m) (fun m=>n-m) k
   ⟨rfl,aKx _,hk,fun r h1 h2=>by omega,by (repeat' apply aMd)<;>first | rfl | trivial | assumption⟩ ?_
  clear g0 g4 g5
  rintro m ρ H2 ⟨rfl,hkm,hmn,hzero,g0,g4,g5,g6⟩
  have hm:m<n:=by
   rcases aKA m n with h | h
   ·exact h
   ·exact absurd (hzero pm hp1 (by omega)) hp3
  have ahZ:(m:Int)<(n:Int):=by omega
  have a1:=hT1.addr (c:=c) hm
  obtain⟨rb1,rg1,rc1,c1,c2,c3,_⟩:=hT1.spot (i:=m) (j:=k) hm (by omega) iY pL
  have c3:=(c3 true).trans (cH _)
  rw[Iy oG] at c3
  have es:=rB (A m k)
  by_cases Cy:A m k=0
  ·rw[decide_eq_true Cy] at es
   simp only[xR,g0,g4,g5,g6,ahZ,a1,c1,c2,c3,es,wn m (by omega),dS,VX,Nat.reduceEqDiff,Nat.reduceAdd,Nat.reduceLeDiff,Nat.reduceLT,Nat.reduceSub]
   exact⟨m+1,by omega,by omega,by omega,fun r h1 h2=>by
    rcases aKA r m with h | h
    ·exact hzero r h1 h
    ·rw[show r=m by omega]
     exact Cy,by (repeat' apply aMd)<;>first | rfl | trivial | assumption⟩
  ·rw[decide_eq_false Cy] at es
   have fS:¬(m:Int)=(n:Int):=by omega
   have Yq:=Ux.swp hkm hm
   have Tr:swp k m A k k≠0:=by unfold Go.PM.swp;rw[if_pos rfl];exact Cy
   simp only[xR,g0,g4,g5,g6,ahZ,a1,c1,c2,c3,es,fS,dS,VX,Nat.reduceEqDiff,Nat.reduceAdd,Nat.reduceLeDiff,Nat.reduceLT,Nat.reduceSub]
   refine fV rfl ((OA (c:=c) hT1 oG hm dR).mono ?_)
   rintro _ Hs ⟨hOs,hTs⟩
   have hTs:=hTs.congr fun a c _ _=>aqK
   have hOs:=trB hO1 (ofR hOs)
   generalize hA':Go.PM.swp k m A=A' at *
   generalize xF:Go.PM.swp k m bb=Ie at *
   simp only[g0,g4,g5,dS,VX,Nat.reduceEqDiff,Nat.reduceAdd,Nat.reduceLeDiff,Nat.reduceLT,Nat.reduceSub]
   refine aP (fun(i:Nat) aQ H2=>i≤n∧Tb aM gB hi n (n+1) b g (jnR k A' Ie n i) H2∧(H.length≤H2.length∧∀b' g' x,(b'<gB∨hi≤b')→aG H b' g'=some x→aG H2 b' g'=some x)∧aQ 0 = .ref b g 0 n c∧aQ 4=VI n∧aQ 5=VI k∧aQ 7=VI i) (fun i=>n-i) 0
    ⟨aK1 _,hTs.congr fun a c _ _=>(if_neg (Nat.not_lt_zero a)).symm,hOs,by (repeat' apply aMd)<;>first | rfl | trivial | assumption⟩ ?_
   clear g0 g4 g5 g6 hTs hOs
   rintro i ρ H2 ⟨bW,Q9,Q3,g0,g4,g5,g7⟩
   have hg:=hgk k hk
   have bits:∀a c,a<n→c<n+1→aK (Hv A' Ie n a c)≤343597383684:=fun a c ha hc=>by
    rcases aKA c n with h | h
    ·rw[Iy h]
     have:=Yq.z.bits ha h
     omega
    ·rw[show c=n by omega,Zd]
     have:=Yq.right hX (by omega) ha
     omega
   by_cases Vu:(i:Int)<(n:Int)
   ·have uU:i<n:=by omega
    by_cases V9:(i:Int)=(k:Int)
    ·obtain rfl:k=i:=by omega
     simp only[oA,g0,g4,g5,g7,Vu,wn k (by omega),eq_self,decide_true,dS,VX,Nat.reduceEqDiff,Nat.reduceAdd,Nat.reduceLeDiff,Nat.reduceLT,Nat.reduceSub]
     exact⟨k+1,by omega,by omega,Q9.congr fun _ _ _ _=>UQ (.inl rfl),Q3,by (repeat' apply aMd)<;>first | rfl | trivial | assumption⟩
    ·have azX:i≠k:=by omega
     have a2:=Q9.addr (c:=c) uU
     obtain⟨rb2,rg2,rc2,d1,d2,d3,_⟩:=Q9.spot (i:=i) (j:=k) uU (by omega) iY pL
     have d3:=(d3 true).trans (cH _)
     rw[Tj,Iy oG] at d3
     have SN:=rB (A' i k)
     by_cases NJ:A' i k=0
     ·rw[decide_eq_true NJ] at SN
      simp only[oA,g0,g4,g5,g7,Vu,V9,a2,d1,d2,d3,SN,wn i (by omega),dS,VX,Nat.reduceEqDiff,Nat.reduceAdd,Nat.reduceLeDiff,Nat.reduceLT,Nat.reduceSub]
      exact⟨i+1,by omega,by omega,Q9.congr fun _ _ _ _=>UQ (.inr NJ),Q3,by (repeat' apply aMd)<;>first | rfl | trivial | assumption⟩
     ·rw[decide_eq_false NJ] at SN
      have a3:=Q9.addr (c:=c) oG
      obtain⟨rb3,rg3,rc3,d4,d5,d6,_⟩:=Q9.spot (i:=k) (j:=k) oG (by omega) iY pL
      have d6:=(d6 true).trans (cH _)
      rw[aaA,Iy oG] at d6
      have bik:=Yq.z.bits uU oG
      have bkk:=Yq.z.bits oG oG
      have ef:=AV (A' i k) (A' k k) Tr (by omega) (by omega)
      have bf:=Dg (A' i k) (A' k k)
      have s1:=Rj (lo:=lo) (H:=H2) (q:=A' i k / A' k k) (by have:=Q3.1;omega)
      have rf:=(lF (H:=H2) (g:=0) (es:=[aM (A' i k / A' k k)]) (e:=3) (w:=true))
      have hT3:=Q9.pre (aMr H2 [.row 0 [aM (A' i k / A' k k)] 3 true])
      have hO3:=trB Q3 (ofA (L:=[.row 0 [aM (A' i k / A' k k)] 3 true]))
      have hH2:hi≤H2.length:=aKy hhi Q3.1
      simp only[oA,g0,g4,g5,g7,Vu,V9,a2,a3,d1,d2,d3,d4,d5,d6,SN,ef,s1,dS,VX,Nat.reduceEqDiff,Nat.reduceAdd,Nat.reduceLeDiff,Nat.reduceLT,Nat.reduceSub]
      have hel:∀j,Hv A' Ie n i j-A' i k / A' k k*Hv A' Ie n k j=jnA k A' Ie n i j:=fun j=>(ajD azX).symm
      generalize hfq:A' i k / A' k k=fq at *
      refine aP (fun(j:Nat) aQ H4=>k≤j∧j≤n+1∧Tb aM gB hi n (n+1) b g (jnC k A' Ie n i j) H4∧(H.length≤H4.length∧∀b' g' x,(b'<gB∨hi≤b')→aG H b' g'=some x→aG H4 b' g'=some x)∧aG H4 H2.length 0=some ([aM fq],3,true)∧aQ 0 = .ref b g 0 n c∧aQ 4=VI n∧aQ 5=VI k∧aQ 7=VI i∧aQ 8 = .ptr H2.length 0 0 0∧aQ 9=VI j) (fun j=>n+1-j) k
       ⟨aKx _,by omega,hT3.congr fun _ _ _ _=>aeK (fun c hc=>Yq.u.1 k c oG hc (by omega)) oG azX,hO3,rf,by (repeat' apply aMd)<;>first | rfl | trivial | assumption⟩ ?_
      clear g0 g4 g5 g7 hT3 hO3 rf
      rintro j ρ H4 ⟨hkj,Eu,hT4,hO4,rf,g0,g4,g5,g7,g8,g9⟩
      have lf:=aA9 rf
      by_cases ajI:(j:Int)≤(n:Int)
      ·have Hh:j<n+1:=by omega
       have a4:=hT4.addr (c:=c) uU
       have a5:=hT4.addr (c:=c) oG
       obtain⟨rb4,rg4,rc4,t1,t2,t3,t4⟩:=hT4.spot (i:=i) (j:=j) uU Hh iY pL
       obtain⟨rb5,rg5,rc5,t5,t6,t7,_⟩:=hT4.spot (i:=k) (j:=j) oG Hh iY pL
       have t3:=(t3 true).trans (cH _)
       have t7:=(t7 true).trans (cH _)
       rw[arK] at t3
       rw[aqV azX] at t7
       have bij:=bits i j uU Hh
       have bkj:=bits k j oG Hh
       have em:=uF fq (Hv A' Ie n k j) (by omega) (by omega)
       have bm:=fW fq (Hv A' Ie n k j)
       have eS:=MO (Hv A' Ie n i j) (fq*Hv A' Ie n k j) (by omega) (by omega)
       rw[hel] at eS
       obtain⟨H5,t8,t9,hT5,_⟩:=t4 lo (jnA k A' Ie n i j) dR
       have hT5:=hT5.congr fun _ _ _ _=>aiZ
       have rf5:=t9.2 _ _ _ (by omega) rf
       simp only[yB,g0,g4,g5,g7,g8,g9,ajI,a4,a5,t1,t2,t3,t5,t6,t7,t8,lf,em,eS,wn j (by omega),dS,VX,Nat.reduceEqDiff,Nat.reduceAdd,Nat.reduceLeDiff,Nat.reduceLT,Nat.reduceSub]
       exact⟨j+1,by omega,by omega,by omega,hT5,trB hO4 (ofR t9),rf5,by (repeat' apply aMd)<;>first | rfl | trivial | assumption⟩
      ·have S7:j=n+1:=by omega
       subst S7
       simp only[yB,g4,g7,g9,ajI,wn i (by omega),dS,VX,Nat.reduceEqDiff,Nat.reduceAdd,Nat.reduceLeDiff,Nat.reduceLT,Nat.reduceSub]
       exact⟨i+1,by omega,by omega,hT4.congr fun _ _ _ hc=>arW hc,hO4,by (repeat' apply aMd)<;>first | rfl | trivial | assumption⟩
   ·have mI:i=n:=by omega
    subst mI
    have hU3:=Yq.step Tr oG
    simp only[oA,g4,g5,g7,Vu,wn k (by omega),dS,VX,Nat.reduceEqDiff,Nat.reduceAdd,Nat.reduceLeDiff,Nat.reduceLT,Nat.reduceSub]
    exact⟨k+1,by omega,by omega,⟨_,_,hU3,Q9.congr fun a _ ha _=>if_pos ha⟩,Q3,by (repeat' apply aMd)<;>first | rfl | trivial | assumption⟩
 ·have hke:k=n:=by omega
  subst hke
  have hg:=hgk k hk
  have e0:∀K,mR false [.bool false,.slice none 0 0,.slice none 0 0] 0 [] K=some (.ref K.length 0 0 0 0,K++[.row 0 [] 3 true]):=fun K=>mT rfl
  simp only[xY,g0,g4,g5,TU,e0,dS,VX,Nat.reduceEqDiff,Nat.reduceAdd,Nat.reduceLeDiff,Nat.reduceLT,Nat.reduceSub]
  have aE3:=trB hO1 (ofA (L:=[.row 0 [] 3 true]))
  refine aP (fun(i:Nat) aQ H2=>i≤k∧Tb aM gB hi k (k+1) b g (Hv A bb k) H2∧(H.length≤H2.length∧∀b' g' x,(b'<gB∨hi≤b')→aG H b' g'=some x→aG H2 b' g'=some x)∧aG H2 H1.length i=some ((vec i X).map aM,3,true)∧aQ 0 = .ref b g 0 k c∧aQ 4=VI k∧aQ 10 = .ref H1.length i 0 i i∧aQ 11=VI i) (fun i=>k-i) 0
   ⟨aK1 _,hT1.pre (aMr _ _),aE3,lF,by (repeat' apply aMd)<;>first | rfl | trivial | assumption⟩ ?_
  clear g0 g4 g5
  rintro i ρ H2 ⟨qI,Q9,Q3,wI,g0,g4,g10,g11⟩
  have hb:=Q9.lt
  have aIL:hi≤H1.length:=aKy hhi hO1.1
  by_cases bW:(i:Int)<(k:Int)
  ·have uU:i<k:=by omega
   have a2:=Q9.addr (c:=c) uU
   obtain⟨rb2,rg2,rc2,d1,d2,d3,_⟩:=Q9.spot (i:=i) (j:=k) uU (by omega) iY pL
   obtain⟨rb3,rg3,rc3,d4,d5,d6,_⟩:=Q9.spot (i:=i) (j:=i) uU (by omega) iY pL
   have d3:=(d3 true).trans (cH _)
   have d6:=(d6 true).trans (cH _)
   rw[Zd] at d3
   rw[Iy uU] at d6
   have RN:=Option.some.inj (d1.symm.trans d4)
   injection RN with h1 h2 _ _ h5
   subst h1 h2 h5
   have bii:=Ux.z.bits uU uU
   have bbi:=Ux.right hX (by omega) uU
   have ed:=AV (bb i) (A i i) (Ux.u.2 i uU) (by omega) (by omega)
   rw[←Ux.done uU] at ed
   have eL:∀H,mR false [.bool false,.slice none 0 0,.slice none 0 0] 1 [(0,aM (X i))] H=some (.tree [aM (X i)] (.cl 3),H):=fun H=>iX rfl rfl rfl
   have eS:∀H,cW 3 (.tree [aM (X i)] (.cl 3)) H=some [aM (X i)]:=fun H=>eV rfl rfl
   have eP:=F3 (lo:=lo) (bytes:=56) (x:=X i) wI (by rw[jM]) (by have:=hO1.1;omega) (by decide) (by decide) (by omega)
   simp only[yM,g0,g4,g10,g11,bW,a2,d1,d2,d3,d4,d5,d6,ed,eL,eS,eP,wn i (by omega),dS,VX,Nat.reduceEqDiff,Nat.reduceAdd,Nat.reduceLeDiff,Nat.reduceLT,Nat.reduceSub]
   refine⟨i+1,by omega,by omega,Q9.dC (jV.set (by omega)),⟨by rw[List.length_set];exact Q3.1,fun b' g' x xF hx=>aX (by have:=iR hx;have:=hO1.1;omega) (Q3.2 b' g' x xF hx)⟩,by rw[Bn];exact bQ wI,by (repeat' apply aMd)<;>first | rfl | trivial | assumption⟩
  ·have mI:i=k:=by omega
   subst mI
   simp only[yM,g4,g10,g11,bW,dS,VX,Nat.reduceEqDiff,Nat.reduceAdd,Nat.reduceLeDiff,Nat.reduceLT,Nat.reduceSub]
   exact⟨_,rfl,Q3.1,⟨H1.length,i,i,hO1.1,iR wI,by rw[jM],by rw[jM];exact aKx _,wI⟩,Q3.2⟩
end Go.PM
namespace Go.PM
open Go.Lib
def Zk (k:Nat) (A:Nat→Nat→Rat) (i a c:Nat):Rat:=if a<i then G8 (M9 k A) k A a c else A a c
def elC (k:Nat) (A:Nat→Nat→Rat) (i j a c:Nat):Rat:=if a=i∧c<j then G8 (M9 k A) k A i c else Zk k A i a c
def elB (k:Nat) (A:Nat→Nat→Rat) (b:Nat→Rat) (i a:Nat):Rat:=if a<i then TZ (M9 k A) k b a else b a
def bkR (A:Nat→Nat→Rat) (b X:Nat→Rat) (s i:Nat):Rat:=if s≤i then X i else b i
theorem R9 {k:Nat} {A:Nat→Nat→Rat} {a c:Nat} (h:a≤k):G8 (M9 k A) k A a c=A a c:=by
 unfold G8 M9
 rw[if_neg (by omega),aOe]
 grind
theorem QM {k:Nat} {A:Nat→Nat→Rat} {b:Nat→Rat} {a:Nat} (h:a≤k):TZ (M9 k A) k b a=b a:=by
 unfold TZ M9
 rw[if_neg (by omega),aOe]
 grind
theorem aeH {k:Nat} {A:Nat→Nat→Rat} {a c:Nat}:A a c=Zk k A (k+1) a c:=by
 unfold Zk
 split
 ·exact(R9 (by omega)).symm
 ·rfl
theorem afE {k:Nat} {A:Nat→Nat→Rat} {b:Nat→Rat} {a:Nat}:b a=elB k A b (k+1) a:=by
 unfold elB
 split
 ·exact(QM (by omega)).symm
 ·rfl
section
variable {k i:Nat} {A:Nat→Nat→Rat} {b:Nat→Rat}
theorem TH {c:Nat}:Zk k A i i c=A i c:=if_neg (aOd _)
theorem Zv {c:Nat} (h:k<i):Zk k A i k c=A k c:=by
 unfold Zk
 rw[if_pos h,R9 (aKx _)]
theorem atS:elB k A b i i=b i:=if_neg (aOd _)
theorem apT (h:k<i):elB k A b i k=b k:=by
 unfold elB
 rw[if_pos h,QM (aKx _)]
theorem alE (h:A i k=0) {c:Nat}:G8 (M9 k A) k A i c=A i c:=by
 unfold G8 M9
 split
 ·rw[h,Rat.div_def,aOe,aOe];grind
 ·rw[aOe];grind
theorem ajZ (h:A i k=0):TZ (M9 k A) k b i=b i:=by
 unfold TZ M9
 split
 ·rw[h,Rat.div_def,aOe,aOe];grind
 ·rw[aOe];grind
theorem ahP (h:A i k=0) {a c:Nat}:Zk k A i a c=Zk k A (i+1) a c:=by
 unfold Zk
 by_cases h1:a<i
 ·rw[if_pos h1,if_pos (by omega)]
 ·rw[if_neg h1]
  by_cases h2:a=i
  ·subst h2
   rw[if_pos (by omega),alE h]
  ·rw[if_neg (by omega)]
theorem agV (h:A i k=0) {a:Nat}:elB k A b i a=elB k A b (i+1) a:=by
 unfold elB
 by_cases h1:a<i
 ·rw[if_pos h1,if_pos (by omega)]
 ·rw[if_neg h1]
  by_cases h2:a=i
  ·subst h2
   rw[if_pos (by omega),ajZ h]
  ·rw[if_neg (by omega)]
theorem ajQ (h:k<i) {c:Nat}:G8 (M9 k A) k A i c=A i c-A i k / A k k*A k c:=by
 unfold G8 M9
 rw[if_pos h]
theorem axI (h:k<i):TZ (M9 k A) k b i=b i-A i k / A k k*b k:=by
 unfold TZ M9
 rw[if_pos h]
theorem abF (hz:∀c,c<k→A k c=0) (h:k<i) {a c:Nat}:Zk k A i a c=elC k A i k a c:=by
 unfold elC
 by_cases h1:a=i∧c<k
 ·obtain⟨rfl,h2⟩:=h1
  rw[if_pos ⟨rfl,h2⟩,TH,ajQ h,hz c h2]
  grind
 ·rw[if_neg h1]
theorem ajY {j a c:Nat}:PQ (elC k A i j) i j (G8 (M9 k A) k A i j) a c=elC k A i (j+1) a c:=by
 unfold PQ elC
 by_cases h1:a=i∧c=j
 ·obtain⟨rfl,rfl⟩:=h1
  rw[if_pos ⟨rfl,rfl⟩,if_pos ⟨rfl,by omega⟩]
 ·rw[if_neg h1]
  by_cases h2:a=i∧c<j
  ·rw[if_pos h2,if_pos ⟨h2.1,by omega⟩]
  ·rw[if_neg h2,if_neg (by omega)]
theorem aqW {n a c:Nat} (hc:c<n):elC k A i n a c=Zk k A (i+1) a c:=by
 unfold elC
 by_cases h1:a=i∧c<n
 ·obtain⟨rfl,_⟩:=h1
  rw[if_pos ⟨rfl,hc⟩]
  unfold Zk
  rw[if_pos (by omega)]
 ·rw[if_neg h1]
  unfold Zk
  by_cases h2:a<i
  ·rw[if_pos h2,if_pos (by omega)]
  ·rw[if_neg h2,if_neg (by omega)]
theorem arA {j:Nat}:elC k A i j i j=A i j:=by
 unfold elC
 rw[if_neg (by omega),TH]
theorem aqT {j c:Nat} (h:k<i):elC k A i j k c=A k c:=by
 unfold elC
 rw[if_neg (by omega),Zv h]
theorem ajO {a:Nat}:zK (elB k A b i) i (TZ (M9 k A) k b i) a=elB k A b (i+1) a:=by
 unfold zK elB
 by_cases h1:a=i
 ·subst h1
  rw[if_pos rfl,if_pos (by omega)]
 ·rw[if_neg h1]
  by_cases h2:a<i
  ·rw[if_pos h2,if_pos (by omega)]
  ·rw[if_neg h2,if_neg (by omega)]
theorem aEo {m:Nat} {a:Nat}:zK (zK b k (b m)) m (b k) a=swp k m b a:=by
 unfold zK swp
 by_cases h1:a=m
 ·subst h1
  rw[if_pos rfl]
  by_cases h2:a=k
  ·subst h2;rw[if_pos rfl]
  ·rw[if_neg h2,if_pos rfl]
 ·rw[if_neg h1]
  by_cases h2:a=k
  ·rw[if_pos h2,if_pos h2]
  ·rw[if_neg h2,if_neg h2,if_neg h1]
end
set_option maxHeartbeats 16000000 in
set_option maxRecDepth 30000 in
theorem TM {lo gB hi n b g c rb rg rc G η:Nat} {H:aA} {A0:Nat→Nat→Rat} {b0 X:Nat→Rat} (hS:Sy aF gB hi n b g rb rg A0 b0 H) (hU:XI n 0 G A0 b0 X) (hX:dG η n X) (hn:n≤12) (hG:2^n*(G+1)≤68719476736) (hη:η≤274877906944) (dR:lo≤gB) (Bo:lo≤rb) (hlH:lo≤H.length) (hhi:hi≤H.length) (BY:rb<H.length) :
  jE 118 [.ref b g 0 n c,.ref rb rg 0 n rc] lo H fun r H'=>r = .eG [.ref rb rg 0 n rc,VB true]∧C1 gB hi rb H H'∧Rw aF rb rg n X H':=by
 refine jE.walk ⟨true,false⟩ TR (aMl rfl) ?_
 have el:=hS.t.len (c:=c)
 simp only[N6,Jj,el,dS,VX,Nat.reduceEqDiff,Nat.reduceAdd,Nat.reduceLeDiff,Nat.reduceLT,Nat.reduceSub]
 have hgk:∀k,k≤n→gk G k≤68719476736:=fun k hk=>aKy (auV hk) hG
 have wn:∀k:Nat,k≤n→IntKind.i64.wrap ((k:Int)+1)=((k+1:Nat):Int):=fun k hk=>wN _ (by omega) (by omega)
 refine aP (fun(k:Nat) ρ H1=>k≤n∧(∃A bb,XI n k (gk G k) A bb X∧Sy aF gB hi n b g rb rg A bb H1)∧C1 gB hi rb H H1∧ρ 0 = .ref b g 0 n c∧ρ 1 = .ref rb rg 0 n rc∧ρ 6=VI n∧ρ 16=VI n∧ρ 17=VI k) (fun k=>n-k) 0
  ⟨aK1 _,⟨A0,b0,hU,hS⟩,C1.refl,by (repeat' apply aMd)<;>first | rfl | trivial | assumption⟩ ?_
 rintro k ρ H1 ⟨hk,⟨A,bb,Ux,hS1⟩,hO1,g0,g1,g6,g16,g17⟩
 by_cases TU:(k:Int)<(n:Int)
 ·
  have oG:k<n:=by omega
  obtain⟨pm,hp1,hp2,hp3⟩:=Ux.f.ahJ oG Ux.u
  simp only[Cw,g0,g1,g6,g16,g17,TU,dS,VX,Nat.reduceEqDiff,Nat.reduceAdd,Nat.reduceLeDiff,Nat.reduceLT,Nat.reduceSub]
  refine aP (fun(m:Nat) aQ H2=>H2=H1∧k≤m∧m≤n∧(∀r,k≤r→r<m→A r k=0)∧aQ 0 = .ref b g 0 n c∧aQ 1 = .ref rb rg 0 n rc∧aQ 6=VI n∧aQ 7=VI k∧aQ 8=VI m∧aQ 16=VI n∧aQ 17=VI k) (fun m=>n-m) k
   ⟨rfl,aKx _,hk,fun r h1 h2=>by omega,by (repeat' apply aMd)<;>first | rfl | trivial | assumption⟩ ?_
  clear g0 g1 g6 g16 g17
  rintro m ρ H2 ⟨rfl,hkm,hmn,hzero,g0,g1,g6,g7,g8,g16,g17⟩
  have hm:m<n:=by
   rcases aKA m n with h | h
   ·exact h
   ·exact absurd (hzero pm hp1 (by omega)) hp3
  have ahZ:(m:Int)<(n:Int):=by omega
  have a1:=hS1.t.addr (c:=c) hm
  obtain⟨p1,q1,c1,c2,c3,_⟩:=hS1.spot hm oG dD fM
  have c3:=(c3 true).trans (bI _)
  have es:=dI (A m k)
  by_cases hz:jJ (A m k)=0
  ·have Cy:=zE.1 hz
   simp only[CC,g0,g6,g7,g8,ahZ,a1,c1,c2,c3,es,hz,wn m hmn,dS,VX,Nat.reduceEqDiff,Nat.reduceAdd,Nat.reduceLeDiff,Nat.reduceLT,Nat.reduceSub]
   exact⟨m+1,by omega,by omega,by omega,fun r h1 h2=>by
    rcases aKA r m with h | h
    ·exact hzero r h1 h
    ·rw[show r=m by omega]
     exact Cy,by (repeat' apply aMd)<;>first | rfl | trivial | assumption⟩
  ·have hmk:A m k≠0:=fun h=>hz (zE.2 h)
   have fS:¬(m:Int)=(n:Int):=by omega
   have Yq:=Ux.swp hkm hm
   have Tr:swp k m A k k≠0:=by unfold Go.PM.swp;rw[if_pos rfl];exact hmk
   obtain⟨u,v,e1,e2,e3⟩:=hS1.t.swap oG hm
   obtain rfl:p1=v:=Option.some.inj (c1.symm.trans e2)
   obtain⟨Ha,Hb,e4,e5,e6,e7,e8,e9⟩:=e3 lo dR
   have ak:=hS1.t.addr (c:=c) oG
   have r1:=hS1.r.addr (c:=rc) hm
   have r2:=(hS1.r.get hm true).trans (bI _)
   have r3:=hS1.r.addr (c:=rc) oG
   have r4:=(hS1.r.get oG true).trans (bI _)
   have hSb:Sy aF gB hi n b g rb rg (Go.PM.swp k m A) bb Hb:=⟨e9,e8.2 _ _ _ hS1.d hS1.r,hS1.d⟩
   have r5:=hSb.r.addr (c:=rc) oG
   obtain⟨Hc,f1,f2,hSc⟩:=hSb.put oG Bo dD fM (bb m)
   have r6:=hSc.r.addr (c:=rc) hm
   obtain⟨Hd,f3,f4,hSd⟩:=hSc.put hm Bo dD fM (bb k)
   have hSd:=hSd.congr (fun _ _ _ _=>rfl) fun a _=>aEo (k:=k) (m:=m) (b:=bb)
   have hOd:C1 gB hi rb H Hd:=((hO1.trans e8.aBq).trans f2).trans f4
   generalize hA':Go.PM.swp k m A=A' at *
   generalize xF:Go.PM.swp k m bb=Ie at *
   simp only[CC,g0,g1,g6,g7,g8,ahZ,a1,c1,c2,c3,es,hz,fS,e1,e2,e4,e5,e6,ak,r1,r2,r3,r4,r5,r6,f1,f3,wn k hk,bI,dS,VX,Nat.reduceEqDiff,Nat.reduceAdd,Nat.reduceLeDiff,Nat.reduceLT,Nat.reduceSub]
   refine aP (fun(i:Nat) aQ H2=>k+1≤i∧i≤n∧Sy aF gB hi n b g rb rg (Zk k A' i) (elB k A' Ie i) H2∧C1 gB hi rb H H2∧aQ 0 = .ref b g 0 n c∧aQ 1 = .ref rb rg 0 n rc∧aQ 6=VI n∧aQ 7=VI k∧aQ 9=VI i∧aQ 16=VI n∧aQ 17=VI k) (fun i=>n-i) (k+1)
    ⟨aKx _,by omega,hSd.congr (fun _ _ _ _=>aeH) fun _ _=>afE,hOd,by (repeat' apply aMd)<;>first | rfl | trivial | assumption⟩ ?_
   clear g0 g1 g6 g7 g8 g16 g17 hSd hOd f3 f4 r6 hSc f1 f2 r5 hSb
   rintro i ρ H2 ⟨hki,bW,hS2,Q3,g0,g1,g6,g7,g9,g16,g17⟩
   have hg:=hgk k hk
   by_cases Vu:(i:Int)<(n:Int)
   ·have uU:i<n:=by omega
    have a2:=hS2.t.addr (c:=c) uU
    obtain⟨p2,q2,d1,d2,d3,_⟩:=hS2.spot uU oG dD fM
    have d3:=(d3 true).trans (bI _)
    rw[TH] at d3
    have SN:=dI (A' i k)
    by_cases NJ:jJ (A' i k)=0
    ·have Cy:=zE.1 NJ
     simp only[yZ,g0,g1,g6,g7,g9,Vu,a2,d1,d2,d3,SN,NJ,wn i bW,dS,VX,Nat.reduceEqDiff,Nat.reduceAdd,Nat.reduceLeDiff,Nat.reduceLT,Nat.reduceSub]
     exact⟨i+1,by omega,by omega,by omega,hS2.congr (fun _ _ _ _=>ahP Cy) fun _ _=>agV Cy,Q3,by (repeat' apply aMd)<;>first | rfl | trivial | assumption⟩
    ·have a3:=hS2.t.addr (c:=c) oG
     obtain⟨p3,q3,d4,d5,d6,_⟩:=hS2.spot oG oG dD fM
     have d6:=(d6 true).trans (bI _)
     rw[Zv (by omega)] at d6
     have bik:=Yq.z.bits uU oG
     have bkk:=Yq.z.bits oG oG
     have ef:=Af (A' i k) (A' k k) Tr (by omega) (by omega)
     have bf:=Dg (A' i k) (A' k k)
     have abO:rb<H2.length:=iR (x:=((vec n (elB k A' Ie i)).map aF,3,true)) hS2.r
     have s1:=Jn (lo:=lo) (H:=H2) (q:=A' i k / A' k k) (by have:=Q3.1;omega)
     have rf:=(lF (H:=H2) (g:=0) (es:=[aF (A' i k / A' k k)]) (e:=3) (w:=true))
     have YA:=hS2.app (L:=[.row 0 [aF (A' i k / A' k k)] 3 true])
     have hO3:=Q3.trans (C1.app (L:=[.row 0 [aF (A' i k / A' k k)] 3 true]))
     have hH2:hi≤H2.length:=aKy hhi Q3.1
     simp only[yZ,g0,g1,g6,g7,g9,Vu,a2,a3,d1,d2,d3,d4,d5,d6,SN,NJ,ef,s1,dS,VX,Nat.reduceEqDiff,Nat.reduceAdd,Nat.reduceLeDiff,Nat.reduceLT,Nat.reduceSub]
     generalize hfq:A' i k / A' k k=fq at *
     refine aP (fun(j:Nat) aQ H4=>k≤j∧j≤n∧Sy aF gB hi n b g rb rg (elC k A' i j) (elB k A' Ie i) H4∧C1 gB hi rb H H4∧aG H4 H2.length 0=some ([aF fq],3,true)∧aQ 0 = .ref b g 0 n c∧aQ 1 = .ref rb rg 0 n rc∧aQ 6=VI n∧aQ 7=VI k∧aQ 9=VI i∧aQ 10 = .ptr H2.length 0 0 0∧aQ 11=VI j∧aQ 16=VI n∧aQ 17=VI k) (fun j=>n-j) k
      ⟨aKx _,hk,YA.congr (fun _ _ _ _=>abF (fun c hc=>Yq.u.1 k c oG hc hc) (by omega)) fun _ _=>rfl,hO3,rf,by (repeat' apply aMd)<;>first | rfl | trivial | assumption⟩ ?_
     clear g0 g1 g6 g7 g9 g16 g17 YA hO3 rf
     rintro j ρ H4 ⟨hkj,Eu,hS4,hO4,rf,g0,g1,g6,g7,g9,g10,g11,g16,g17⟩
     have lf:bF true 3 (.ptr H2.length 0 0 0) H4=some (aF fq):=by rw[bK,rf];exact bI _
     by_cases ajI:(j:Int)<(n:Int)
     ·have Hh:j<n:=by omega
      have a4:=hS4.t.addr (c:=c) uU
      have a5:=hS4.t.addr (c:=c) oG
      obtain⟨p4,q4,t1,t2,t3,t4⟩:=hS4.spot uU Hh dD fM
      obtain⟨p5,q5,t5,t6,t7,_⟩:=hS4.spot oG Hh dD fM
      have t3:=(t3 true).trans (bI _)
      have t7:=(t7 true).trans (bI _)
      rw[arA] at t3
      rw[aqT (by omega)] at t7
      have bij:=Yq.z.bits uU Hh
      have bkj:=Yq.z.bits oG Hh
      have em:=jO fq (A' k j) (by omega) (by omega)
      have bm:=fW fq (A' k j)
      have eS:=Be (A' i j) (fq*A' k j) (by omega) (by omega)
      have hel:A' i j-fq*A' k j=G8 (M9 k A') k A' i j:=by rw[ajQ (by omega),hfq]
      rw[hel] at eS
      obtain⟨H5,t8,t9,X4⟩:=t4 lo (G8 (M9 k A') k A' i j) dR
      have X4:=X4.congr (fun _ _ _ _=>ajY) fun _ _=>rfl
      have rf5:=t9.2 _ _ _ (by omega) (by omega) rf
      simp only[CO,g0,g6,g7,g9,g10,g11,ajI,a4,a5,t1,t2,t3,t5,t6,t7,t8,lf,em,eS,wn j Eu,dS,VX,Nat.reduceEqDiff,Nat.reduceAdd,Nat.reduceLeDiff,Nat.reduceLT,Nat.reduceSub]
      exact⟨j+1,by omega,by omega,by omega,X4,hO4.trans t9,rf5,by (repeat' apply aMd)<;>first | rfl | trivial | assumption⟩
     ·have S7:j=n:=by omega
      subst S7
      have hS4:=hS4.congr (fun _ c _ hc=>aqW hc) fun _ _=>rfl
      have r7:=hS4.r.addr (c:=rc) uU
      have r8:=(hS4.r.get uU true).trans (bI _)
      have r9:=hS4.r.addr (c:=rc) oG
      have r10:=(hS4.r.get oG true).trans (bI _)
      rw[atS] at r8
      rw[apT (by omega)] at r10
      have bbi:=Yq.right hX (by omega) uU
      have bbk:=Yq.right hX (by omega) oG
      have em:=jO fq (Ie k) (by omega) (by omega)
      have bm:=fW fq (Ie k)
      have eS:=Be (Ie i) (fq*Ie k) (by omega) (by omega)
      have hel:Ie i-fq*Ie k=TZ (M9 k A') k Ie i:=by rw[axI (by omega),hfq]
      rw[hel] at eS
      obtain⟨H5,t8,t9,X4⟩:=hS4.put uU Bo dD fM (TZ (M9 k A') k Ie i)
      have X4:=X4.congr (fun _ _ _ _=>rfl) fun _ _=>ajO
      simp only[CO,g0,g1,g6,g7,g9,g10,g11,ajI,r7,r8,r9,r10,lf,em,eS,t8,wn i bW,dS,VX,Nat.reduceEqDiff,Nat.reduceAdd,Nat.reduceLeDiff,Nat.reduceLT,Nat.reduceSub]
      exact⟨i+1,by omega,by omega,by omega,X4,hO4.trans t9,by (repeat' apply aMd)<;>first | rfl | trivial | assumption⟩
   ·have mI:i=n:=by omega
    subst mI
    have hU3:=Yq.step Tr oG
    simp only[yZ,g6,g9,g17,Vu,wn k hk,dS,VX,Nat.reduceEqDiff,Nat.reduceAdd,Nat.reduceLeDiff,Nat.reduceLT,Nat.reduceSub]
    exact⟨k+1,by omega,by omega,⟨_,_,hU3,hS2.congr (fun a _ ha _=>if_pos ha) fun a ha=>if_pos ha⟩,Q3,by (repeat' apply aMd)<;>first | rfl | trivial | assumption⟩
 ·have hke:k=n:=by omega
  subst hke
  have hg:=hgk k hk
  have w0:IntKind.i64.wrap ((k:Int)-1)=(k:Int)-1:=wrap64 (by omega) (by omega)
  simp only[Cw,g0,g1,g6,g16,g17,TU,w0,dS,VX,Nat.reduceEqDiff,Nat.reduceAdd,Nat.reduceLeDiff,Nat.reduceLT,Nat.reduceSub]
  refine aP (fun(s:Nat) aQ H2=>s≤k∧Sy aF gB hi k b g rb rg A (bkR A bb X s) H2∧C1 gB hi rb H H2∧aQ 0 = .ref b g 0 k c∧aQ 1 = .ref rb rg 0 k rc∧aQ 6=VI k∧aQ 12=VI ((s:Int)-1)) (fun s=>s) k
   ⟨aKx _,hS1.congr (fun _ _ _ _=>rfl) fun a ha=>(if_neg (by omega)).symm,hO1,by (repeat' apply aMd)<;>first | rfl | trivial | assumption⟩ ?_
  clear g0 g1 g6 g16 g17
  rintro s ρ H2 ⟨hs,hS2,Q3,g0,g1,g6,g12⟩
  by_cases hs0:(0:Int)≤(s:Int)-1
  ·obtain⟨t,rfl⟩:∃t,s=t+1:=⟨s-1,by omega⟩
   have hx:((t+1:Nat):Int)-1=(t:Int):=by omega
   rw[hx] at g12 hs0
   have Ri:t<k:=by omega
   have hts:(0:Int)≤(t:Int):=by omega
   simp only[CH,g0,g1,g6,g12,hts,wn t (by omega),dS,VX,Nat.reduceEqDiff,Nat.reduceAdd,Nat.reduceLeDiff,Nat.reduceLT,Nat.reduceSub]
   refine aP (fun(j:Nat) aQ H3=>t+1≤j∧j≤k∧Sy aF gB hi k b g rb rg A (zK (bkR A bb X (t+1)) t (bk A bb X t j)) H3∧C1 gB hi rb H H3∧aQ 0 = .ref b g 0 k c∧aQ 1 = .ref rb rg 0 k rc∧aQ 6=VI k∧aQ 12=VI t∧aQ 13=VI j) (fun j=>k-j) (t+1)
    ⟨aKx _,by omega,hS2.congr (fun _ _ _ _=>rfl) fun a ha=>by
     unfold zK
     by_cases h:a=t
     ·subst h
      rw[if_pos rfl,aiN]
      unfold bkR
      exact if_neg (by omega)
     ·rw[if_neg h],Q3,by (repeat' apply aMd)<;>first | rfl | trivial | assumption⟩ ?_
   clear g0 g1 g6 g12
   rintro j ρ H3 ⟨htj,TO,YA,hO3,g0,g1,g6,g12,g13⟩
   by_cases Eu:(j:Int)<(k:Int)
   ·have Hh:j<k:=by omega
    have r7:=YA.r.addr (c:=rc) Ri
    have r8:=(YA.r.get Ri true).trans (bI _)
    have r9:=YA.r.addr (c:=rc) Hh
    have r10:=(YA.r.get Hh true).trans (bI _)
    rw[show zK (bkR A bb X (t+1)) t (bk A bb X t j) t=bk A bb X t j from if_pos rfl] at r8
    rw[show zK (bkR A bb X (t+1)) t (bk A bb X t j) j=X j by unfold zK bkR;rw[if_neg (by omega),if_pos (by omega)]] at r10
    have a4:=YA.t.addr (c:=c) Ri
    obtain⟨p4,q4,t1,t2,t3,_⟩:=YA.spot Ri Hh dD fM
    have t3:=(t3 true).trans (bI _)
    have btj:=Ux.z.bits Ri Hh
    have bxj:=hX.bits Hh
    have bp:=Ux.part hX (by omega) Ri htj TO
    have em:=jO (A t j) (X j) (by omega) (by omega)
    have bm:=fW (A t j) (X j)
    have eS:=Be (bk A bb X t j) (A t j*X j) (by omega) (by omega)
    rw[←asE] at eS
    obtain⟨H5,t8,t9,X4⟩:=YA.put Ri Bo dD fM (bk A bb X t (j+1))
    have X4:=X4.congr (fun _ _ _ _=>rfl) (Ie:=zK (bkR A bb X (t+1)) t (bk A bb X t (j+1))) fun a _=>by
     unfold zK
     by_cases h:a=t
     ·rw[if_pos h,if_pos h]
     ·rw[if_neg h,if_neg h,if_neg h]
    simp only[CI,g0,g1,g6,g12,g13,Eu,r7,r8,r9,r10,a4,t1,t2,t3,em,eS,t8,wn j TO,dS,VX,Nat.reduceEqDiff,Nat.reduceAdd,Nat.reduceLeDiff,Nat.reduceLT,Nat.reduceSub]
    exact⟨j+1,by omega,by omega,by omega,X4,hO3.trans t9,by (repeat' apply aMd)<;>first | rfl | trivial | assumption⟩
   ·have S7:j=k:=by omega
    subst S7
    have r7:=YA.r.addr (c:=rc) Ri
    have r8:=(YA.r.get Ri true).trans (bI _)
    rw[show zK (bkR A bb X (t+1)) t (bk A bb X t j) t=bk A bb X t j from if_pos rfl] at r8
    have a4:=YA.t.addr (c:=c) Ri
    obtain⟨p4,q4,t1,t2,t3,_⟩:=YA.spot Ri Ri dD fM
    have t3:=(t3 true).trans (bI _)
    have btt:=Ux.z.bits Ri Ri
    have bp:=Ux.part hX (by omega) Ri htj (aKx _)
    have ed:=Af (bk A bb X t j) (A t t) (Ux.u.2 t Ri) (by omega) (by omega)
    rw[←Ux.back Ri] at ed
    obtain⟨H5,t8,t9,X4⟩:=YA.put Ri Bo dD fM (X t)
    have X4:=X4.congr (fun _ _ _ _=>rfl) (Ie:=bkR A bb X t) fun a _=>by
     unfold zK bkR
     by_cases h:a=t
     ·subst h;rw[if_pos rfl,if_pos (aKx _)]
     ·rw[if_neg h,if_neg h]
      by_cases h2:t+1≤a
      ·rw[if_pos h2,if_pos (by omega)]
      ·rw[if_neg h2,if_neg (by omega)]
    have wt:IntKind.i64.wrap ((t:Int)-1)=(t:Int)-1:=wrap64 (by omega) (by omega)
    simp only[CI,g0,g1,g6,g12,g13,Eu,r7,r8,a4,t1,t2,t3,ed,t8,wt,dS,VX,Nat.reduceEqDiff,Nat.reduceAdd,Nat.reduceLeDiff,Nat.reduceLT,Nat.reduceSub]
    exact⟨t,by omega,by omega,X4,hO3.trans t9,by (repeat' apply aMd)<;>first | rfl | trivial | assumption⟩
  ·have hse:s=0:=by omega
   subst hse
   simp only[CH,g1,g12,hs0,dS,VX,Nat.reduceEqDiff,Nat.reduceAdd,Nat.reduceLeDiff,Nat.reduceLT,Nat.reduceSub]
   exact⟨Q3,hS2.r.congr fun a _=>if_pos (aK1 _)⟩
end Go.PM
namespace Go.PM
theorem Zr (q:Rat):q*((q.den:Int):Rat)=((q.num:Int):Rat):=by
 have h1:mkRat q.num q.den=q:=Rat.mkRat_self q
 rw[Rat.mkRat_eq_div] at h1
 have h2:((q.den:Nat):Rat)≠0:=by
  have:=q.den_nz
  exact_mod_cast this
 rw[Rat.intCast_natCast]
 grind
theorem common {β:Nat} {f:Nat→Rat}:∀ {K:Nat},(∀k,k<K→aK (f k)≤β)→∃s:Int,s≠0∧s.natAbs<2^(K*β+1)∧∀k,k<K→DA s (K*β+1) (f k)
 | 0,_=>⟨1,by decide,by simp,fun k hk=>absurd hk (Nat.not_lt_zero _)⟩
 |
  K+1,h=>by
  obtain⟨s,h1,h2,h3⟩:=common (K:=K) fun k hk=>h k (by omega)
  have hK:=h K (by omega)
  have hd:(f K).den<2^β:=aKz (HH _) (aMA (by decide) (aKy oB hK))
  have hn:(f K).num.natAbs<2^β:=aKz (HH _) (aMA (by decide) (aKy qB hK))
  have e:2^((K+1)*β+1)=2^(K*β+1)*2^β:=by rw[←Nat.pow_add];congr 1;rw[aK2];omega
  have ayN:((f K).den:Int)≠0:=by have:=(f K).den_nz;omega
  refine⟨s*((f K).den:Int),aOf h1 ayN,?_,fun k hk => ?_⟩
  ·rw[aNb,e,aNc]
   exact aN6 h2 hd
  ·by_cases hkK:k=K
   ·subst hkK
    refine⟨(f k).num*s,?_,?_⟩
    ·have hm:f k*(((f k).den:Int):Rat)=(((f k).num:Int):Rat):=Zr (f k)
     rw[aN7,aN7,←hm]
     grind
    ·rw[aNb,e,aLZ]
     exact aN6 h2 hn
   ·obtain⟨M,m1,m2⟩:=h3 k (by omega)
    refine⟨M*((f K).den:Int),?_,?_⟩
    ·rw[aN7,aN7,←m1]
     grind
    ·rw[aNb,e,aNc]
     exact aN6 m2 hd
theorem dG.of {β n:Nat} {f:Nat→Rat} (h:∀k,k<n→aK (f k)≤β):dG (n*β+1) n f:=by
 obtain⟨s,h1,h2,h3⟩:=common h
 exact⟨s,h1,h2,h3⟩
theorem dG.wide {g h n:Nat} {f:Nat→Rat} (hf:dG g n f) (hg:g≤h):dG h n f:=by
 obtain⟨s,h1,h2,h3⟩:=hf
 exact⟨s,h1,aKz h2 (aMA (by decide) hg),fun i hi=>(h3 i hi).wide hg⟩
theorem dG.times {g h n:Nat} {f:Nat→Rat} {q:Rat} (hf:dG g n f) (hq:aK q≤h):dG (g+h) n fun i=>q*f i:=by
 obtain⟨s,h1,h2,h3⟩:=hf
 have hd:q.den<2^h:=aKz (HH _) (aMA (by decide) (aKy oB hq))
 have hn:q.num.natAbs<2^h:=aKz (HH _) (aMA (by decide) (aKy qB hq))
 have ayN:(q.den:Int)≠0:=by have:=q.den_nz;omega
 have hm:q*((q.den:Int):Rat)=((q.num:Int):Rat):=Zr q
 have Oq:DA (q.den:Int) h q:=⟨q.num,hm,hn⟩
 refine⟨s*(q.den:Int),aOf h1 ayN,?_,fun i hi => ?_⟩
 ·rw[aNb,aNc,Nat.pow_add]
  exact aN6 h2 hd
 ·have:=(h3 i hi).mul Oq
  rwa [Rat.mul_comm] at this
theorem atP {n β:Nat} {F:Nat→Nat→Rat} (h:∀i j,i<n→j<n→aK (F i j)≤β):∃s:Int,s≠0∧s.natAbs<2^(n*n*β+1)∧∀i j,i<n→j<n→DA s (n*n*β+1) (F i j):=by
 obtain⟨s,h1,h2,h3⟩:=common (K:=n*n) (f:=fun k=>F (k / n) (k % n)) fun k hk=>by
  have hn:0<n:=by
   cases n with
   | zero=>omega
   | succ n=>omega
  exact h _ _ (Nat.div_lt_of_lt_mul hk) (Nat.mod_lt _ hn)
 refine⟨s,h1,h2,fun i j hi hj => ?_⟩
 have hk:i*n+j<n*n:=by
  have:(i+1)*n≤n*n:=aKY _ hi
  rw[aK2] at this
  omega
 have h4:=h3 (i*n+j) hk
 have e1:(i*n+j) / n=i:=by rw[aLZ,Nat.mul_add_div (by omega),Nat.div_eq_of_lt hj,Nat.add_zero]
 have e2:(i*n+j) % n=j:=by rw[aLZ,Nat.mul_add_mod,Nat.mod_eq_of_lt hj]
 simp only[e1,e2] at h4
 exact h4
theorem BV.atN {n g:Nat} {A:Nat→Nat→Rat} (hF:BV n A) (hS:qF g n n A) (hn:n≤16):∀(b:Nat→Rat) (h:Nat),dG h n b→∃X,eU n A b X∧dG (h+(n*n*(2*(2^n*(g+1)))+5)) n X:=by
 have aBW:∀j,∃X,eU n A (fun i=>if i=j then 1 else 0) X∧∀i,i<n→aK (X i)≤2*(2^n*(g+1)):=fun j=>by
  have hF':BV n (fun a c=>if c<n then A a c else if a=j then 1 else 0):=fun x hx=>hF x fun i hi=>by
   rw[←hx i hi]
   exact gU fun c hc=>by simp only[hc,if_true]
  have hS':qF g n (n+1) (fun a c=>if c<n then A a c else if a=j then 1 else 0):=by
   obtain⟨s,h1,h2,h3⟩:=hS
   refine⟨s,h1,h2,fun a c ha hc => ?_⟩
   by_cases hcn:c<n
   ·simp only[hcn,if_true]
    exact h3 a c ha hcn
   ·simp only[hcn,if_false]
    by_cases haj:a=j
    ·simp only[haj,if_true]
     exact⟨s,by rw[Rat.one_mul],h2⟩
    ·simp only[haj,if_false]
     exact DA.zero
  obtain⟨X,x1,x2⟩:=hF'.aiT hS'
  refine⟨X,fun i hi => ?_,x2⟩
  have h:=x1 i hi
  have e:Sg (fun c=>(if c<n then A i c else if i=j then 1 else 0)*X c) n=Sg (fun c=>A i c*X c) n:=gU fun c hc=>by simp only[hc,if_true]
  rw[e] at h
  rw[h]
  simp[rhs]
 obtain⟨C,hC⟩:∃C:Nat→Nat→Rat,∀j,eU n A (fun i=>if i=j then 1 else 0) (C j)∧∀i,i<n→aK (C j i)≤2*(2^n*(g+1)):=⟨fun j=>Classical.choose (aBW j),fun j=>Classical.choose_spec (aBW j)⟩
 obtain⟨s,s1,s2,s3⟩:=atP (n:=n) (F:=fun i j=>C j i) fun i j hi hj=>(hC j).2 i hi
 intro b h hb
 obtain⟨t,t1,t2,t3⟩:=hb
 refine⟨fun i=>Sg (fun j=>C j i*b j) n,fun i hi => ?_,s*t,aOf s1 t1,?_,fun i hi => ?_⟩
 ·have e:Sg (fun i'=>A i i'*Sg (fun j=>C j i'*b j) n) n=Sg (fun j=>b j*Sg (fun i'=>A i i'*C j i') n) n:=by
   have e1:Sg (fun i'=>A i i'*Sg (fun j=>C j i'*b j) n) n=Sg (fun i'=>Sg (fun j=>A i i'*(C j i'*b j)) n) n:=gU fun i' _=>(DS _ _ _).symm
   rw[e1,asU]
   refine gU fun j _ => ?_
   rw[←DS]
   exact gU fun i' _=>by grind
  rw[e,Pf (k:=i) hi fun j hj Ev=>by rw[(hC j).1 i hi];simp only[];rw[if_neg (by omega)];grind,(hC i).1 i hi]
  simp only[if_true]
  grind
 ·rw[aNb]
  have h2:s.natAbs*t.natAbs<2^(n*n*(2*(2^n*(g+1)))+1)*2^h:=aN6 s2 t2
  rw[←Nat.pow_add] at h2
  exact aKz h2 (aMA (by decide) (by omega))
 ·exact(DA.ahU hn fun j hj=>(s3 i j hi hj).mul (t3 j hj)).wide (by omega)
theorem aCs {f:Nat→Rat} {n:Nat} (h:∀i,i<n→0≤f i) {j:Nat} (hj:j<n):f j≤Sg f n:=by
 induction n with
 | zero=>omega
 |
  succ n ih =>
  have h0:=KK fun i (hi:i<n)=>h i (by omega)
  have hn:=h n (by omega)
  rw[Sg]
  by_cases Eu:j=n
  ·subst Eu;grind
  ·have:=ih (fun i hi=>h i (by omega)) (by omega)
   grind
theorem Tu (x:Nat→Rat):∀n,1≤n→∃m,m<n∧∀j,j<n→x j≤x m
 |
  n+1,_=>by
  by_cases hn:n=0
  ·subst hn
   exact⟨0,by decide,fun j hj=>by rw[show j=0 by omega];exact aN3⟩
  ·obtain⟨m,h1,h2⟩:=Tu x n (by omega)
   by_cases h:x m≤x n
   ·exact⟨n,by omega,fun j hj=>by
     by_cases Eu:j=n
     ·subst Eu;exact aN3
     ·exact Rat.le_trans (h2 j (by omega)) h⟩
   ·exact⟨m,by omega,fun j hj=>by
     by_cases Eu:j=n
     ·subst Eu
      have:=Rat.not_le.1 h
      grind
     ·exact h2 j (by omega)⟩
def svA (n:Nat) (G:Nat→Nat→Rat) (E:Nat→Rat) (r:Rat) (i j:Nat):Rat:=(if j=i then Sg (G i) n+E i+r else 0)-G i j
theorem Y4 {n:Nat} {G:Nat→Nat→Rat} {E x:Nat→Rat} {r:Rat} {i:Nat} (hi:i<n):Sg (fun j=>svA n G E r i j*x j) n=(Sg (G i) n+E i+r)*x i-Sg (fun j=>G i j*x j) n:=by
 have e:Sg (fun j=>svA n G E r i j*x j) n=Sg (fun j=>if j=i then (Sg (G i) n+E i+r)*x i else 0) n-Sg (fun j=>G i j*x j) n:=by
  rw[←OV]
  refine gU fun j _ => ?_
  unfold svA
  by_cases h:j=i
  ·subst h
   rw[if_pos rfl,if_pos rfl]
   grind
  ·rw[if_neg h,if_neg h]
   grind
 rw[e,Pf (k:=i) hi fun j _ hj=>if_neg hj,if_pos rfl]
theorem QS {n:Nat} {G:Nat→Nat→Rat} {E x:Nat→Rat} {r M:Rat} (hG:∀i j,0≤G i j) (hE:∀i,0≤E i) (hr:0≤r) (hx:eU n (svA n G E r) (fun _=>0) x) (hM:0<M) (hle:∀j,j<n→x j≤M) {i:Nat} (hi:i<n) (hxi:x i=M) :
  E i=0∧∀j,j<n→0<G i j→x j=M:=by
 have h1:=hx i hi
 rw[Y4 hi,hxi] at h1
 have h2:Sg (fun j=>G i j*(M-x j)) n+(E i+r)*M=0:=by
  have e:Sg (fun j=>G i j*(M-x j)) n=M*Sg (G i) n-Sg (fun j=>G i j*x j) n:=by
   rw[←DS,←OV]
   exact gU fun j _=>by grind
  rw[e]
  grind
 have h3:∀j,j<n→0≤G i j*(M-x j):=fun j hj=>aOg (hG i j) (by have:=hle j hj;grind)
 have h4:=KK h3
 have hEi:=hE i
 have h5:0≤E i*M:=aOg hEi (Rat.le_of_lt hM)
 have h6:0≤r*M:=aOg hr (Rat.le_of_lt hM)
 refine⟨?_,fun j hj hg => ?_⟩
 ·have h7:E i*M=0:=by grind
  rcases Rat.mul_eq_zero.1 h7 with h | h
  ·exact h
  ·grind
 ·have h7:=aCs h3 hj
  have h8:G i j*(M-x j)=0:=by have:=h3 j hj;grind
  rcases Rat.mul_eq_zero.1 h8 with h | h
  ·grind
  ·grind
theorem asV {n:Nat} {A:Nat→Nat→Rat} {x:Nat→Rat} (hx:eU n A (fun _=>0) x):eU n A (fun _=>0) fun i => -x i:=fun i hi=>by
 have e:Sg (fun j=>A i j * -x j) n=(-1)*Sg (fun j=>A i j*x j) n:=by
  rw[←DS]
  exact gU fun j _=>by grind
 rw[e,hx i hi]
 grind
theorem agS {n:Nat} {G:Nat→Nat→Rat} {E:Nat→Rat} {r:Rat} (hG:∀i j,0≤G i j) (hE:∀i,0≤E i) (hr:0≤r)
  (wI:∀S:Nat→Prop,(∀i j,i<n→j<n→S i→0<G i j→S j)→(∀i,i<n→S i→E i=0)→∀i,i<n→¬S i):BV n (svA n G E r):=by
 have half:∀x,eU n (svA n G E r) (fun _=>0) x→∀j,j<n→x j≤0:=fun x hx j hj=>by
  obtain⟨m,m1,m2⟩:=Tu x n (by omega)
  refine Rat.not_lt.1 fun kZ => ?_
  have hM:0<x m:=by have:=m2 j hj;grind
  refine wI (fun i=>x i=x m) (fun i k hi hk hS hg=>(QS hG hE hr hx hM m2 hi hS).2 k hk hg) (fun i hi hS=>(QS hG hE hr hx hM m2 hi hS).1) m m1 rfl
 intro x hx j hj
 have h1:=half x hx j hj
 have h2 : -x j≤0:=half _ (asV hx) j hj
 grind
section
variable {g:List (List Rat)} {e:List Rat} {n:Nat} {S:Nat→Prop}
def noS (S:Nat→Prop) (st:List Bool):Prop:=∀i,S i→st.getD i false=false
theorem aaW {st:List Bool} {i:Nat} {v:Bool} (h:noS S st) (hv:S i→v=false):noS S (st.set i v):=fun k hk=>by
 rw[aKu,List.getElem?_set]
 by_cases V9:i=k
 ·subst V9
  rw[if_pos rfl]
  by_cases hl:i<st.length
  ·rw[if_pos hl];exact hv hk
  ·rw[if_neg hl];rfl
 ·rw[if_neg V9]
  have:=h k hk
  rwa [aKu] at this
theorem JT {f:List Bool→Nat→List Bool} {st:List Bool} (h:noS S st):∀m,(∀st j,j<m→noS S st→noS S (f st j))→noS S ((List.range m).foldl f st)
 | 0,_=>h
 |
  m+1,hf=>by
  rw[rH]
  exact hf _ m (by omega) (JT h m fun st j hj=>hf st j (by omega))
theorem alR (mJ:∀i j,S i→j<n→0<(g.getD i []).getD j 0→S j) (he:∀i,S i→¬0<e.getD i 0) (m:Nat):noS S (qD g e n m):=by
 refine JT (fun i _ => ?_) m fun st _ _ h => ?_
 ·rw[aKu,List.getElem?_replicate]
  split<;>rfl
 ·refine JT h n fun st i _ h => ?_
  unfold LB RW
  refine JT (aaW h fun hi => ?_) n fun st j hj h => ?_
  ·rw[h i hi,decide_eq_false (he i hi)]
   rfl
  ·refine aaW h fun hi => ?_
   rw[h i hi,Bool.false_or]
   by_cases hg:0<(g.getD i []).getD j 0
   ·rw[h j (mJ i j hi hj hg),Bool.and_false]
   ·rw[decide_eq_false hg]
    rfl
end
end Go.PM
namespace Go.PM
theorem DA.add {s:Int} {g:Nat} {a b:Rat} (ha:DA s g a) (hb:DA s g b):DA s (g+1) (a+b):=by
 obtain⟨M,m1,m2⟩:=ha
 obtain⟨N,n1,n2⟩:=hb
 refine⟨M+N,by rw[Rat.add_mul,m1,n1,Rat.intCast_add],?_⟩
 have:=Int.natAbs_add_le M N
 rw[Nat.pow_succ]
 omega
theorem DA.neg {s:Int} {g:Nat} {a:Rat} (ha:DA s g a):DA s g (-a):=by
 obtain⟨M,m1,m2⟩:=ha
 exact⟨-M,by rw[Rat.neg_mul,m1,Rat.intCast_neg],by rw[Int.natAbs_neg];exact m2⟩
theorem dG.congr {h n:Nat} {X Y:Nat→Rat} (hX:dG h n X) (he:∀i,i<n→X i=Y i):dG h n Y:=by
 obtain⟨t,h1,h2,h3⟩:=hX
 exact⟨t,h1,h2,fun i hi=>by rw[←he i hi];exact h3 i hi⟩
abbrev EY:=List Rat×List (List Rat)×List Rat
def gE (g:List (List Rat)) (i j:Nat):Rat:=(g.getD i []).getD j 0
def eE (e:List Rat) (i:Nat):Rat:=e.getD i 0
def Qx (x:EY) (r:Rat):Nat→Nat→Rat:=svA x.1.length (gE x.2.1) (eE x.2.2) r
structure mA (x:EY):Prop where
 n:1≤x.1.length∧x.1.length≤6
 g:x.2.1.length=x.1.length
 e:x.2.2.length=x.1.length
 w:iZ x.1=true
 wb:∀q∈x.1,aK q≤665
 gr:∀r∈x.2.1,r.length=x.1.length∧∀q∈r,0≤q∧aK q≤665
 er:∀q∈x.2.2,0≤q∧aK q≤665
 gd:∀i,gE x.2.1 i i=0
 ok:Fm x=true
theorem Bd {P:Rat→Prop} {u:List Rat} (h:∀q∈u,P q) (h0:P 0) (i:Nat):P (u.getD i 0):=by
 rw[aKu]
 cases hu:u[i]? with
 | none=>exact h0
 | some q=>exact h q (aLr hu)
section
variable {x:EY} (hx:mA x)
include hx
theorem mA.TI {P:Rat→Prop} (h:∀q,0≤q∧aK q≤665→P q) (i j:Nat):P (gE x.2.1 i j):=by
 refine h _ ?_
 unfold gE
 have h0:(0:Rat)≤0∧aK 0≤665:=⟨aN3,by rw[sC];decide⟩
 rw[aKu (l:=x.2.1)]
 cases hr:x.2.1[i]? with
 | none=>exact Bd (P:=fun q=>0≤q∧aK q≤665) (u:=[]) (fun q hq=>by cases hq) h0 j
 | some r=>exact Bd (P:=fun q=>0≤q∧aK q≤665) (hx.gr r (aLr hr)).2 h0 j
theorem mA.Tf {P:Rat→Prop} (h:∀q,0≤q∧aK q≤665→P q) (i:Nat):P (eE x.2.2 i) :=
 h _ (Bd (P:=fun q=>0≤q∧aK q≤665) hx.er ⟨aN3,by rw[sC];decide⟩ i)
theorem mA.arE {r:Rat} (hr:0≤r):BV x.1.length (Qx x r):=by
 refine agS (hx.TI fun q h=>h.1) (hx.Tf fun q h=>h.1) hr fun S h1 h2 i hi hS => ?_
 have hno:=alR (g:=x.2.1) (e:=x.2.2) (n:=x.2.2.length) (S:=fun i=>i<x.1.length∧S i) (fun i j hi hj hg=>⟨by rw[←hx.e];exact hj,h1 i j hi.1 (by rw[←hx.e];exact hj) hi.2 hg⟩) (fun i hi h=>by
  have:=h2 i hi.1 hi.2
  unfold eE at this
  rw[this] at h
  exact absurd h (by decide)) x.2.2.length i ⟨hi,hS⟩
 have jW:=aKL.1 hx.ok
 have hlen:=Ea x.2.1 x.2.2 x.2.2.length x.2.2.length
 obtain⟨v,yR⟩:∃v,(qD x.2.1 x.2.2 x.2.2.length x.2.2.length)[i]? = some v:=⟨_,aKE (by rw[hlen,hx.e];exact hi)⟩
 rw[aKu,yR,aNL] at hno
 have:=jW _ (aLr yR)
 rw[hno] at this
 cases this
theorem mA.scaled {r:Rat} {K:Nat} (hK:K=43) (hr:aK r≤665):qF (K*665+9) x.1.length x.1.length (Qx x r):=by
 obtain⟨s,h1,h2,h3⟩:=common (β:=665) (K:=K) (f:=fun k=>if k<36 then gE x.2.1 (k / 6) (k % 6) else if k<42 then eE x.2.2 (k-36) else r) fun k hk=>by
  split
  ·exact hx.TI (fun q h=>h.2) _ _
  ·split
   ·exact hx.Tf (fun q h=>h.2) _
   ·exact hr
 have hn:=hx.n
 have kg:∀i j,i<6→j<6→DA s (K*665+1) (gE x.2.1 i j):=fun i j hi hj=>by
  have h:=h3 (i*6+j) (by omega)
  rw[if_pos (by omega)] at h
  have e1:(i*6+j) / 6=i:=by omega
  have e2:(i*6+j) % 6=j:=by omega
  rw[e1,e2] at h
  exact h
 have ke:∀i,i<6→DA s (K*665+1) (eE x.2.2 i):=fun i hi=>by
  have h:=h3 (36+i) (by omega)
  rw[if_neg (by omega),if_pos (by omega),show 36+i-36=i by omega] at h
  exact h
 have kr:DA s (K*665+1) r:=by
  have h:=h3 42 (by omega)
  rw[if_neg (by omega),if_neg (by omega)] at h
  exact h
 refine⟨s,h1,aKz h2 (aMA (by decide) (by omega)),fun i j hi hj => ?_⟩
 unfold Qx svA
 have e:∀a b:Rat,a-b=a + -b:=fun a b=>Rat.sub_eq_add_neg a b
 rw[e]
 have YJ:DA s (K*665+5) (Sg (gE x.2.1 i) x.1.length):=DA.ahU (by omega) fun j hj=>kg i j (by omega) (by omega)
 have hd:DA s (K*665+8) (if j=i then Sg (gE x.2.1 i) x.1.length+eE x.2.2 i+r else 0):=by
  split
  ·exact((YJ.add ((ke i (by omega)).wide (by omega))).add (kr.wide (by omega))).wide (by omega)
  ·exact DA.zero
 exact(hd.add ((kg i j (by omega) (by omega)).neg.wide (by omega)))
theorem mA.step {γ:Nat} (ZH:γ=132000000) {r:Rat} (h0:0≤r) (hr:aK r≤665) {b:Nat→Rat} {h:Nat} (hb:dG h x.1.length b):∃X,eU x.1.length (Qx x r) b X∧dG (h+γ) x.1.length X:=by
 have hn:=hx.n
 obtain⟨K,hK⟩:∃K,K=43:=⟨43,rfl⟩
 obtain⟨X,h1,h2⟩:=(hx.arE h0).atN (hx.scaled hK hr) (by omega) b h hb
 refine⟨X,h1,h2.wide ?_⟩
 have e1:2^x.1.length≤2^6:=aMA (by decide) hn.2
 have e2:2^x.1.length*(K*665+9+1)≤2^6*(K*665+9+1):=aKY _ e1
 have e3:x.1.length*x.1.length≤6*6:=Nat.mul_le_mul hn.2 hn.2
 have e4:x.1.length*x.1.length*(2*(2^x.1.length*(K*665+9+1)))≤6*6*(2*(2^6*(K*665+9+1))):=Nat.mul_le_mul e3 (Nat.mul_le_mul_left _ e2)
 have e5:6*6*(2*(2^6*(K*665+9+1)))=4608*(K*665+10):=by rw[show (2:Nat)^6=64 by decide];omega
 omega
omit hx in
theorem apX {n:Nat} {G:Nat→Nat→Rat} {E X b:Nat→Rat} (hG:∀i j,0≤G i j) (hE:∀i,0≤E i) (hX:eU n (svA n G E 0) b X) (hb:∀i,i<n→0<b i):∀i,i<n→0<X i:=fun i hi=>by
 obtain⟨m,m1,m2⟩:=Tu (fun i => - X i) n (by omega)
 have h1:=hX m m1
 rw[Y4 m1] at h1
 have h2:Sg (fun j=>G m j*(X j-X m)) n=Sg (fun j=>G m j*X j) n-X m*Sg (G m) n:=by
  rw[←DS,←OV]
  exact gU fun j _=>by grind
 have h3:0≤Sg (fun j=>G m j*(X j-X m)) n:=KK fun j hj=>aOg (hG m j) (by have:=m2 j hj;grind)
 have h4:=hb m m1
 have hm:0<X m:=by
  refine Rat.not_le.1 fun hle => ?_
  have h5:0≤E m * -X m:=aOg (hE m) (by grind)
  grind
 have:=m2 i hi
 grind
end
open Classical in
noncomputable def agW (n:Nat) (A:Nat→Nat→Rat) (b:Nat→Rat):Nat→Rat:=if h:∃X,eU n A b X then Classical.choose h else fun _=>0
theorem Uh {n:Nat} {A:Nat→Nat→Rat} {b:Nat→Rat} (h:∃X,eU n A b X):eU n A b (agW n A b):=by
 unfold agW
 rw[dif_pos h]
 exact Classical.choose_spec h
noncomputable def sL (x:EY):Nat→Nat→Rat
 | 0=>fun _=>1
 | k+1=>agW x.1.length (Qx x 0) (sL x k)
def jY:Nat→Rat
 | 0=>1
 | k+1=>jY k*((k+1:Nat):Int)
def qW (b:List Rat) (X:Nat→Rat) (n:Nat):Rat:=Sg (fun i=>b.getD i 0*X i) n
noncomputable def qX (x:EY) (k:Nat):Rat:=qW x.1 (sL x k) x.1.length*jY k
theorem mA.sol {γ:Nat} (ZH:γ=132000000) {x:EY} (hx:mA x) {r:Rat} (h0:0≤r) (hr:aK r≤665) {b:Nat→Rat} {h:Nat} (hb:dG h x.1.length b):eU x.1.length (Qx x r) b (agW x.1.length (Qx x r) b)∧dG (h+γ) x.1.length (agW x.1.length (Qx x r) b):=by
 obtain⟨X,h1,h2⟩:=hx.step ZH h0 hr hb
 have h3:=Uh ⟨X,h1⟩
 exact⟨h3,h2.congr fun i hi=>(hx.arE h0).uniq h1 h3 i hi⟩
theorem rz0:aK (0:Rat)≤665:=by rw[sC];decide
theorem mA.mom {γ:Nat} (ZH:γ=132000000) {x:EY} (hx:mA x):∀k,dG (2+γ*k) x.1.length (sL x k)
 | 0=>⟨1,by decide,Nat.one_lt_two_pow (by omega),fun i _=>⟨1,by show (1:Rat)*_=_;rw[Rat.one_mul],Nat.one_lt_two_pow (by omega)⟩⟩
 | k+1=>((mA.sol ZH hx aN3 rz0 (mA.mom ZH hx k)).2).wide (by rw[Nat.mul_add_one];omega)
theorem mA.H8 {x:EY} (hx:mA x) (k:Nat):eU x.1.length (Qx x 0) (sL x k) (sL x (k+1)):=(mA.sol rfl hx aN3 rz0 (mA.mom rfl hx k)).1
theorem Bg:∀k,k≤6→aK (jY k)≤40
 | 0,_=>by show aK 1≤_;rw[AO];decide
 |
  k+1,hk=>by
  have h:∀k,k≤6→aK (jY k)≤1+5*k:=by
   intro k
   induction k with
   | zero=>intro _;show aK 1≤_;rw[AO];decide
   |
    succ k ih =>
    intro hk
    have h1:=ih (by omega)
    have h2:=fW (jY k) ((k+1:Nat):Int)
    have h3:aK (((k+1:Nat):Int):Rat)≤5:=by
     have h4:=Db ((k+1:Nat):Int)
     have h5:bl (k+1)≤5:=xL (by omega)
     rw[aNc] at h4
     omega
    show aK (jY k*_)≤_
    omega
  have:=h (k+1) hk
  omega
theorem Ww {f:Nat→Rat} {B n:Nat} (h:∀i,i<n→aK (f i)≤B):∀m,m≤n→aK (Sg f m)≤m*(B+1)+1
 | 0,_=>by show aK 0≤_;rw[sC];omega
 |
  m+1,hm=>by
  have h1:=Ww h m (by omega)
  have h2:=vF (Sg f m) (f m)
  have h3:=h m (by omega)
  rw[Sg,aK2]
  omega
theorem mA.begun {x:EY} (hx:mA x) {X:Nat→Rat} {h:Nat} (hX:dG h x.1.length X):∀m,m≤x.1.length→aK (qW x.1 X m)≤6*(h+666)+1:=fun m hm=>by
 have h1:=Ww (f:=fun i=>x.1.getD i 0*X i) (B:=665+h) (n:=x.1.length) (fun i hi=>by
  have h2:=fW (x.1.getD i 0) (X i)
  have h3:=hX.bits hi
  have h4:aK (x.1.getD i 0)≤665:=Bd (P:=fun q=>aK q≤665) hx.wb rz0 i
  omega) m hm
 have hn:=hx.n
 have h2:m*(665+h+1)≤6*(665+h+1):=aKY _ (by omega)
 unfold qW
 omega
theorem mA.zR {x:EY} (hx:mA x) {k:Nat} (hk:k≤6):aK (qX x k)≤5000000000:=by
 obtain⟨γ,ZH⟩:∃γ,γ=132000000:=⟨132000000,rfl⟩
 have h1:=hx.begun (mA.mom ZH hx k) x.1.length (aKx _)
 have h0:γ*k≤γ*6:=Nat.mul_le_mul_left _ hk
 have h2:=fW (qW x.1 (sL x k) x.1.length) (jY k)
 have h3:=Bg k hk
 unfold qX
 omega
theorem mA.U6 {x:EY} (hx:mA x):0<qX x 1:=by
 have hp:∀i,i<x.1.length→0<sL x 1 i:=apX (hx.TI fun q h=>h.1) (hx.Tf fun q h=>h.1) (hx.H8 0) fun i _=>by show (0:Rat)<1;decide
 obtain⟨m,m1,m2⟩:=Tu (fun i => - sL x 1 i) x.1.length hx.n.1
 have hw:=hx.w
 unfold iZ at hw
 rw[Bool.and_eq_true] at hw
 have hw0:∀q∈x.1,0≤q:=fun q hq=>by
  have:=List.any_eq_false.1 (by simpa using hw.1:(x.1.any fun q=>decide (q<0))=false) q hq
  exact Rat.not_lt.1 (by simpa using this)
 have hw1:Sg (fun i=>x.1.getD i 0) x.1.length=1:=by
  have h1:=of_decide_eq_true hw.2
  have h2:=ajG x.1 0
  rw[h2] at h1
  have key:∀(n:Nat) (f:Nat→Rat),dL (vec n f)=Sg f n:=fun n f=>by
   induction n with
   | zero=>rfl
   |
    succ n ih =>
    rw[Bn,Sg,←ih]
    unfold dL
    rw[List.foldl_append]
    rfl
  rwa [key] at h1
 have h3:sL x 1 m*Sg (fun i=>x.1.getD i 0) x.1.length≤qW x.1 (sL x 1) x.1.length:=by
  rw[←DS]
  refine aB5 fun i hi => ?_
  have h4:=m2 i hi
  have h5:0≤x.1.getD i 0:=Bd (P:=fun q=>0≤q) hw0 aN3 i
  have h6:0≤x.1.getD i 0*(sL x 1 i-sL x 1 m):=aOg h5 (by grind)
  grind
 rw[hw1] at h3
 have h7:=hp m m1
 have h8:jY 1=1:=by show (1:Rat)*_=1;rw[Rat.one_mul];rfl
 unfold qX
 rw[h8]
 grind
end Go.PM
namespace Go.PM
open Go.Lib
theorem YX {qs:List Rat}:dL qs=Sg (fun i=>qs.getD i 0) qs.length:=by
 have key:∀(n:Nat) (f:Nat→Rat),dL (vec n f)=Sg f n:=fun n f=>by
  induction n with
  | zero=>rfl
  |
   succ n ih =>
   rw[Bn,Sg,←ih]
   unfold dL
   rw[List.foldl_append]
   rfl
 rw[←key,←ajG]
theorem Xy {g:List (List Rat)} {i:Nat} (hi:i<g.length):∃r,g[i]? = some r∧∀j,gE g i j=r.getD j 0:=by
 refine⟨g[i],aKE hi,fun j => ?_⟩
 unfold gE
 rw[aKu (l:=g),aKE hi]
 rfl
abbrev Ff (x:EY):VV:=Cv aF x.1 x.2.1 x.2.2
section
variable {x:EY} (hx:mA x)
include hx
theorem Ip (i:Nat) (hi:i<x.1.length):TC 136 [Ff x,VI i] (aF (Sg (gE x.2.1 i) x.1.length+eE x.2.2 i)):=by
 refine TC.walk ⟨true,false⟩ FM rfl (aMl rfl) (Lr (La _ _ _) rfl) (pO _) ?_
 obtain⟨r,hr,hg⟩:=Xy (g:=x.2.1) (i:=i) (by rw[hx.g];exact hi)
 have Mh:=hx.gr r (aLr hr)
 obtain⟨q,hq⟩:∃q,x.2.2[i]? = some q:=⟨_,aKE (by rw[hx.e];exact hi)⟩
 have hqm:=hx.er q (aLr hq)
 have hn:=hx.n
 have he:eE x.2.2 i=q:=by unfold eE;rw[aKu,hq];rfl
 have hs:Sg (gE x.2.1 i) x.1.length=dL r:=by
  rw[YX,Mh.1]
  exact gU fun j _=>hg j
 rw[he,hs]
 have a1:=fun H=>aH (f:=aC aF) (t := .op) (H:=H) (size:=1) (k := .i64) hr rfl
 have a2:=fun H=>aH (f:=aF) (t := .op) (H:=H) (size:=3) (k := .i64) hq rfl
 have l1:∀K,bF false 1 (.cI (Ff x) 1) K=some (aC (aC aF) x.2.1):=fun K=>rfl
 have l2:∀K,bF false 1 (.cI (Ff x) 2) K=some (aC aF x.2.2):=fun K=>rfl
 have l3:∀K,bF false 1 (.cI (aC aF r) 0) K=some (aC aF r):=fun K=>rfl
 have jW:(aB (Ff x)).all bO=true:=rfl
 have hsb:=El (B:=665) (n:=6) (fun q hq=>(Mh.2 q hq).2) (by omega)
 have e1:=oD (dL r) q (by omega) (by omega)
 simp only[A5,zM,jW,if_true,l1,l2,l3,a1,a2,dS,VX,Nat.reduceEqDiff,Nat.reduceAdd,Nat.reduceLeDiff,Nat.reduceLT,Nat.reduceSub]
 refine rZ rfl (OM (v:=aC aF r) r (B:=665) (Rd.tree dD) (aKx _) (fun q hq=>(Mh.2 q hq).2) (by omega) (by decide) (by omega)) fun y L hy => ?_
 subst hy
 have s1:bL 0 3 (.ptr 0 0 0 0) (aF (dL r+q)) ([cell0]++L)=some ([.row 0 [aF (dL r+q)] 3 true]++L):=by
  have Kh:aG ([cell0]++L) 0 0=some ([VV.agg [VB false,.tree [] .nil,.tree [] .nil]],3,true):=rfl
  rw[bS (e:=3) Kh (by exact aNP) (aKx _) (dD _) (fM _)]
  rfl
 have l4:bF true 3 (.ptr 0 0 0 0) ([.row 0 [aF (dL r+q)] 3 true]++L)=some (aF (dL r+q)):=by
  have Kh:aG ([fN.row 0 [aF (dL r+q)] 3 true]++L) 0 0=some ([aF (dL r+q)],3,true):=rfl
  rw[bK,Kh]
  exact bI _
 simp only[l2,a2,bI,e1,s1,l4,dS,VX,Nat.reduceEqDiff,Nat.reduceAdd,Nat.reduceLeDiff,Nat.reduceLT,Nat.reduceSub]
 exact aL (fZ _)
end
def mP (G:Nat→Nat→Rat) (i j a c:Nat):Rat:=if a<i∨(a=i∧c<j) then -G a c else 0
def mD (n:Nat) (G:Nat→Nat→Rat) (E:Nat→Rat) (r:Rat) (i a c:Nat):Rat:=if a=c∧a<i then svA n G E r a c else -G a c
section
variable {n:Nat} {G:Nat→Nat→Rat} {E:Nat→Rat} {r:Rat}
theorem asH {a c:Nat}:(0:Rat)=mP G 0 0 a c:=by unfold mP;rw[if_neg (by omega)]
theorem axV {i j a c:Nat}:PQ (mP G i j) i j (-G i j) a c=mP G i (j+1) a c:=by
 unfold PQ mP
 by_cases h:a=i∧c=j
 ·obtain⟨rfl,rfl⟩:=h
  rw[if_pos ⟨rfl,rfl⟩,if_pos (by omega)]
 ·rw[if_neg h]
  by_cases h2:a<i∨(a=i∧c<j)
  ·rw[if_pos h2,if_pos (by omega)]
  ·rw[if_neg h2,if_neg (by omega)]
theorem azG {i a c:Nat} (hc:c<n):mP G i n a c=mP G (i+1) 0 a c:=by
 unfold mP
 by_cases h2:a<i∨(a=i∧c<n)
 ·rw[if_pos h2,if_pos (by omega)]
 ·rw[if_neg h2,if_neg (by omega)]
theorem awU {a c:Nat} (ha:a<n):mP G n 0 a c=mD n G E r 0 a c:=by
 unfold mP mD
 rw[if_pos (by omega),if_neg (by omega)]
theorem axW {i:Nat}:mD n G E r i i i = -G i i:=by
 unfold mD
 rw[if_neg (by omega)]
theorem awV {i a c:Nat}:PQ (mD n G E r i) i i (-G i i+(Sg (G i) n+E i)+r) a c=mD n G E r (i+1) a c:=by
 unfold PQ mD
 by_cases h:a=i∧c=i
 ·obtain⟨rfl,rfl⟩:=h
  rw[if_pos ⟨rfl,rfl⟩,if_pos ⟨rfl,by omega⟩]
  unfold svA
  rw[if_pos rfl]
  grind
 ·rw[if_neg h]
  by_cases h2:a=c∧a<i
  ·rw[if_pos h2,if_pos ⟨h2.1,by omega⟩]
  ·rw[if_neg h2,if_neg (by omega)]
theorem azK {a c:Nat} (ha:a<n):mD n G E r n a c=svA n G E r a c:=by
 unfold mD
 by_cases h:a=c
 ·rw[if_pos ⟨h,ha⟩]
 ·rw[if_neg (by omega)]
  unfold svA
  rw[if_neg (by omega)]
  grind
end
def SB (P:Nat→Nat→aA→VV→Prop) (H:aA) (r:VV) (H':aA):Prop:=H.length≤H'.length∧(∀b g x,aG H b g=some x→aG H' b g=some x)∧P H.length H'.length H' r
theorem Cg {F lo:Nat} {args:List VV} {P:Nat→Nat→aA→VV→Prop} {H:aA} {K:VV→aA→Prop} (CM:Fv.contains F=true) (h:jE F args lo H (SB P H)) (hk:∀r H',H.length≤H'.length→(∀b g x,aG H b g=some x→aG H' b g=some x)→P H.length H'.length H' r→K r H'):dH F args lo H K :=
 fV CM (h.mono fun r H' ⟨h1,h2,h3⟩=>hk r H' h1 h2 h3)
set_option maxHeartbeats 8000000 in
set_option maxRecDepth 20000 in
theorem Fa {x:EY} (hx:mA x) {lo:Nat} {H:aA} (r:Rat) (hr:aK r≤665) (dR:lo≤H.length) :
  jE 119 [Ff x,aF r,VB false] lo H (SB (TabIs aF 3 (Ql x.1.length x.1.length (Qx x r))) H):=by
 refine jE.walk ⟨true,false⟩ Dp (aMl rfl) ?_
 have hn:=hx.n
 have jW:(aB (Ff x)).all bO=true:=rfl
 have l0:∀K,bF false 1 (.cI (Ff x) 0) K=some (aC aF x.1):=fun K=>rfl
 have l1:∀K,bF false 1 (.cI (Ff x) 1) K=some (aC (aC aF) x.2.1):=fun K=>rfl
 have ls:∀K,bF true 3 (.cI (Ff x) 0) K=some (Ff x):=fun K=>rfl
 have lr:∀K,bF true 3 (.cI (aF r) 0) K=some (aF r):=fun K=>bI r
 simp only[xM,vD,jW,fM,if_true,l0,List.length_map,dS,VX,Nat.reduceEqDiff,Nat.reduceAdd,Nat.reduceLeDiff,Nat.reduceLT,Nat.reduceSub]
 refine rZ rfl (Tx x.1.length (by omega) dR) fun z L hz => ?_
 rw[amC] at hz
 obtain⟨b,g,c,rfl,hc,hT⟩:=hz.tb
 have hhi:H.length≤(H++L).length:=(aMr H L).length_le
 have hO:(H++L).length≤(H++L).length∧∀b g x,aG H b g=some x→aG (H++L) b g=some x:=⟨aKx _,fun _ _ _ h=>eT h⟩
 generalize hHz:H++L=Hz at *
 have tr:∀ {K K':aA},(Hz.length≤K.length∧∀b g x,aG H b g=some x→aG K b g=some x)→Qt H.length Hz.length K K'→(Hz.length≤K'.length∧∀b g x,aG H b g=some x→aG K' b g=some x):=fun h o=>⟨by rw[o.1];exact h.1,fun b g x hx=>o.2 b g x (.inl (iR hx)) (h.2 b g x hx)⟩
 have hlen:=hT.len (c:=c)
 simp only[hlen,dS,VX,Nat.reduceEqDiff,Nat.reduceAdd,Nat.reduceLeDiff,Nat.reduceLT,Nat.reduceSub]
 generalize hG:gE x.2.1=G at *
 generalize hE:eE x.2.2=E at *
 generalize hnn:x.1.length=n at *
 have bG:∀i j,aK (G i j)≤665:=fun i j=>by rw[←hG];exact hx.TI (P:=fun q=>aK q≤665) (fun q h=>h.2) i j
 have wn:∀k:Nat,k≤n→IntKind.i64.wrap ((k:Int)+1)=((k+1:Nat):Int):=fun k hk=>wN _ (by omega) (by omega)
 refine aP (fun(i:Nat) ρ H1=>i≤n∧Tb aF H.length Hz.length n n b g (mP G i 0) H1∧(Hz.length≤H1.length∧∀b g x,aG H b g=some x→aG H1 b g=some x)∧ρ 2=VB false∧ρ 3 = .cI (Ff x) 0∧ρ 4 = .cI (aF r) 0∧ρ 7 = .ref b g 0 n c∧ρ 16=VI n∧ρ 17=VI i) (fun i=>n-i) 0
  ⟨aK1 _,hT.congr fun _ _ _ _=>asH,hO,by (repeat' apply aMd)<;>first | rfl | trivial | assumption⟩ ?_
 clear hT hO hlen
 rintro i ρ H1 ⟨hi,hT,hO,g2,g3,g4,g7,g16,g17⟩
 have hlen:=hT.len (c:=c)
 by_cases bW:(i:Int)<(n:Int)
 ·have uU:i<n:=by omega
  simp only[nC,g2,g3,g4,g7,g16,g17,bW,hlen,dS,VX,Nat.reduceEqDiff,Nat.reduceAdd,Nat.reduceLeDiff,Nat.reduceLT,Nat.reduceSub]
  refine aP (fun(j:Nat) ρ H2=>j≤n∧Tb aF H.length Hz.length n n b g (mP G i j) H2∧(Hz.length≤H2.length∧∀b g x,aG H b g=some x→aG H2 b g=some x)∧ρ 2=VB false∧ρ 3 = .cI (Ff x) 0∧ρ 4 = .cI (aF r) 0∧ρ 7 = .ref b g 0 n c∧ρ 8=VI i∧ρ 16=VI n∧ρ 17=VI i∧ρ 21=VI n∧ρ 22=VI j) (fun j=>n-j) 0
   ⟨aK1 _,hT,hO,by (repeat' apply aMd)<;>first | rfl | trivial | assumption⟩ ?_
  clear g2 g3 g4 g7 g16 g17 hT hO hlen
  rintro j ρ H2 ⟨hj,hT,hO,g2,g3,g4,g7,g8,g16,g17,g21,g22⟩
  by_cases Eu:(j:Int)<(n:Int)
  ·have Hh:j<n:=by omega
   obtain⟨row,lL,W7⟩:=Xy (g:=x.2.1) (i:=i) (by rw[hx.g,hnn];exact uU)
   have Mh:=hx.gr row (aLr lL)
   obtain⟨q,hq⟩:∃q,row[j]? = some q:=⟨_,aKE (by rw[Mh.1,hnn];exact Hh)⟩
   have hGq:G i j=q:=by rw[←hG,W7,aKu,hq];rfl
   have a1:=fun H=>aH (f:=aC aF) (t := .op) (H:=H) (size:=1) (k := .i64) lL rfl
   have a2:=fun H=>aH (f:=aF) (t := .op) (H:=H) (size:=3) (k := .i64) hq rfl
   have atF:∀K,bF false 1 (.cI (aC aF row) 0) K=some (aC aF row):=fun K=>rfl
   have a3:=hT.addr (c:=c) uU
   obtain⟨rb1,rg1,rc1,c1,c2,_,c4⟩:=hT.spot (i:=i) (j:=j) uU Hh dD fM
   obtain⟨H3,c5,c6,hT3,_⟩:=c4 lo (-q) dR
   have em:=Dv q
   simp only[nE,g2,g3,g7,g8,g21,g22,Eu,l1,a1,a2,atF,a3,c1,c2,c5,em,bI,wn j hj,dS,VX,Nat.reduceEqDiff,Nat.reduceAdd,Nat.reduceLeDiff,Nat.reduceLT,Nat.reduceSub]
   exact⟨j+1,by omega,by omega,hT3.congr fun _ _ _ _=>by rw[←hGq];exact axV,tr hO c6,by (repeat' apply aMd)<;>first | rfl | trivial | assumption⟩
  ·have S7:j=n:=by omega
   subst S7
   simp only[nE,g17,g21,g22,Eu,wn i hi,dS,VX,Nat.reduceEqDiff,Nat.reduceAdd,Nat.reduceLeDiff,Nat.reduceLT,Nat.reduceSub]
   exact⟨i+1,by omega,by omega,hT.congr fun _ _ _ hc=>azG hc,hO,by (repeat' apply aMd)<;>first | rfl | trivial | assumption⟩
 ·have mI:i=n:=by omega
  subst mI
  simp only[nC,g3,g4,g7,g16,g17,bW,hlen,dS,VX,Nat.reduceEqDiff,Nat.reduceAdd,Nat.reduceLeDiff,Nat.reduceLT,Nat.reduceSub]
  refine aP (fun(k:Nat) ρ H1=>k≤i∧Tb aF H.length Hz.length i i b g (mD i G E r k) H1∧(Hz.length≤H1.length∧∀b g x,aG H b g=some x→aG H1 b g=some x)∧ρ 3 = .cI (Ff x) 0∧ρ 4 = .cI (aF r) 0∧ρ 7 = .ref b g 0 i c∧ρ 59=VI i∧ρ 60=VI k) (fun k=>i-k) 0
   ⟨aK1 _,hT.congr fun _ _ ha _=>awU ha,hO,by (repeat' apply aMd)<;>first | rfl | trivial | assumption⟩ ?_
  clear g2 g3 g4 g7 g16 g17 hT hO hlen
  rintro k ρ H2 ⟨hk,hT,hO,g3,g4,g7,g59,g60⟩
  by_cases TU:(k:Int)<(i:Int)
  ·have Yj:k<i:=by omega
   have a3:=hT.addr (c:=c) Yj
   obtain⟨rb1,rg1,rc1,c1,c2,c3,c4⟩:=hT.spot (i:=k) (j:=k) Yj Yj dD fM
   have c3:=(c3 true).trans (bI _)
   rw[axW] at c3
   obtain⟨H3,c5,c6,hT3,_⟩:=c4 lo (-G k k+(Sg (G k) i+E k)+r) dR
   have eo:=Ip hx k (by rw[hnn];exact Yj)
   rw[hG,hE,hnn] at eo
   have b1:=bG k k
   have b2:aK (-G k k)≤665:=by rw[GU];exact b1
   have b3:=Ww (f:=G k) (B:=665) (n:=i) (fun j _=>bG k j) i (aKx _)
   have b4:aK (E k)≤665:=by rw[←hE];exact hx.Tf (P:=fun q=>aK q≤665) (fun q h=>h.2) k
   have b5:=vF (Sg (G k) i) (E k)
   have b6:=vF (-G k k) (Sg (G k) i+E k)
   have b7:i*(665+1)≤6*(665+1):=aKY _ (by omega)
   have e1:=oD (-G k k) (Sg (G k) i+E k) (by omega) (by omega)
   have e2:=oD (-G k k+(Sg (G k) i+E k)) r (by omega) (by omega)
   simp only[nF,g3,g4,g7,g59,g60,TU,ls,lr,a3,c1,c2,c3,c5,eo,e1,e2,wn k hk,dS,VX,Nat.reduceEqDiff,Nat.reduceAdd,Nat.reduceLeDiff,Nat.reduceLT,Nat.reduceSub]
   exact⟨k+1,by omega,by omega,hT3.congr fun _ _ _ _=>awV,tr hO c6,by (repeat' apply aMd)<;>first | rfl | trivial | assumption⟩
  ·have hke:k=i:=by omega
   subst hke
   simp only[nF,g7,g59,g60,TU,dS,VX,Nat.reduceEqDiff,Nat.reduceAdd,Nat.reduceLeDiff,Nat.reduceLT,Nat.reduceSub]
   have hT:=hT.congr fun a c ha _=>azK ha
   obtain⟨rs,h1,h2⟩:=hT
   refine⟨aKy hhi hO.1,hO.2,b,g,c,rs,by rw[B0],by rw[B0];exact hc,h1.wide (aKx _) hO.1,?_⟩
   rw[h2]
   unfold Qx
   rw[hnn,hG,hE]
end Go.PM