/- Texts of a claim, in one: part 12. -/
import Derived.KernelRfl
import Derived.Test.YtjmflicajplclaaGreatDoorKEk
open And renaming intro → aMU
open Bool renaming and_eq_true → aLM
open Int renaming le_refl → aOw,mul_ne_zero → aOt,natAbs_mul → aNj,natAbs_natCast → aNk
open List renaming append_nil → aMm,countP_append → aOy,countP_eq_length → aOB,countP_singleton → aOz,eq_nil_of_length_eq_zero → aLk,foldl_append → aOs,foldl_cons → aOx,foldl_nil → aOA,getD_eq_getElem?_getD → aLb,getElem?_eq_getElem → aLl,getElem?_map → aOG,getElem?_replicate → aNp,getElem_mem → aLr,length_append → aLp,length_cons → aLo,length_map → aMV,length_nil → aMR,length_replicate → aM3,length_set → aNt,map_append → aOg,map_id → aOC,map_map → aOF,mem_append → aMa,mem_cons_of_mem → aLN,mem_cons_self → aLO,mem_map → aMP,mem_of_getElem? → aL8,mem_range → aLP,mem_singleton → aMk,range → aLa,range_succ → aOr,replicate → aL4,replicate_succ → aMo,replicate_zero → aOE,set_cons_zero → aMS,take_add_one → aM4,take_append_of_le_length → aOD,take_of_length_le → aL7
open Nat renaming le_of_ble_eq_true → aM2,le_refl → aLe,le_trans → aLf,lt_of_lt_of_le → aLg,mul_comm → aMG,mul_le_mul_right → aLF,mul_lt_mul'' → aNg,pow_le_pow_right → aNh,sub_self → aLx,zero_add → aMM,zero_le → aLI
open Option renaming getD_some → aOc
open Rat renaming intCast_mul → aNm,le_refl → aOu,mul_nonneg → aOv
set_option linter.unusedSimpArgs false
set_option linter.unusedVariables false
namespace Go.PM
open Go.Lib
theorem Rt (x:List Rat):(aB (aC aG x)).length=1:=rfl
theorem Jk (m:List (List Rat)):aY (aC (aC aG) m)=true:=mJ Rt gN
theorem auH (m:List (List Rat)):gV (aC (aC aG) m)=true:=zX Rt GK fun _=>rfl
end Go.PM
namespace Go.PM
def fR:aE:=(LS [LO 68 (.bin .lss (LT 67) (LT 66))] (.seq (.cond (LT 68) .skip (.exit 0)) (.seq (.block 1 (LS [LM 69 67,LO 70 (.iaddr 1 (LT 65) (LT 67)),LO 71 (LL 70),LM 10 69,LM 11 71] (LS [LM 73 11,LO 74 (.call 65 [(LT 73)]),LM 72 74,LO 75 (LX 72 0),LO 76 (LX 72 1),LM 12 75,LM 13 76] (.seq (LS [LM 77 13,LO 78 (.un .not (LT 77)),LM 79 78,LZ 79 80 (.mv (LT 12)),LZ 79 81 (.len (LT 80)),LZ 79 82 (.mv (LT 4)),LZ 79 83 (.bin .neq (LT 81) (LT 82)),LO 84 (.pick (LT 79) LG (LT 83)),LM 85 84,LZ 85 86 (.mv (LT 12)),LZ 85 87 (.call 66 [(LT 86),(.func 67)]),LO 88 (.pick (LT 85) LG (LT 87)),LM 89 88,LZ 89 90 (.mv (LT 12)),LZ 89 91 (.mv (LT 10)),LZ 89 92 (.iaddr 3 (LT 90) (LT 91)),LZ 89 93 (LK 92),LZ 89 94 (.call 68 [(LT 93)]),LZ 89 95 (.bin .neq (LT 94) (LI 0)),LO 96 (.pick (LT 89) LG (LT 95))] (.cond (LT 96) (LS [LO 97 (.build [(.slice none 0 0),(.slice none 0 0),(.slice none 0 0)] [(0,1),(1,1),(2,1)] []),LN (.store 3 (LT 2) (LT 97)),LO 3 (.mv LF)] .ret) .skip)) (.cT [LO 98 (LA 1 9),LO 99 (LL 98),LM 100 12,LO 101 (.lit [(.slice none 0 0)] 1 [(0,(LT 100))]),LO 102 (.app 1 24 (LT 99) (LT 101)),LO 103 (LA 1 9),LN (.store 1 (LT 103) (LT 102))]))))) (.cT [LO 104 (.bin .add (LT 67) (LI 1)),LM 67 104]))))
def dY:aE:=(LS [LO 1 (.box (LT 0)),LO 2 (.new [(.slice none 0 0),(.slice none 0 0),(.slice none 0 0)]),LO 3 (.mv LF)] (LS [LO 14 (LA 0 1),LO 15 (LL 14),LO 16 (.len (LT 15)),LM 4 16] (.seq (LS [LM 17 4,LO 18 (.bin .lss (LT 17) (LI 1)),LM 19 18,LZ 19 20 (.mv (LT 4)),LZ 19 21 (.bin .gtr (LT 20) (LI 6)),LO 22 (.pick (LT 19) LG (LT 21)),LM 23 22,LZ 23 24 (LA 1 1),LZ 23 25 (LL 24),LZ 23 26 (.len (LT 25)),LZ 23 27 (.mv (LT 4)),LZ 23 28 (.bin .neq (LT 26) (LT 27)),LO 29 (.pick (LT 23) LG (LT 28)),LM 30 29,LZ 30 31 (LA 2 1),LZ 30 32 (LL 31),LZ 30 33 (.len (LT 32)),LZ 30 34 (.mv (LT 4)),LZ 30 35 (.bin .neq (LT 33) (LT 34)),LO 36 (.pick (LT 30) LG (LT 35))] (.cond (LT 36) (LS [LO 37 (.build [(.slice none 0 0),(.slice none 0 0),(.slice none 0 0)] [(0,1),(1,1),(2,1)] []),LN (.store 3 (LT 2) (LT 37)),LO 3 (.mv LF)] .ret) .skip)) (LS [LO 39 (LA 0 1),LO 40 (LL 39),LO 41 (.call 98 [(LT 40)]),LM 38 41,LO 42 (LX 38 0),LO 43 (LX 38 1),LM 5 42,LM 6 43] (LS [LO 45 (LA 2 1),LO 46 (LL 45),LO 47 (.call 65 [(LT 46)]),LM 44 47,LO 48 (LX 44 0),LO 49 (LX 44 1),LM 7 48,LM 8 49] (.seq (LS [LM 50 6,LO 51 (.un .not (LT 50)),LM 52 51,LZ 52 53 (.mv (LT 8)),LZ 52 54 (.un .not (LT 53)),LO 55 (.pick (LT 52) LG (LT 54)),LM 56 55,LZ 56 57 (.mv (LT 7)),LZ 56 58 (.call 66 [(LT 57),(.func 67)]),LO 59 (.pick (LT 56) LG (LT 58))] (.cond (LT 59) (LS [LO 60 (.build [(.slice none 0 0),(.slice none 0 0),(.slice none 0 0)] [(0,1),(1,1),(2,1)] []),LN (.store 3 (LT 2) (LT 60)),LO 3 (.mv LF)] .ret) .skip)) (LS [LM 61 5,LM 62 7,LO 63 (.build [(.slice none 0 0),(.slice none 0 0),(.slice none 0 0)] [(0,1),(1,1),(2,1)] [(0,(LT 61)),(2,(LT 62))]),LO 9 (.new [(.slice none 0 0),(.slice none 0 0),(.slice none 0 0)]),LN (.store 3 (LT 9) (LT 63))] (.seq (LS [LO 64 (LA 1 1),LO 65 (LL 64),LO 66 (.len (LT 65)),LO 67 (.mv (LI 0))] (.block 0 (.loop fR))) (LS [LO 105 (LK 9),LO 106 (LA 1 9),LO 107 (LL 106),LM 108 7,LQ 109 (.call 195 [(LT 107),(LT 108)]),LQ 110 (.call 194 [(LT 109),LF]),LO 111 (.un .not (LT 110)),LN (.store 3 (LT 2) (LT 105)),LM 3 111] .ret)))))))))
def fZ:aZ:=⟨112,[(.cell 2 true 3),(.tmp 3)],dY⟩
theorem KL:gH 176=some fZ:=by kernel_rfl
def nA:aE:=(LS [LO 42 (.bin .lss (LT 41) (LT 40))] (.seq (.cond (LT 42) .skip (.exit 4)) (.seq (.block 5 (LS [LM 43 41,LO 44 (.iaddr 3 (LT 39) (LT 41)),LO 45 (LK 44),LO 8 (.new [(.bool false),(.slice none 0 0),(.slice none 0 0)]),LM 7 43,LN (.store 3 (LT 8) (LT 45))] (.cT [LM 46 5,LM 47 6,LM 48 5,LM 49 6,LO 50 (.iaddr 1 (LT 48) (LT 49)),LO 51 (LL 50),LM 52 51,LZ 52 53 (LK 8),LZ 52 54 (.call 68 [(LT 53)]),LZ 52 55 (.bin .gtr (LT 54) (LI 0)),LZ 52 56 (.mv (LT 55)),LY 56 57 (.mv (LT 5)),LY 56 58 (.mv (LT 7)),LY 56 59 (.iaddr 1 (LT 57) (LT 58)),LY 56 60 (LL 59),LZ 52 61 (.pick (LT 56) (LT 60) LF),LO 62 (.pick (LT 52) LG (LT 61)),LO 63 (.iaddr 1 (LT 46) (LT 47)),LN (.store 1 (LT 63) (LT 62))]))) (.cT [LO 64 (.bin .add (LT 41) (LI 1)),LM 41 64]))))
def qE:aE:=(LS [LO 19 (.bin .lss (LT 18) (LT 17))] (.seq (.cond (LT 19) .skip (.exit 2)) (.seq (.block 3 (LS [LM 20 18,LM 6 20] (LS [LM 21 5,LM 22 6,LM 23 5,LM 24 6,LO 25 (.iaddr 1 (LT 23) (LT 24)),LO 26 (LL 25),LM 27 26,LZ 27 28 (.mv (LT 1)),LZ 27 29 (.mv (LT 6)),LZ 27 30 (.iaddr 3 (LT 28) (LT 29)),LZ 27 31 (LK 30),LZ 27 32 (.call 68 [(LT 31)]),LZ 27 33 (.bin .gtr (LT 32) (LI 0)),LO 34 (.pick (LT 27) LG (LT 33)),LO 35 (.iaddr 1 (LT 21) (LT 22)),LN (.store 1 (LT 35) (LT 34))] (LS [LM 36 0,LM 37 6,LO 38 (.iaddr 1 (LT 36) (LT 37)),LO 39 (LL 38),LO 40 (.len (LT 39)),LO 41 (.mv (LI 0))] (.block 4 (.loop nA)))))) (.cT [LO 65 (.bin .add (LT 18) (LI 1)),LM 18 65]))))
def CP:aE:=(LS [LO 15 (.bin .lss (LT 14) (LT 13))] (.seq (.cond (LT 15) .skip (.exit 0)) (.seq (.block 1 (LS [LM 16 1,LO 17 (.len (LT 16)),LO 18 (.mv (LI 0))] (.block 2 (.loop qE)))) (.cT [LO 66 (.bin .add (LT 14) (LI 1)),LM 14 66]))))
def J6:aE:=(LS [LO 4 (.mv (.const (.slice none 0 0)))] (LS [LM 9 1,LO 10 (.len (LT 9)),LO 11 (.make [(.bool false)] 1 (LT 10) (LT 10)),LM 5 11] (.seq (LS [LM 12 1,LO 13 (.len (LT 12)),LO 14 (.mv (LI 0))] (.block 0 (.loop CP))) (LS [LM 67 5,LM 4 67] .ret))))
def Pj:aZ:=⟨68,[(.tmp 4)],J6⟩
theorem TJ:gH 195=some Pj:=by kernel_rfl
def tN:aE:=(LS [LO 64 (.bin .lss (LT 63) (LT 62))] (.seq (.cond (LT 64) .skip (.exit 4)) (.seq (.block 5 (LS [LM 65 63,LM 16 65] (.cT [LM 66 11,LM 67 15,LO 68 (.iaddr 1 (LT 66) (LT 67)),LO 69 (LL 68),LM 70 16,LM 71 10,LO 72 (.bin .mul (LT 70) (LT 71)),LM 73 14,LO 74 (.bin .add (LT 72) (LT 73)),LM 75 11,LM 76 15,LO 77 (.iaddr 1 (LT 75) (LT 76)),LO 78 (LL 77),LM 79 16,LM 80 10,LO 81 (.bin .mul (LT 79) (LT 80)),LM 82 14,LO 83 (.bin .add (LT 81) (LT 82)),LO 84 (.iaddr 3 (LT 78) (LT 83)),LO 85 (LK 84),LO 86 (LA 1 6),LO 87 (LL 86),LM 88 13,LO 89 (.iaddr 1 (LT 87) (LT 88)),LO 90 (LL 89),LM 91 16,LO 92 (.iaddr 3 (LT 90) (LT 91)),LO 93 (LK 92),LQ 94 (.call 128 [(LT 85),(LT 93)]),LO 95 (.iaddr 3 (LT 69) (LT 74)),LN (.store 3 (LT 95) (LT 94))]))) (.cT [LO 96 (.bin .add (LT 63) (LI 1)),LM 63 96]))))
def tR:aE:=(LS [LO 99 (.bin .lss (LT 98) (LT 97))] (.seq (.cond (LT 99) .skip (.exit 6)) (.seq (.block 7 (LS [LM 100 98,LM 17 100] (.cT [LM 101 11,LM 102 15,LO 103 (.iaddr 1 (LT 101) (LT 102)),LO 104 (LL 103),LM 105 13,LM 106 10,LO 107 (.bin .mul (LT 105) (LT 106)),LM 108 17,LO 109 (.bin .add (LT 107) (LT 108)),LM 110 11,LM 111 15,LO 112 (.iaddr 1 (LT 110) (LT 111)),LO 113 (LL 112),LM 114 13,LM 115 10,LO 116 (.bin .mul (LT 114) (LT 115)),LM 117 17,LO 118 (.bin .add (LT 116) (LT 117)),LO 119 (.iaddr 3 (LT 113) (LT 118)),LO 120 (LK 119),LO 121 (LA 1 7),LO 122 (LL 121),LM 123 14,LO 124 (.iaddr 1 (LT 122) (LT 123)),LO 125 (LL 124),LM 126 17,LO 127 (.iaddr 3 (LT 125) (LT 126)),LO 128 (LK 127),LQ 129 (.call 128 [(LT 120),(LT 128)]),LO 130 (.iaddr 3 (LT 104) (LT 109)),LN (.store 3 (LT 130) (LT 129))]))) (.cT [LO 131 (.bin .add (LT 98) (LI 1)),LM 98 131]))))
def tH:aE:=(LS [LO 55 (.bin .lss (LT 54) (LT 53))] (.seq (.cond (LT 55) .skip (.exit 2)) (.seq (.block 3 (LS [LM 56 54,LM 14 56] (LS [LM 57 13,LM 58 10,LO 59 (.bin .mul (LT 57) (LT 58)),LM 60 14,LO 61 (.bin .add (LT 59) (LT 60)),LM 15 61] (.seq (LS [LM 62 9,LO 63 (.mv (LI 0))] (.block 4 (.loop tN))) (.seq (LS [LM 97 10,LO 98 (.mv (LI 0))] (.block 6 (.loop tR))) (LS [LM 132 11,LM 133 15,LO 134 (.iaddr 1 (LT 132) (LT 133)),LO 135 (LL 134),LM 136 15,LM 137 11,LM 138 15,LO 139 (.iaddr 1 (LT 137) (LT 138)),LO 140 (LL 139),LM 141 15,LO 142 (.iaddr 3 (LT 140) (LT 141)),LO 143 (LK 142),LO 144 (LK 6),LM 145 13,LQ 146 (.call 136 [(LT 144),(LT 145)]),LQ 147 (.call 69 [(LT 143),(LT 146)]),LO 148 (LK 7),LM 149 14,LQ 150 (.call 136 [(LT 148),(LT 149)]),LQ 151 (.call 69 [(LT 147),(LT 150)]),LO 152 (.iaddr 3 (LT 135) (LT 136)),LN (.store 3 (LT 152) (LT 151))] (.cT [LM 153 12,LO 154 (LA 2 6),LO 155 (LL 154),LM 156 13,LO 157 (.iaddr 3 (LT 155) (LT 156)),LO 158 (LK 157),LO 159 (.lit [(.bool false),(.slice none 0 0),(.slice none 0 0)] 1 [(0,(LT 158))]),LO 160 (.app 3 56 (LT 153) (LT 159)),LM 12 160]))))))) (.cT [LO 161 (.bin .add (LT 54) (LI 1)),LM 54 161]))))
def tD:aE:=(LS [LO 51 (.bin .lss (LT 50) (LT 49))] (.seq (.cond (LT 51) .skip (.exit 0)) (.seq (.block 1 (LS [LM 52 50,LM 13 52] (LS [LM 53 10,LO 54 (.mv (LI 0))] (.block 2 (.loop tH))))) (.cT [LO 162 (.bin .add (LT 50) (LI 1)),LM 50 162]))))
def tW:aE:=(LS [LO 173 (.bin .lss (LT 172) (LT 171))] (.seq (.cond (LT 173) .skip (.exit 8)) (.seq (.block 9 (LS [LM 174 172,LO 175 (.iaddr 3 (LT 170) (LT 172)),LO 176 (LK 175),LO 22 (.new [(.bool false),(.slice none 0 0),(.slice none 0 0)]),LM 21 174,LN (.store 3 (LT 22) (LT 176))] (.cT [LO 177 (LK 20),LO 178 (LK 22),LO 179 (LA 0 6),LO 180 (LL 179),LM 181 21,LM 182 10,LO 183 (.bin .quo (LT 181) (LT 182)),LO 184 (.iaddr 3 (LT 180) (LT 183)),LO 185 (LK 184),LQ 186 (.call 132 [(LT 178),(LT 185)]),LO 187 (LA 0 7),LO 188 (LL 187),LM 189 21,LM 190 10,LO 191 (.bin .rem (LT 189) (LT 190)),LO 192 (.iaddr 3 (LT 188) (LT 191)),LO 193 (LK 192),LQ 194 (.call 132 [(LT 186),(LT 193)]),LQ 195 (.call 69 [(LT 177),(LT 194)]),LN (.store 3 (LT 20) (LT 195))]))) (.cT [LO 196 (.bin .add (LT 172) (LI 1)),LM 172 196]))))
def oR:aE:=(LS [LO 2 (.box (LT 0)),LO 3 (.box (LT 1)),LO 4 (.mv (.const (.string ⟨#[]⟩))),LO 5 (.mv LF)] (LS [LO 24 (LK 2),LO 25 (LK 3),LO 26 (.call 135 [(LT 24),(LT 25)]),LM 23 26,LO 27 (LX 23 0),LO 28 (LX 23 1),LO 29 (LX 23 2),LO 6 (.new [(.slice none 0 0),(.slice none 0 0),(.slice none 0 0)]),LO 7 (.new [(.slice none 0 0),(.slice none 0 0),(.slice none 0 0)]),LN (.store 3 (LT 6) (LT 27)),LN (.store 3 (LT 7) (LT 28)),LM 8 29] (LS [LO 30 (LA 0 6),LO 31 (LL 30),LO 32 (.len (LT 31)),LO 33 (LA 0 7),LO 34 (LL 33),LO 35 (.len (LT 34)),LM 9 32,LM 10 35] (.seq (LS [LM 36 8,LO 37 (.un .not (LT 36)),LM 38 37,LZ 38 39 (.mv (LT 9)),LZ 38 40 (.mv (LT 10)),LZ 38 41 (.bin .mul (LT 39) (LT 40)),LZ 38 42 (.bin .gtr (LT 41) (LI 12)),LO 43 (.pick (LT 38) LG (LT 42))] (.cond (LT 43) (LS [LO 4 (.mv (.const (.string ⟨#[]⟩))),LO 5 (.mv LF)] .ret) .skip)) (LS [LM 44 9,LM 45 10,LO 46 (.bin .mul (LT 44) (LT 45)),LO 47 (.call 99 [(LT 46)]),LO 48 (.lit [(.bool false),(.slice none 0 0),(.slice none 0 0)] 0 []),LM 11 47,LM 12 48] (.seq (LS [LM 49 9,LO 50 (.mv (LI 0))] (.block 0 (.loop tD))) (LS [LM 164 11,LM 165 12,LO 166 (.call 118 [(LT 164),(LT 165)]),LM 163 166,LO 167 (LX 163 0),LO 168 (LX 163 1),LM 18 167,LM 19 168] (LS [LO 169 (.call 64 [(LI 0)]),LO 20 (.new [(.bool false),(.slice none 0 0),(.slice none 0 0)]),LN (.store 3 (LT 20) (LT 169))] (.seq (LS [LM 170 18,LO 171 (.len (LT 170)),LO 172 (.mv (LI 0))] (.block 8 (.loop tW))) (LS [LO 197 (LK 20),LO 198 (.call 137 [(LT 197)]),LO 199 (LX 198 0),LO 200 (LX 198 1),LM 4 199,LM 5 200] .ret))))))))))
def sR:aZ:=⟨201,[(.tmp 4),(.tmp 5)],oR⟩
theorem HZ:gH 56=some sR:=by kernel_rfl
def A6:aE:=(LS [LO 2 (.box (LT 0)),LO 3 (.box (LT 1)),LO 4 (.new [(.slice none 0 0),(.slice none 0 0),(.slice none 0 0)]),LO 5 (.new [(.slice none 0 0),(.slice none 0 0),(.slice none 0 0)]),LO 6 (.mv LF)] (LS [LO 12 (LK 2),LO 13 (.call 176 [(LT 12)]),LM 11 13,LO 14 (LX 11 0),LO 15 (LX 11 1),LO 7 (.new [(.slice none 0 0),(.slice none 0 0),(.slice none 0 0)]),LN (.store 3 (LT 7) (LT 14)),LM 8 15] (LS [LO 17 (LK 3),LO 18 (.call 176 [(LT 17)]),LM 16 18,LO 19 (LX 16 0),LO 20 (LX 16 1),LO 9 (.new [(.slice none 0 0),(.slice none 0 0),(.slice none 0 0)]),LN (.store 3 (LT 9) (LT 19)),LM 10 20] (LS [LO 21 (LK 7),LO 22 (LK 9),LM 23 8,LM 24 23,LY 24 25 (.mv (LT 10)),LO 26 (.pick (LT 24) (LT 25) LF),⟨none,(.store 3 (LT 4) (LT 21)),none,false,[((LT 9),(LT 4))]⟩,LN (.store 3 (LT 5) (LT 22)),LM 6 26] .ret))))
def C6:aZ:=⟨27,[(.cell 4 true 3),(.cell 5 true 3),(.tmp 6)],A6⟩
theorem Io:gH 135=some C6:=by kernel_rfl
def zS:aE:=(LS [LO 2 (.box (LT 0)),LO 4 (.new [(.bool false),(.slice none 0 0),(.slice none 0 0)])] (LS [LO 5 (LA 1 2),LO 6 (LL 5),LM 7 1,LO 8 (.iaddr 1 (LT 6) (LT 7)),LO 9 (LL 8),LQ 10 (.call 70 [(LT 9)]),LO 11 (LA 2 2),LO 12 (LL 11),LM 13 1,LO 14 (.iaddr 3 (LT 12) (LT 13)),LO 15 (LK 14),LQ 16 (.call 69 [(LT 10),(LT 15)]),LN (.store 3 (LT 4) (LT 16))] .ret))
def Ba:aZ:=⟨17,[(.cell 4 true 3)],zS⟩
theorem FG:gH 136=some Ba:=by kernel_rfl
end Go.PM
namespace Go.PM
open Go.Lib
def orJ (row:List Rat) (i:Nat) (st:List Bool) (j:Nat):List Bool:=st.set i (st.getD i false||(decide (0<row.getD j 0)&&st.getD j false))
def QV (row:List Rat) (i:Nat) (st:List Bool) (m:Nat):List Bool:=(aLa m).foldl (orJ row i) st
def Mv (g:List (List Rat)) (e:List Rat) (n:Nat) (st:List Bool) (i:Nat):List Bool:=QV (g.getD i []) i (st.set i (st.getD i false||decide (0<e.getD i 0))) n
def mH (g:List (List Rat)) (e:List Rat) (n:Nat) (st:List Bool) (m:Nat):List Bool:=(aLa m).foldl (Mv g e n) st
def oS (g:List (List Rat)) (e:List Rat) (n m:Nat):List Bool:=(aLa m).foldl (fun st _=>mH g e n st n) (aL4 n false)
theorem rZ {α:Type} {f:α→Nat→α} {s:α} {j:Nat}:(aLa (j+1)).foldl f s=f ((aLa j).foldl f s) j:=by rw[aOr,aOs];rfl
theorem IX {f:List Bool→Nat→List Bool} (hf:∀st j,(f st j).length=st.length) {st:List Bool}:∀m,((aLa m).foldl f st).length=st.length
 | 0=>rfl
 | m+1=>by rw[rZ,hf,IX hf m]
theorem arM (row:List Rat) (i:Nat) (st:List Bool) (j:Nat):(orJ row i st j).length=st.length:=aNt ..
theorem Si (row:List Rat) (i:Nat) (st:List Bool) (m:Nat):(QV row i st m).length=st.length:=IX (arM row i) m
theorem adE (g:List (List Rat)) (e:List Rat) (n:Nat) (st:List Bool) (i:Nat):(Mv g e n st i).length=st.length:=by rw[Mv,Si,aNt]
theorem II (g:List (List Rat)) (e:List Rat) (n:Nat) (st:List Bool) (m:Nat):(mH g e n st m).length=st.length:=IX (adE g e n) m
theorem BD (g:List (List Rat)) (e:List Rat) (n m:Nat):(oS g e n m).length=n:=by
 rw[oS,IX (fun st _=>II g e n st n),aM3]
abbrev uJ (st:List Bool):eR := .row 0 (st.map fun b=>VB b) 1 true
theorem yB {st:List Bool} {i n:Nat} (hi:i<n) (K:aA):bI 1 (.ref 0 0 0 n n) (VI i) (uJ st::K)=some (.ptr 0 0 i 0):=by
 have:=bC (b:=0) (g:=0) (o:=0) (n:=n) (c:=n) (k := .i64) (i:=i) (H:=uJ st::K) aQ hi
 rwa [aMM] at this
theorem yD {st:List Bool} {i:Nat} (hi:i<st.length) (K:aA):bG false 1 (.ptr 0 0 i 0) (uJ st::K)=some (VB (st.getD i false)):=by
 have hx:st[i]? = some st[i]:=aLl hi
 rw[qI (f:=fun b=>VB b) aQ hx,aLb,hx]
 rfl
theorem Ej {st:List Bool} {i:Nat} (hi:i<st.length) (v:Bool) (K:aA):bM 0 1 (.ptr 0 0 i 0) (VB v) (uJ st::K)=some (uJ (st.set i v)::K):=by
 rw[eG (f:=fun b=>VB b) (e:=1) (x:=v) aQ hi (aLI _) rfl rfl,aMS]
theorem ID {R:eR} {q:Rat}:bM 0 3 (.ptr 1 0 0 0) (aG q) [R,cell0]=some [R,.row 0 [aG q] 3 true]:=by simp only[aI,cI,bK,bB,bA,aU,gC,Nat.reduceLeDiff,Nat.reduceLT,Nat.reduceSub,eO,VX,Nat.reduceEqDiff,Nat.reduceAdd,Nat.reduceLeDiff,Nat.reduceLT,Nat.reduceSub]
theorem Rl {R:eR} {q:Rat}:bG true 3 (.ptr 1 0 0 0) [R,.row 0 [aG q] 3 true]=some (aG q):=by simp only[aI,cI,bK,bB,bA,aU,gC,Nat.reduceLeDiff,Nat.reduceLT,Nat.reduceSub,eO,VX,Nat.reduceEqDiff,Nat.reduceAdd,Nat.reduceLeDiff,Nat.reduceLT,Nat.reduceSub]
section
variable {g:List (List Rat)} {e row:List Rat} {n i:Nat} {st:List Bool}
set_option maxHeartbeats 2000000 in
theorem XS (hn:n≤1000000) (hi:i<n) (xI:st.length=n) (mA:row.length=n) {r:Int} {ρ:cV} {Q:VQ} (g0:ρ 0=aC (aC aG) g) (g1:ρ 1=aC aG e) (g5:ρ 5 = .ref 0 0 0 n n) (g6:ρ 6=VI i) (g13:ρ 13=VI n) (g14:ρ 14=VI r) (g17:ρ 17=VI n) (g18:ρ 18=VI i) (g39:ρ 39=aC aG row) (g40:ρ 40=VI n) (g41:ρ 41=VI 0)
  (hQ:∀aP,aP 0=aC (aC aG) g→aP 1=aC aG e→aP 5 = .ref 0 0 0 n n→aP 13=VI n→aP 14=VI r→aP 17=VI n→aP 18=VI i→Q .normal aP [uJ (QV row i st n)]) :
  VW ⟨true,false⟩ 0 (.loop nA) (tL 4 Q) ρ [uJ st]:=by
 refine Pw (fun(j:Nat) aP H=>j≤n∧H=[uJ (QV row i st j)]∧aP 0=aC (aC aG) g∧aP 1=aC aG e∧aP 5 = .ref 0 0 0 n n∧aP 6=VI i∧aP 13=VI n∧aP 14=VI r∧aP 17=VI n∧aP 18=VI i∧aP 39=aC aG row∧aP 40=VI n∧aP 41=VI j) (fun j=>n-j) 0 ⟨aLI _,rfl,g0,g1,g5,g6,g13,g14,g17,g18,g39,g40,g41⟩ ?_
 clear g0 g1 g5 g6 g13 g14 g17 g18 g39 g40 g41
 rintro j aP H ⟨hj,rfl,g0,g1,g5,g6,g13,g14,g17,g18,g39,g40,g41⟩
 have hl:(QV row i st j).length=n:=by rw[Si,xI]
 have Cd:QV row i st (j+1)=orJ row i (QV row i st j) j:=rZ
 generalize hs:QV row i st j=s at *
 by_cases bX:(j:Int)<(n:Int)
 ·have DY:j<n:=by omega
  obtain⟨q,hq⟩:∃q,row[j]? = some q:=⟨_,aLl (by omega)⟩
  have e1:=fun H=>aF (f:=aG) (t := .op) (H:=H) (size:=3) (k := .i64) hq rfl
  have wi:IntKind.i64.wrap ((j:Int)+1)=((j+1:Nat):Int):=wrapN (j+1) (by omega) (by omega)
  have e2:=dL q
  have a1:=fun K=>yB (st:=s) (n:=n) hi K
  have a2:=fun K=>yD (st:=s) (i:=i) (by omega) K
  have a3:=fun K=>yB (st:=s) (n:=n) DY K
  have a4:=fun K=>yD (st:=s) (i:=j) (by omega) K
  have a5:=fun v K=>Ej (st:=s) (i:=i) (by omega) v K
  have qB:∀v:Bool,v=(s.getD i false||(decide (0<q)&&s.getD j false))→QV row i st (j+1)=s.set i v:=by
   intro v hv
   rw[Cd,orJ,hv,aLb (l:=row),hq,aOc]
  have post:∀(v:Bool) (tU:cV),v=(s.getD i false||(decide (0<q)&&s.getD j false))→tU 0=aC (aC aG) g→tU 1=aC aG e→tU 5 = .ref 0 0 0 n n→tU 6=VI i→tU 13=VI n→tU 14=VI r→tU 17=VI n→tU 18=VI i→tU 39=aC aG row→tU 40=VI n→tU 41=VI ((j+1:Nat):Int) →
    ∃s',n-s'<n-j∧nO 1 [uJ (s.set i v)]=true∧s'≤n∧[uJ (s.set i v)]=[uJ (QV row i st s')]∧rS 1 tU 0=aC (aC aG) g∧rS 1 tU 1=aC aG e∧rS 1 tU 5 = .ref 0 0 0 n n∧rS 1 tU 6=VI i∧rS 1 tU 13=VI n∧rS 1 tU 14=VI r∧rS 1 tU 17=VI n∧rS 1 tU 18=VI i∧rS 1 tU 39=aC aG row∧rS 1 tU 40=VI n∧rS 1 tU 41=VI s':=by
   intro v tU hv k0 k1 k5 k6 B6 CZ Iu Xg k39 k40 k41
   refine⟨j+1,by omega,by rw[Db (oJ _ (fO fun _=>rfl)),KR],by omega,by rw[qB v hv],?_⟩
   simp only[BF,k0,k1,k5,k6,B6,CZ,Iu,Xg,k39,k40,k41,Df (Jk _),Df (gN _),OF,KM (Nat.lt_succ_self 0),and_self]
  cases Yx:s.getD i false with
  |
   true =>
   rw[Yx] at a2 post
   simp only[nA,g5,g6,g39,g40,g41,bX,e1,wi,a1,a2,a5,ID,bK,VX,Nat.reduceEqDiff,Nat.reduceAdd,vC,pA,aLo,aMR]
   refine post true _ (by simp) ?_ ?_ ?_ ?_ ?_ ?_ ?_ ?_ ?_ ?_ ?_
   all_goals first | exact g0 | exact g1 | exact g5 | exact g6 | exact g13 | exact g14 | exact g17 | exact g18 | exact g39 | exact g40 | rfl
  |
   false =>
   rw[Yx] at a2 post
   by_cases hp:0<jH q
   ·have B1:0<q:=GC.1 hp
    simp only[nA,g5,g6,g39,g40,g41,bX,e1,e2,wi,a1,a2,a3,a4,a5,hp,ID,Rl,bK,VX,Nat.reduceEqDiff,Nat.reduceAdd,vC,pA,aLo,aMR]
    refine post (s.getD j false) _ (by simp[B1]) ?_ ?_ ?_ ?_ ?_ ?_ ?_ ?_ ?_ ?_ ?_
    all_goals first | exact g0 | exact g1 | exact g5 | exact g6 | exact g13 | exact g14 | exact g17 | exact g18 | exact g39 | exact g40 | rfl
   ·have B1:¬0<q:=mt GC.2 hp
    simp only[nA,g5,g6,g39,g40,g41,bX,e1,e2,wi,a1,a2,a5,hp,ID,Rl,bK,VX,Nat.reduceEqDiff,Nat.reduceAdd,vC,pA,aLo,aMR]
    refine post false _ (by simp[B1]) ?_ ?_ ?_ ?_ ?_ ?_ ?_ ?_ ?_ ?_ ?_
    all_goals first | exact g0 | exact g1 | exact g5 | exact g6 | exact g13 | exact g14 | exact g17 | exact g18 | exact g39 | exact g40 | rfl
 ·have Wa:j=n:=by omega
  subst Wa
  subst hs
  simp only[nA,g40,g41,bX,eO,VX,Nat.reduceEqDiff,Nat.reduceAdd,Nat.reduceLeDiff,Nat.reduceLT,Nat.reduceSub]
  refine hQ _ ?_ ?_ ?_ ?_ ?_ ?_ ?_<;>first | exact g0 | exact g1 | exact g5 | exact g13 | exact g14 | exact g17 | exact g18 | rfl
set_option maxHeartbeats 2000000 in
theorem XQ (hn:n≤1000000) (xI:st.length=n) (hg:g.length=n) (hgr:∀w∈g,w.length=n) (he:e.length=n) {r:Int} {ρ:cV} {Q:VQ} (g0:ρ 0=aC (aC aG) g) (g1:ρ 1=aC aG e) (g5:ρ 5 = .ref 0 0 0 n n) (g13:ρ 13=VI n) (g14:ρ 14=VI r) (g17:ρ 17=VI n) (g18:ρ 18=VI 0)
  (hQ:∀aP,aP 0=aC (aC aG) g→aP 1=aC aG e→aP 5 = .ref 0 0 0 n n→aP 13=VI n→aP 14=VI r→Q .normal aP [uJ (mH g e n st n)]) :
  VW ⟨true,false⟩ 0 (.loop qE) (tL 2 Q) ρ [uJ st]:=by
 refine aN (fun(i:Nat) aP H=>i≤n∧H=[uJ (mH g e n st i)]∧aP 0=aC (aC aG) g∧aP 1=aC aG e∧aP 5 = .ref 0 0 0 n n∧aP 13=VI n∧aP 14=VI r∧aP 17=VI n∧aP 18=VI i) (fun i=>n-i) 0 ⟨aLI _,rfl,g0,g1,g5,g13,g14,g17,g18⟩ ?_
 clear g0 g1 g5 g13 g14 g17 g18
 rintro i aP H ⟨hi,rfl,g0,g1,g5,g13,g14,g17,g18⟩
 have hl:(mH g e n st i).length=n:=by rw[II,xI]
 have Cd:mH g e n st (i+1)=Mv g e n (mH g e n st i) i:=rZ
 generalize hs:mH g e n st i=s at *
 by_cases bX:(i:Int)<(n:Int)
 ·have DY:i<n:=by omega
  obtain⟨q,hq⟩:∃q,e[i]? = some q:=⟨_,aLl (by omega)⟩
  obtain⟨row,hr⟩:∃row,g[i]? = some row:=⟨_,aLl (by omega)⟩
  have B7:=hgr row (aL8 hr)
  have e1:=fun H=>aF (f:=aG) (t := .op) (H:=H) (size:=3) (k := .i64) hq rfl
  have e3:=fun H=>aF (f:=aC aG) (t := .op) (H:=H) (size:=1) (k := .i64) hr rfl
  have wi:IntKind.i64.wrap ((i:Int)+1)=((i+1:Nat):Int):=wrapN (i+1) (by omega) (by omega)
  have e2:=dL q
  have a1:=fun K=>yB (st:=s) (n:=n) DY K
  have a2:=fun K=>yD (st:=s) (i:=i) (by omega) K
  have a5:=fun v K=>Ej (st:=s) (i:=i) (by omega) v K
  have qB:∀v:Bool,v=(s.getD i false||decide (0<q))→mH g e n st (i+1)=QV row i (s.set i v) n:=by
   intro v hv
   rw[Cd,Mv,hv,aLb (l:=g),hr,aOc,aLb (l:=e),hq,aOc]
  have post:∀(v:Bool) (tU:cV),v=(s.getD i false||decide (0<q))→tU 0=aC (aC aG) g→tU 1=aC aG e→tU 5 = .ref 0 0 0 n n→tU 6=VI i→tU 13=VI n→tU 14=VI r→tU 17=VI n→tU 18=VI i→tU 39=aC aG row→tU 40=VI n→tU 41=VI 0 →
    ∀(Q':VQ),(∀wJ,wJ 0=aC (aC aG) g→wJ 1=aC aG e→wJ 5 = .ref 0 0 0 n n→wJ 13=VI n→wJ 14=VI r→wJ 17=VI n→wJ 18=VI i→Q' .normal wJ [uJ (mH g e n st (i+1))])→VW ⟨true,false⟩ 0 (.loop nA) (tL 4 Q') tU [uJ (s.set i v)]:=by
   intro v tU hv k0 k1 k5 k6 B6 CZ Iu Xg k39 k40 k41 Q' hQ'
   refine XS hn DY (by rw[aNt,hl]) B7 k0 k1 k5 k6 B6 CZ Iu Xg k39 k40 k41 fun wJ m0 m1 m5 m13 m14 m17 m18 => ?_
   rw[←qB v hv]
   exact hQ' wJ m0 m1 m5 m13 m14 m17 m18
  have fin:∀(wJ:cV),wJ 0=aC (aC aG) g→wJ 1=aC aG e→wJ 5 = .ref 0 0 0 n n→wJ 13=VI n→wJ 14=VI r→wJ 17=VI n→wJ 18=VI ((i+1:Nat):Int)→∃s',n-s'<n-i∧s'≤n∧[uJ (mH g e n st (i+1))]=[uJ (mH g e n st s')]∧wJ 0=aC (aC aG) g∧wJ 1=aC aG e∧wJ 5 = .ref 0 0 0 n n∧wJ 13=VI n∧wJ 14=VI r∧wJ 17=VI n∧wJ 18=VI s' :=
   fun wJ m0 m1 m5 m13 m14 m17 m18=>⟨i+1,by omega,by omega,rfl,m0,m1,m5,m13,m14,m17,m18⟩
  have aAc:((row.length:Nat):Int)=(n:Int):=by omega
  cases Yx:s.getD i false with
  |
   true =>
   rw[Yx] at a2 post
   simp only[qE,g0,g1,g5,g17,g18,bX,e1,e3,a1,a2,a5,aAc,eO,VX,Nat.reduceEqDiff,Nat.reduceAdd,Nat.reduceLeDiff,Nat.reduceLT,Nat.reduceSub]
   refine post true _ (by simp) ?_ ?_ ?_ ?_ ?_ ?_ ?_ ?_ ?_ ?_ ?_ _ fun wJ m0 m1 m5 m13 m14 m17 m18 => ?_
   all_goals first | exact g0 | exact g1 | exact g5 | exact g13 | exact g14 | exact g17 | exact g18 | rfl | skip
   simp only[m18,wi,eO,VX,Nat.reduceEqDiff,Nat.reduceAdd,Nat.reduceLeDiff,Nat.reduceLT,Nat.reduceSub]
   exact⟨i+1,by omega,by omega,by (repeat' apply aMU)<;>first | rfl | trivial | assumption⟩
  |
   false =>
   rw[Yx] at a2 post
   by_cases hp:0<jH q
   ·have B1:0<q:=GC.1 hp
    simp only[qE,g0,g1,g5,g17,g18,bX,e1,e2,e3,a1,a2,a5,aAc,hp,bK,eO,VX,Nat.reduceEqDiff,Nat.reduceAdd,Nat.reduceLeDiff,Nat.reduceLT,Nat.reduceSub]
    refine post true _ (by simp[B1]) ?_ ?_ ?_ ?_ ?_ ?_ ?_ ?_ ?_ ?_ ?_ _ fun wJ m0 m1 m5 m13 m14 m17 m18 => ?_
    all_goals first | exact g0 | exact g1 | exact g5 | exact g13 | exact g14 | exact g17 | exact g18 | rfl | skip
    simp only[m18,wi,eO,VX,Nat.reduceEqDiff,Nat.reduceAdd,Nat.reduceLeDiff,Nat.reduceLT,Nat.reduceSub]
    exact⟨i+1,by omega,by omega,by (repeat' apply aMU)<;>first | rfl | trivial | assumption⟩
   ·have B1:¬0<q:=mt GC.2 hp
    simp only[qE,g0,g1,g5,g17,g18,bX,e1,e2,e3,a1,a2,a5,aAc,hp,bK,eO,VX,Nat.reduceEqDiff,Nat.reduceAdd,Nat.reduceLeDiff,Nat.reduceLT,Nat.reduceSub]
    refine post false _ (by simp[B1]) ?_ ?_ ?_ ?_ ?_ ?_ ?_ ?_ ?_ ?_ ?_ _ fun wJ m0 m1 m5 m13 m14 m17 m18 => ?_
    all_goals first | exact g0 | exact g1 | exact g5 | exact g13 | exact g14 | exact g17 | exact g18 | rfl | skip
    simp only[m18,wi,eO,VX,Nat.reduceEqDiff,Nat.reduceAdd,Nat.reduceLeDiff,Nat.reduceLT,Nat.reduceSub]
    exact⟨i+1,by omega,by omega,by (repeat' apply aMU)<;>first | rfl | trivial | assumption⟩
 ·have mZ:i=n:=by omega
  subst mZ
  subst hs
  simp only[qE,g17,g18,bX,eO,VX,Nat.reduceEqDiff,Nat.reduceAdd,Nat.reduceLeDiff,Nat.reduceLT,Nat.reduceSub]
  refine hQ _ ?_ ?_ ?_ ?_ ?_<;>first | exact g0 | exact g1 | exact g5 | exact g13 | exact g14 | exact g17 | exact g18 | rfl
theorem Mx (bs:List Bool):aY (aC (fun b=>VB b) bs)=true:=mJ (fun _=>rfl) fun _=>rfl
theorem YT (bs:List Bool):gV (aC (fun b=>VB b) bs)=true:=zX (fun _=>rfl) (fun _=>rfl) fun _=>rfl
set_option maxHeartbeats 1000000 in
theorem Tc (hn:n≤1000000) (hg:g.length=n) (hgr:∀w∈g,w.length=n) (he:e.length=n):TC 195 [aC (aC aG) g,aC aG e] (aC (fun b=>VB b) (oS g e n n)):=by
 refine TC.walk ⟨true,false⟩ TJ rfl (aM2 rfl) (by simp only[aO,Jk,gN];rfl) (YT _) ?_
 have e0:∀H,BR [.bool false] 1 (VI n) (VI n) H=some (.ref H.length 0 0 n n,H++[uJ (aL4 n false)]):=fun H=>nX (f:=fun b=>VB b) rfl (by omega) (by omega)
 simp only[Pj,J6,he,e0,List.nil_append,aMR,eO,VX,Nat.reduceEqDiff,Nat.reduceAdd,Nat.reduceLeDiff,Nat.reduceLT,Nat.reduceSub]
 refine aN (fun(i:Nat) aP H=>i≤n∧H=[uJ (oS g e n i)]∧aP 0=aC (aC aG) g∧aP 1=aC aG e∧aP 5 = .ref 0 0 0 n n∧aP 13=VI n∧aP 14=VI i) (fun i=>n-i) 0 ⟨aLI _,rfl,rfl,rfl,rfl,rfl,rfl⟩ ?_
 rintro i aP H ⟨hi,rfl,g0,g1,g5,g13,g14⟩
 have hl:=BD g e n i
 have Cd:oS g e n (i+1)=mH g e n (oS g e n i) n:=rZ
 by_cases bX:(i:Int)<(n:Int)
 ·have wi:IntKind.i64.wrap ((i:Int)+1)=((i+1:Nat):Int):=wrapN (i+1) (by omega) (by omega)
  have he':((e.length:Nat):Int)=(n:Int):=by omega
  simp only[CP,g1,g13,g14,bX,he',eO,VX,Nat.reduceEqDiff,Nat.reduceAdd,Nat.reduceLeDiff,Nat.reduceLT,Nat.reduceSub]
  refine XQ (r:=(i:Int)) hn hl hg hgr he ?_ ?_ ?_ ?_ ?_ ?_ ?_ fun wJ m0 m1 m5 m13 m14 => ?_
  all_goals first | exact g0 | exact g1 | exact g5 | exact g13 | exact g14 | rfl | skip
  simp only[m14,wi,eO,VX,Nat.reduceEqDiff,Nat.reduceAdd,Nat.reduceLeDiff,Nat.reduceLT,Nat.reduceSub]
  exact⟨i+1,by omega,by omega,by rw[Cd],m0,m1,m5,m13,rfl⟩
 ·have mZ:i=n:=by omega
  subst mZ
  simp only[CP,g5,g13,g14,bX,eO,VX,Nat.reduceEqDiff,Nat.reduceAdd,Nat.reduceLeDiff,Nat.reduceLT,Nat.reduceSub]
  have:=ZS (f:=fun b=>VB b) (e:=1) (b:=0) (g:=0) (c:=i) (xs:=oS g e i i) (H:=[uJ (oS g e i i)]) (fun _=>rfl) (by rw[aQ]) (by omega)
  rw[hl] at this
  exact this
end
end Go.PM
namespace Go.PM
theorem aaL (q:Rat):q*((q.den:Int):Rat)=((q.num:Int):Rat):=by
 have h1:mkRat q.num q.den=q:=Rat.mkRat_self q
 rw[Rat.mkRat_eq_div] at h1
 have h2:((q.den:Nat):Rat)≠0:=by
  have:=q.den_nz
  exact_mod_cast this
 rw[Rat.intCast_natCast]
 grind
theorem common {β:Nat} {f:Nat→Rat}:∀ {K:Nat},(∀k,k<K→aL (f k)≤β)→∃s:Int,s≠0∧s.natAbs<2^(K*β+1)∧∀k,k<K→xL s (K*β+1) (f k)
 | 0,_=>⟨1,by decide,by simp,fun k hk=>absurd hk (Nat.not_lt_zero _)⟩
 |
  K+1,h=>by
  obtain⟨s,h1,h2,h3⟩:=common (K:=K) fun k hk=>h k (by omega)
  have hK:=h K (by omega)
  have hd:(f K).den<2^β:=aLg (Hq _) (aNh (by decide) (aLf nR hK))
  have hn:(f K).num.natAbs<2^β:=aLg (Hq _) (aNh (by decide) (aLf qJ hK))
  have e:2^((K+1)*β+1)=2^(K*β+1)*2^β:=by rw[←Nat.pow_add];congr 1;rw[Nat.add_mul];omega
  have azN:((f K).den:Int)≠0:=by have:=(f K).den_nz;omega
  refine⟨s*((f K).den:Int),aOt h1 azN,?_,fun k hk => ?_⟩
  ·rw[aNj,e,aNk]
   exact aNg h2 hd
  ·by_cases hkK:k=K
   ·subst hkK
    refine⟨(f k).num*s,?_,?_⟩
    ·have hm:f k*(((f k).den:Int):Rat)=(((f k).num:Int):Rat):=aaL (f k)
     rw[aNm,aNm,←hm]
     grind
    ·rw[aNj,e,aMG]
     exact aNg h2 hn
   ·obtain⟨M,m1,m2⟩:=h3 k (by omega)
    refine⟨M*((f K).den:Int),?_,?_⟩
    ·rw[aNm,aNm,←m1]
     grind
    ·rw[aNj,e,aNk]
     exact aNg m2 hd
theorem dQ.of {β n:Nat} {f:Nat→Rat} (h:∀k,k<n→aL (f k)≤β):dQ (n*β+1) n f:=by
 obtain⟨s,h1,h2,h3⟩:=common h
 exact⟨s,h1,h2,h3⟩
theorem dQ.wide {g h n:Nat} {f:Nat→Rat} (hf:dQ g n f) (hg:g≤h):dQ h n f:=by
 obtain⟨s,h1,h2,h3⟩:=hf
 exact⟨s,h1,aLg h2 (aNh (by decide) hg),fun i hi=>(h3 i hi).wide hg⟩
theorem dQ.times {g h n:Nat} {f:Nat→Rat} {q:Rat} (hf:dQ g n f) (hq:aL q≤h):dQ (g+h) n fun i=>q*f i:=by
 obtain⟨s,h1,h2,h3⟩:=hf
 have hd:q.den<2^h:=aLg (Hq _) (aNh (by decide) (aLf nR hq))
 have hn:q.num.natAbs<2^h:=aLg (Hq _) (aNh (by decide) (aLf qJ hq))
 have azN:(q.den:Int)≠0:=by have:=q.den_nz;omega
 have hm:q*((q.den:Int):Rat)=((q.num:Int):Rat):=aaL q
 have Pn:xL (q.den:Int) h q:=⟨q.num,hm,hn⟩
 refine⟨s*(q.den:Int),aOt h1 azN,?_,fun i hi => ?_⟩
 ·rw[aNj,aNk,Nat.pow_add]
  exact aNg h2 hd
 ·have:=(h3 i hi).mul Pn
  rwa [Rat.mul_comm] at this
theorem asG {n β:Nat} {F:Nat→Nat→Rat} (h:∀i j,i<n→j<n→aL (F i j)≤β):∃s:Int,s≠0∧s.natAbs<2^(n*n*β+1)∧∀i j,i<n→j<n→xL s (n*n*β+1) (F i j):=by
 obtain⟨s,h1,h2,h3⟩:=common (K:=n*n) (f:=fun k=>F (k / n) (k % n)) fun k hk=>by
  have hn:0<n:=by
   cases n with
   | zero=>omega
   | succ n=>omega
  exact h _ _ (Nat.div_lt_of_lt_mul hk) (Nat.mod_lt _ hn)
 refine⟨s,h1,h2,fun i j hi hj => ?_⟩
 have hk:i*n+j<n*n:=by
  have:(i+1)*n≤n*n:=aLF _ hi
  rw[Nat.add_mul] at this
  omega
 have h4:=h3 (i*n+j) hk
 have e1:(i*n+j) / n=i:=by rw[aMG,Nat.mul_add_div (by omega),Nat.div_eq_of_lt hj,Nat.add_zero]
 have e2:(i*n+j) % n=j:=by rw[aMG,Nat.mul_add_mod,Nat.mod_eq_of_lt hj]
 simp only[e1,e2] at h4
 exact h4
theorem Bh.Zv {n g:Nat} {A:Nat→Nat→Rat} (hF:Bh n A) (hS:pR g n n A) (hn:n≤16):∀(b:Nat→Rat) (h:Nat),dQ h n b→∃X,gT n A b X∧dQ (h+(n*n*(2*(2^n*(g+1)))+5)) n X:=by
 have aBN:∀j,∃X,gT n A (fun i=>if i=j then 1 else 0) X∧∀i,i<n→aL (X i)≤2*(2^n*(g+1)):=fun j=>by
  have hF':Bh n (fun a c=>if c<n then A a c else if a=j then 1 else 0):=fun x hx=>hF x fun i hi=>by
   rw[←hx i hi]
   exact fW fun c hc=>by simp only[hc,if_true]
  have hS':pR g n (n+1) (fun a c=>if c<n then A a c else if a=j then 1 else 0):=by
   obtain⟨s,h1,h2,h3⟩:=hS
   refine⟨s,h1,h2,fun a c ha hc => ?_⟩
   by_cases hcn:c<n
   ·simp only[hcn,if_true]
    exact h3 a c ha hcn
   ·simp only[hcn,if_false]
    by_cases haj:a=j
    ·simp only[haj,if_true]
     exact⟨s,by rw[Rat.one_mul],h2⟩
    ·simp only[haj,if_false]
     exact xL.zero
  obtain⟨X,x1,x2⟩:=hF'.akA hS'
  refine⟨X,fun i hi => ?_,x2⟩
  have h:=x1 i hi
  have e:Sg (fun c=>(if c<n then A i c else if i=j then 1 else 0)*X c) n=Sg (fun c=>A i c*X c) n:=fW fun c hc=>by simp only[hc,if_true]
  rw[e] at h
  rw[h]
  simp[rhs]
 obtain⟨C,hC⟩:∃C:Nat→Nat→Rat,∀j,gT n A (fun i=>if i=j then 1 else 0) (C j)∧∀i,i<n→aL (C j i)≤2*(2^n*(g+1)):=⟨fun j=>Classical.choose (aBN j),fun j=>Classical.choose_spec (aBN j)⟩
 obtain⟨s,s1,s2,s3⟩:=asG (n:=n) (F:=fun i j=>C j i) fun i j hi hj=>(hC j).2 i hi
 intro b h hb
 obtain⟨t,t1,t2,t3⟩:=hb
 refine⟨fun i=>Sg (fun j=>C j i*b j) n,fun i hi => ?_,s*t,aOt s1 t1,?_,fun i hi => ?_⟩
 ·have e:Sg (fun i'=>A i i'*Sg (fun j=>C j i'*b j) n) n=Sg (fun j=>b j*Sg (fun i'=>A i i'*C j i') n) n:=by
   have e1:Sg (fun i'=>A i i'*Sg (fun j=>C j i'*b j) n) n=Sg (fun i'=>Sg (fun j=>A i i'*(C j i'*b j)) n) n:=fW fun i' _=>(Ln _ _ _).symm
   rw[e1,atZ]
   refine fW fun j _ => ?_
   rw[←Ln]
   exact fW fun i' _=>by grind
  rw[e,IN (k:=i) hi fun j hj Ea=>by rw[(hC j).1 i hi];simp only[];rw[if_neg (by omega)];grind,(hC i).1 i hi]
  simp only[if_true]
  grind
 ·rw[aNj]
  have h2:s.natAbs*t.natAbs<2^(n*n*(2*(2^n*(g+1)))+1)*2^h:=aNg s2 t2
  rw[←Nat.pow_add] at h2
  exact aLg h2 (aNh (by decide) (by omega))
 ·exact(xL.We hn fun j hj=>(s3 i j hi hj).mul (t3 j hj)).wide (by omega)
theorem aCD {f:Nat→Rat} {n:Nat} (h:∀i,i<n→0≤f i) {j:Nat} (hj:j<n):f j≤Sg f n:=by
 induction n with
 | zero=>omega
 |
  succ n ih =>
  have h0:=Q5 fun i (hi:i<n)=>h i (by omega)
  have hn:=h n (by omega)
  rw[Sg]
  by_cases DY:j=n
  ·subst DY;grind
  ·have:=ih (fun i hi=>h i (by omega)) (by omega)
   grind
theorem aoA (x:Nat→Rat):∀n,1≤n→∃m,m<n∧∀j,j<n→x j≤x m
 |
  n+1,_=>by
  by_cases hn:n=0
  ·subst hn
   exact⟨0,by decide,fun j hj=>by rw[show j=0 by omega];exact aOu⟩
  ·obtain⟨m,h1,h2⟩:=aoA x n (by omega)
   by_cases h:x m≤x n
   ·exact⟨n,by omega,fun j hj=>by
     by_cases DY:j=n
     ·subst DY;exact aOu
     ·exact Rat.le_trans (h2 j (by omega)) h⟩
   ·exact⟨m,by omega,fun j hj=>by
     by_cases DY:j=n
     ·subst DY
      have:=Rat.not_le.1 h
      grind
     ·exact h2 j (by omega)⟩
def svA (n:Nat) (G:Nat→Nat→Rat) (E:Nat→Rat) (r:Rat) (i j:Nat):Rat:=(if j=i then Sg (G i) n+E i+r else 0)-G i j
theorem atA {n:Nat} {G:Nat→Nat→Rat} {E x:Nat→Rat} {r:Rat} {i:Nat} (hi:i<n):Sg (fun j=>svA n G E r i j*x j) n=(Sg (G i) n+E i+r)*x i-Sg (fun j=>G i j*x j) n:=by
 have e:Sg (fun j=>svA n G E r i j*x j) n=Sg (fun j=>if j=i then (Sg (G i) n+E i+r)*x i else 0) n-Sg (fun j=>G i j*x j) n:=by
  rw[←TB]
  refine fW fun j _ => ?_
  unfold svA
  by_cases h:j=i
  ·subst h
   rw[if_pos rfl,if_pos rfl]
   grind
  ·rw[if_neg h,if_neg h]
   grind
 rw[e,IN (k:=i) hi fun j _ hj=>if_neg hj,if_pos rfl]
theorem QJ {n:Nat} {G:Nat→Nat→Rat} {E x:Nat→Rat} {r M:Rat} (hG:∀i j,0≤G i j) (hE:∀i,0≤E i) (hr:0≤r) (hx:gT n (svA n G E r) (fun _=>0) x) (hM:0<M) (hle:∀j,j<n→x j≤M) {i:Nat} (hi:i<n) (hxi:x i=M) :
  E i=0∧∀j,j<n→0<G i j→x j=M:=by
 have h1:=hx i hi
 rw[atA hi,hxi] at h1
 have h2:Sg (fun j=>G i j*(M-x j)) n+(E i+r)*M=0:=by
  have e:Sg (fun j=>G i j*(M-x j)) n=M*Sg (G i) n-Sg (fun j=>G i j*x j) n:=by
   rw[←Ln,←TB]
   exact fW fun j _=>by grind
  rw[e]
  grind
 have h3:∀j,j<n→0≤G i j*(M-x j):=fun j hj=>aOv (hG i j) (by have:=hle j hj;grind)
 have h4:=Q5 h3
 have hEi:=hE i
 have h5:0≤E i*M:=aOv hEi (Rat.le_of_lt hM)
 have h6:0≤r*M:=aOv hr (Rat.le_of_lt hM)
 refine⟨?_,fun j hj hg => ?_⟩
 ·have h7:E i*M=0:=by grind
  rcases Rat.mul_eq_zero.1 h7 with h | h
  ·exact h
  ·grind
 ·have h7:=aCD h3 hj
  have h8:G i j*(M-x j)=0:=by have:=h3 j hj;grind
  rcases Rat.mul_eq_zero.1 h8 with h | h
  ·grind
  ·grind
theorem asK {n:Nat} {A:Nat→Nat→Rat} {x:Nat→Rat} (hx:gT n A (fun _=>0) x):gT n A (fun _=>0) fun i => -x i:=fun i hi=>by
 have e:Sg (fun j=>A i j * -x j) n=(-1)*Sg (fun j=>A i j*x j) n:=by
  rw[←Ln]
  exact fW fun j _=>by grind
 rw[e,hx i hi]
 grind
theorem UG {n:Nat} {G:Nat→Nat→Rat} {E:Nat→Rat} {r:Rat} (hG:∀i j,0≤G i j) (hE:∀i,0≤E i) (hr:0≤r)
  (wZ:∀S:Nat→Prop,(∀i j,i<n→j<n→S i→0<G i j→S j)→(∀i,i<n→S i→E i=0)→∀i,i<n→¬S i):Bh n (svA n G E r):=by
 have half:∀x,gT n (svA n G E r) (fun _=>0) x→∀j,j<n→x j≤0:=fun x hx j hj=>by
  obtain⟨m,m1,m2⟩:=aoA x n (by omega)
  refine Rat.not_lt.1 fun lQ => ?_
  have hM:0<x m:=by have:=m2 j hj;grind
  refine wZ (fun i=>x i=x m) (fun i k hi hk hS hg=>(QJ hG hE hr hx hM m2 hi hS).2 k hk hg) (fun i hi hS=>(QJ hG hE hr hx hM m2 hi hS).1) m m1 rfl
 intro x hx j hj
 have h1:=half x hx j hj
 have h2 : -x j≤0:=half _ (asK hx) j hj
 grind
section
variable {g:List (List Rat)} {e:List Rat} {n:Nat} {S:Nat→Prop}
def noS (S:Nat→Prop) (st:List Bool):Prop:=∀i,S i→st.getD i false=false
theorem Zs {st:List Bool} {i:Nat} {v:Bool} (h:noS S st) (hv:S i→v=false):noS S (st.set i v):=fun k hk=>by
 rw[aLb,List.getElem?_set]
 by_cases Uj:i=k
 ·subst Uj
  rw[if_pos rfl]
  by_cases hl:i<st.length
  ·rw[if_pos hl];exact hv hk
  ·rw[if_neg hl];rfl
 ·rw[if_neg Uj]
  have:=h k hk
  rwa [aLb] at this
theorem JM {f:List Bool→Nat→List Bool} {st:List Bool} (h:noS S st):∀m,(∀st j,j<m→noS S st→noS S (f st j))→noS S ((aLa m).foldl f st)
 | 0,_=>h
 |
  m+1,hf=>by
  rw[rZ]
  exact hf _ m (by omega) (JM h m fun st j hj=>hf st j (by omega))
theorem UA (mN:∀i j,S i→j<n→0<(g.getD i []).getD j 0→S j) (he:∀i,S i→¬0<e.getD i 0) (m:Nat):noS S (oS g e n m):=by
 refine JM (fun i _ => ?_) m fun st _ _ h => ?_
 ·rw[aLb,aNp]
  split<;>rfl
 ·refine JM h n fun st i _ h => ?_
  unfold Mv QV
  refine JM (Zs h fun hi => ?_) n fun st j hj h => ?_
  ·rw[h i hi,decide_eq_false (he i hi)]
   rfl
  ·refine Zs h fun hi => ?_
   rw[h i hi,Bool.false_or]
   by_cases hg:0<(g.getD i []).getD j 0
   ·rw[h j (mN i j hi hj hg),Bool.and_false]
   ·rw[decide_eq_false hg]
    rfl
end
end Go.PM
namespace Go.PM
theorem SQ (n:Nat) (h:n<18446744073709551616):dO .and (.int .u64 (n:Int)) (.int .u64 4294967295)=some (.int .u64 ((n % 4294967296:Nat):Int)):=by
 simp only[dO,if_true]
 have h1:(BitVec.ofInt IntKind.u64.bits (n:Int) &&& BitVec.ofInt IntKind.u64.bits 4294967295).toNat=n % 4294967296:=by
  rw[BitVec.toNat_and]
  have e1:(BitVec.ofInt IntKind.u64.bits (n:Int)).toNat=n:=by
   rw[BitVec.toNat_ofInt]
   simp only[IntKind.bits]
   omega
  have e2:(BitVec.ofInt IntKind.u64.bits 4294967295).toNat=2^32-1:=by
   rw[BitVec.toNat_ofInt]
   simp only[IntKind.bits]
   omega
  rw[e1,e2,Nat.and_two_pow_sub_one_eq_mod]
 rw[h1,eV _ (by omega)]
end Go.PM
namespace Go.PM
def Qd (cs:List lH) (i:Nat):Int:=((cs[i]?).map (·.t)).getD 0
def wkC (cs:List lH) (i:Nat):Int:=((cs[i]?).map (·.w)).getD 0
def klC (cs:List lH) (i:Nat):Int:=((cs[i]?).map (·.k)).getD 0
def Lp (st:List Int) (i:Nat):Int:=(st[i]?).getD 0
theorem Yf {cs:List lH} {i:Nat} {x:lH} (h:cs[i]? = some x):Qd cs i=x.t:=by simp[Qd,h]
theorem aAa {cs:List lH} {i:Nat} {x:lH} (h:cs[i]? = some x):wkC cs i=x.w:=by simp[wkC,h]
theorem anT {st:List Int} {i:Nat} {x:Int} (h:st[i]? = some x):Lp st i=x:=by simp[Lp,h]
def inS (cs:List lH) (st:List Int) (t:Int) (i:Nat):Bool:=decide (0≤Lp st i)&&decide (Lp st i≤t)&&decide (t<Lp st i+wkC cs i)
def bz (cs:List lH) (st:List Int) (t:Int):Nat:=(aLa cs.length).countP (inS cs st t)
def isW (cs:List lH) (st:List Int) (t:Int) (i:Nat):Bool:=decide (Lp st i<0)&&decide (Qd cs i≤t)
def wt (cs:List lH) (st:List Int) (t:Int):List Nat:=(aLa cs.length).filter (isW cs st t)
def MX (cK:Int) (cs:List lH) (i k:Nat):Bool :=
 if cK=1 then true else if cK=2 then decide (wkC cs i<wkC cs k) else if cK=3 then decide (klC cs i<klC cs k) else false
def Ck (cK:Int) (cs:List lH) (b:Option Nat) (i:Nat):Option Nat:=match b with
 | none=>some i
 | some k=>if MX cK cs i k then some i else some k
def nxt (cK:Int) (cs:List lH) (st:List Int) (t:Int):Option Nat:=(wt cs st t).foldl (Ck cK cs) none
def fill (cK xE:Int) (cs:List lH) (t:Int):Nat→List Int→List Int
 | 0,st=>st
 |
  n+1,st=>if (bz cs st t:Int)<xE then (match nxt cK cs st t with
  | none=>st
  | some k=>fill cK xE cs t n (st.set k t)) else st
def full (cK xE:Int) (cs:List lH) (st:List Int) (t:Int):Prop:=xE≤(bz cs st t:Int)∨nxt cK cs st t=none
def runT (cK xE:Int) (cs:List lH):Int→Nat→List Int→List Int
 | _,0,st=>st
 | t,n+1,st=>runT cK xE cs (t+1) n (fill cK xE cs t cs.length st)
def stL (cK xE:Int) (cs:List lH):List Int:=runT cK xE cs 0 100000 (aL4 cs.length (-1))
section
variable {cK xE:Int} {cs:List lH} {st:List Int} {t:Int}
theorem AQ (h:full cK xE cs st t) (n:Nat):fill cK xE cs t n st=st:=by
 cases n with
 | zero=>rfl
 |
  succ n =>
  rw[fill]
  rcases h with h | h
  ·rw[if_neg (by omega)]
  ·split
   ·rw[h]
   ·rfl
theorem R4 (m:Nat):∀(t:Int) (n:Nat),(∀u,t≤u→u<t+m→full cK xE cs st u)→m≤n→runT cK xE cs t n st=runT cK xE cs (t+m) (n-m) st:=by
 induction m with
 | zero=>intro t n _ _;simp
 |
  succ m ih =>
  intro t n h hm
  obtain⟨n,rfl⟩:∃k,n=k+1:=⟨n-1,by omega⟩
  rw[runT,AQ (h t (aOw _) (by omega)),ih (t+1) n (fun u h1 h2=>h u (by omega) (by omega)) (by omega)]
  congr 1
  ·omega
  ·omega
theorem adN (n:Nat):∀(t:Int),(∀u,t≤u→full cK xE cs st u)→runT cK xE cs t n st=st:=by
 intro t h
 rw[R4 n t n (fun u h1 _=>h u h1) (aLe _),aLx]
 rfl
theorem Z5 {a b:Int} (ha:0≤a) (IV:a≤b) (hb:b≤100000) (h:∀u,a≤u→u<b→full cK xE cs st u):runT cK xE cs a (100000-a).toNat st=runT cK xE cs b (100000-b).toNat st:=by
 rw[R4 (b-a).toNat a _ (fun u h1 h2=>h u h1 (by omega)) (by omega)]
 congr 1
 ·omega
 ·omega
theorem anN {a:Int} (ha:0≤a) (hb:a<100000):runT cK xE cs a (100000-a).toNat st=runT cK xE cs (a+1) (100000-(a+1)).toNat (fill cK xE cs a cs.length st):=by
 rw[show (100000-a).toNat=(100000-(a+1)).toNat+1 by omega,runT]
theorem RA {ws:List Nat} {k:Nat}:∃j,(ws.foldl (Ck cK cs) (some k))=some j∧(j=k∨j∈ws):=by
 induction ws generalizing k with
 | nil=>exact⟨k,rfl,.inl rfl⟩
 |
  cons i ws ih =>
  rw[aOx]
  have:∃q,Ck cK cs (some k) i=some q∧(q=k∨q=i):=by
   unfold Ck
   simp only
   split
   ·exact⟨i,rfl,.inr rfl⟩
   ·exact⟨k,rfl,.inl rfl⟩
  obtain⟨q,hq,hqq⟩:=this
  rw[hq]
  obtain⟨j,h1,h2⟩:=ih (k:=q)
  refine⟨j,h1,?_⟩
  rcases h2 with rfl | h2
  ·rcases hqq with rfl | rfl
   ·exact .inl rfl
   ·exact .inr aLO
  ·exact .inr (aLN _ h2)
theorem Bx:nxt cK cs st t=none↔wt cs st t=[]:=by
 unfold nxt
 cases h:wt cs st t with
 | nil=>exact⟨fun _=>rfl,fun _=>rfl⟩
 |
  cons i ws =>
  refine⟨fun h2 => ?_,fun h2=>(by cases h2)⟩
  rw[aOx] at h2
  obtain⟨j,h3,_⟩:=RA (cK:=cK) (cs:=cs) (ws:=ws) (k:=i)
  rw[show Ck cK cs none i=some i from rfl,h3] at h2
  cases h2
theorem Tx {k:Nat} (h:nxt cK cs st t=some k):k∈wt cs st t:=by
 unfold nxt at h
 cases hw:wt cs st t with
 | nil=>rw[hw] at h;cases h
 |
  cons i ws =>
  rw[hw,aOx] at h
  obtain⟨j,h3,h4⟩:=RA (cK:=cK) (cs:=cs) (ws:=ws) (k:=i)
  rw[show Ck cK cs none i=some i from rfl,h3] at h
  injection h with h
  subst h
  rcases h4 with rfl | h4
  ·exact aLO
  ·exact aLN _ h4
theorem P5 {k:Nat}:k∈wt cs st t↔k<cs.length∧Lp st k<0∧Qd cs k≤t:=by
 simp[wt,isW]
theorem aiZ:(wt cs st t).Nodup:=List.Pairwise.filter _ List.nodup_range
theorem I1 {k i:Nat} (hk:k<st.length):Lp (st.set k t) i=if i=k then t else Lp st i:=by
 unfold Lp
 rw[List.getElem?_set]
 by_cases h:i=k
 ·subst h
  simp[hk]
 ·rw[if_neg (fun h'=>h h'.symm),if_neg h]
theorem Td {p q:Nat→Bool} {k:Nat} (hp:p k=false) (h:∀i,i≠k→q i=p i):∀n,(aLa n).countP q=(aLa n).countP p+if k<n∧q k=true then 1 else 0:=by
 intro n
 induction n with
 | zero=>simp
 |
  succ n ih =>
  rw[aOr,aOy,aOy,ih]
  by_cases hk:n=k
  ·subst hk
   simp only[aOz,hp]
   cases hq:q n<;>simp
  ·rw[aOz,aOz,h n hk]
   have:(k<n+1∧q k=true)↔(k<n∧q k=true):=by
    constructor
    ·rintro⟨h1,h2⟩;exact⟨by omega,h2⟩
    ·rintro⟨h1,h2⟩;exact⟨by omega,h2⟩
   simp only[this]
   omega
theorem axF {k:Nat} {u:Int} (hk:k<cs.length) (hl:st.length=cs.length) (hs:Lp st k<0) (h0:0≤t):bz cs (st.set k t) u=bz cs st u+if t≤u∧u<t+wkC cs k then 1 else 0:=by
 unfold bz
 rw[Td (p:=inS cs st u) (q:=inS cs (st.set k t) u) (k:=k)]
 ·congr 1
  have:(k<cs.length∧inS cs (st.set k t) u k=true)↔(t≤u∧u<t+wkC cs k):=by
   simp only[inS,I1 (t:=t) (i:=k) (by omega:k<st.length),if_true,aLM,decide_eq_true_eq]
   constructor
   ·rintro⟨_,⟨_,h1⟩,h2⟩;exact⟨h1,h2⟩
   ·rintro⟨h1,h2⟩;exact⟨hk,⟨h0,h1⟩,h2⟩
  simp only[this]
 ·simp only[inS]
  rw[decide_eq_false (by omega)]
  rfl
 ·intro i hi
  simp only[inS,I1 (t:=t) (i:=i) (by omega:k<st.length),if_neg hi]
theorem azS {k:Nat} {u:Int} (hl:st.length=cs.length) (hk:k<cs.length) (h0:0≤t):wt cs (st.set k t) u=(wt cs st u).filter (· != k):=by
 unfold wt
 rw[List.filter_filter]
 refine List.filter_congr fun i hi => ?_
 simp only[isW,I1 (t:=t) (i:=i) (by omega:k<st.length)]
 by_cases h:i=k
 ·subst h
  simp
  omega
 ·simp[h]
def IH (st:List Int):Nat:=st.countP (fun s=>decide (s<0))
theorem C4 {k:Nat} (hk:k<st.length) (hs:Lp st k<0) (h0:0≤t):IH (st.set k t)+1=IH st:=by
 unfold IH
 rw[List.countP_set hk]
 have hx:st[k]=Lp st k:=by
  rw[anT (x:=st[k]) (aLl hk)]
 have h1:decide (st[k]<0)=true:=by rw[hx];exact decide_eq_true hs
 have h2:decide (t<0)=false:=decide_eq_false (by omega)
 have h3:0<st.countP (fun s=>decide (s<0)):=by
  rw[List.countP_pos_iff]
  exact⟨st[k],aLr hk,h1⟩
 simp only[h1,h2,if_true,Bool.false_eq_true,if_false]
 omega
theorem acQ (hl:st.length=cs.length) (h0:0≤t):∀(n m:Nat),IH st≤n→IH st≤m→fill cK xE cs t n st=fill cK xE cs t m st:=by
 intro n
 induction n generalizing st with
 |
  zero =>
  intro m hn hm
  have hf:full cK xE cs st t:=by
   right
   rw[Bx]
   cases hw:wt cs st t with
   | nil=>rfl
   |
    cons i ws =>
    have h1:i∈wt cs st t:=by rw[hw];exact aLO
    obtain⟨h2,h3,_⟩:=P5.1 h1
    have:=C4 (t:=t) (by omega:i<st.length) h3 h0
    omega
  rw[AQ hf,AQ hf]
 |
  succ n ih =>
  intro m hn hm
  cases m with
  |
   zero =>
   have hf:full cK xE cs st t:=by
    right
    rw[Bx]
    cases hw:wt cs st t with
    | nil=>rfl
    |
     cons i ws =>
     have h1:i∈wt cs st t:=by rw[hw];exact aLO
     obtain⟨h2,h3,_⟩:=P5.1 h1
     have:=C4 (t:=t) (by omega:i<st.length) h3 h0
     omega
   rw[AQ hf,AQ hf]
  |
   succ m =>
   rw[fill,fill]
   split
   ·split
    ·rfl
    ·rename_i k hk
     obtain⟨h2,h3,_⟩:=P5.1 (Tx hk)
     have:=C4 (t:=t) (by omega:k<st.length) h3 h0
     exact ih (by simp[hl]) m (by omega) (by omega)
   ·rfl
theorem Zl:IH st≤st.length:=List.countP_le_length
theorem adJ {k:Nat} (hl:st.length=cs.length) (h0:0≤t) (hb:(bz cs st t:Int)<xE) (hk:nxt cK cs st t=some k):fill cK xE cs t cs.length (st.set k t)=fill cK xE cs t cs.length st:=by
 obtain⟨h2,h3,_⟩:=P5.1 (Tx hk)
 have h4:=C4 (t:=t) (by omega:k<st.length) h3 h0
 have h5:=Zl (st:=st)
 rw[acQ (st:=st) hl h0 cs.length (cs.length+1) (by omega) (by omega)]
 conv=>rhs;rw[fill,if_pos hb,hk]
def evT (cs:List lH) (st:List Int) (i:Nat):Int:=if 0≤Lp st i then Lp st i+wkC cs i else Qd cs i
def azG (cs:List lH) (st:List Int) (t:Int) (b:Int) (i:Nat):Int:=if t<evT cs st i∧(b<0∨evT cs st i<b) then evT cs st i else b
def later (cs:List lH) (st:List Int) (t:Int):Int:=(aLa cs.length).foldl (azG cs st t) (-1)
structure Way (cs:List lH) (st:List Int) (t:Int):Prop where
 len:st.length=cs.length
 low:∀i,i<cs.length → -1≤Lp st i
 high:∀i,i<cs.length→Lp st i≤t
 bd:∀i,i<cs.length→Lp st i+1000*(IH st:Int)≤10000+1000*(cs.length:Int)
 tm:0≤t∧t+1000*(IH st:Int)≤11000+1000*(cs.length:Int)
theorem Way.set {k:Nat} (h:Way cs st t) (hk:k<cs.length) (hs:Lp st k<0):Way cs (st.set k t) t:=by
 have hl:=h.len
 have htm:=h.tm
 have h4:=C4 (t:=t) (by omega:k<st.length) hs htm.1
 refine⟨by simp[hl],fun i hi => ?_,fun i hi => ?_,fun i hi => ?_,htm.1,by omega⟩
 all_goals rw[I1 (by omega:k<st.length)]
 ·have:=h.low i hi
  split<;>omega
 ·have:=h.high i hi
  split<;>omega
 ·have:=h.bd i hi
  split<;>omega
theorem Way.le (h:Way cs st t) (hc:oU cs):t≤35000∧∀i,i<cs.length→Lp st i≤34000:=by
 have hlen:=hc.2
 have htm:=h.tm
 refine⟨by omega,fun i hi => ?_⟩
 have:=h.bd i hi
 omega
theorem oU.bnd (hc:oU cs) {i:Nat} (hi:i<cs.length):(0≤Qd cs i∧Qd cs i≤10000)∧(1≤wkC cs i∧wkC cs i≤1000):=by
 have hx:cs[i]? = some cs[i]:=aLl hi
 have:=hc.at hx
 rw[Yf hx,aAa hx]
 exact⟨this.1,this.2.1⟩
def OR (cK:Int) (cs:List lH) (ws:List Nat):Nat :=
 if cK=1 then ws.length-1 else if cK=2∨cK=3 then (aLa ws.length).foldl (fun b k=>if MX cK cs (ws.getD k 0) (ws.getD b 0) then k else b) 0 else 0
theorem Yh {ws:List Nat} {k:Nat} (h:∀i j,MX cK cs i j=false):ws.foldl (Ck cK cs) (some k)=some k:=by
 induction ws with
 | nil=>rfl
 |
  cons i ws ih =>
  rw[aOx]
  have:Ck cK cs (some k) i=some k:=by
   unfold Ck
   simp only[h]
   rfl
  rw[this,ih]
theorem apC {ws:List Nat} (fN:ws≠[]) (hr:0≤cK∧cK≤3):OR cK cs ws<ws.length∧ws[OR cK cs ws]? = ws.foldl (Ck cK cs) none:=by
 have hlen:0<ws.length:=List.length_pos_iff.2 fN
 unfold OR
 by_cases h1:cK=1
 ·rw[if_pos h1]
  rcases List.eq_nil_or_concat ws with rfl | ⟨xs,y,rfl⟩
  ·exact absurd rfl fN
  ·rw[List.concat_eq_append,aOs]
   refine⟨by simp,?_⟩
   simp only[aLp,aLo,aMR,aMM,Nat.add_sub_cancel,aOx,aOA]
   rw[List.getElem?_append_right (aLe _),aLx]
   unfold Ck
   split
   ·rfl
   ·simp only[MX,if_pos h1,if_true]
    rfl
 ·rw[if_neg h1]
  by_cases h2:cK=2∨cK=3
  ·rw[if_pos h2]
   have aFp:∀i,MX cK cs i i=false:=fun i=>by
    unfold MX
    rw[if_neg h1]
    split
    ·exact decide_eq_false (by omega)
    ·split
     ·exact decide_eq_false (by omega)
     ·rfl
   have key:∀n,n<ws.length→(aLa (n+1)).foldl (fun b k=>if MX cK cs (ws.getD k 0) (ws.getD b 0) then k else b) 0<ws.length ∧
     ws[(aLa (n+1)).foldl (fun b k=>if MX cK cs (ws.getD k 0) (ws.getD b 0) then k else b) 0]? = (ws.take (n+1)).foldl (Ck cK cs) none:=by
    intro n
    induction n with
    |
     zero =>
     intro _
     have:(aLa (0+1)).foldl (fun b k=>if MX cK cs (ws.getD k 0) (ws.getD b 0) then k else b) 0=0:=by
      simp[aOr,aFp]
     rw[this]
     refine⟨hlen,?_⟩
     cases ws with
     | nil=>exact absurd rfl fN
     | cons i ws=>rfl
    |
     succ n ih =>
     intro hn
     obtain⟨g1,g2⟩:=ih (by omega)
     rw[aOr,aOs,aOx,aOA]
     generalize (aLa (n+1)).foldl (fun b k=>if MX cK cs (ws.getD k 0) (ws.getD b 0) then k else b) 0=b at *
     obtain⟨x,hx⟩:∃x,ws[n+1]? = some x:=⟨_,aLl hn⟩
     obtain⟨y,hy⟩:∃y,ws[b]? = some y:=⟨_,aLl g1⟩
     rw[aM4,hx,aOs,←g2,hy]
     simp only[Option.toList_some,aOx,aOA,aLb,hx,hy,aOc,Ck]
     split
     ·exact⟨hn,hx⟩
     ·exact⟨g1,hy⟩
   have:=key (ws.length-1) (by omega)
   rw[show ws.length-1+1=ws.length by omega,aL7 (aLe _)] at this
   exact this
  ·rw[if_neg h2]
   refine⟨hlen,?_⟩
   have hb:∀i j,MX cK cs i j=false:=fun i j=>by
    unfold MX
    rw[if_neg h1,if_neg (by omega),if_neg (by omega)]
   cases ws with
   | nil=>exact absurd rfl fN
   |
    cons i ws =>
    rw[aOx,show Ck cK cs none i=some i from rfl,Yh hb]
    rfl
end
end Go.PM
namespace Go.PM
def Y0 (st:List Int) (i:Nat):Bool:=decide (Lp st i<0)
def gtB (u e:Int):Bool:=decide (u<e)
section
variable {cK xE:Int} {cs:List lH} {st:List Int} {t:Int}
theorem oU.sorted (hc:oU cs):∀ {i j:Nat},i≤j→j<cs.length→Qd cs i≤Qd cs j:=by
 intro i j Qq hj
 induction j with
 |
  zero =>
  have:i=0:=by omega
  subst this
  exact aOw _
 |
  succ j ih =>
  rcases Nat.lt_or_ge i (j+1) with h | h
  ·have h1:=ih (by omega) (by omega)
   have hx:cs[j+1]? = some cs[j+1]:=aLl hj
   have hy:cs[j]? = some cs[j]:=aLl (by omega)
   have h2:=(hc.1 (j+1) _ hx).2 _ (by omega) (by rw[Nat.add_sub_cancel];exact hy)
   rw[Yf hx]
   rw[Yf hy] at h1
   omega
  ·have:i=j+1:=by omega
   subst this
   exact aOw _
theorem Jf {fS:Nat} (aBv:fS≤cs.length) (past:∀i,i<fS→Qd cs i≤t) (fut:∀i,fS≤i→i<cs.length→t<Qd cs i):wt cs st t=(aLa fS).filter (Y0 st):=by
 unfold wt
 rw[show cs.length=fS+(cs.length-fS) by omega,List.range_add,List.filter_append]
 have h1:(aLa fS).filter (isW cs st t)=(aLa fS).filter (Y0 st):=by
  refine List.filter_congr fun i hi => ?_
  rw[aLP] at hi
  simp[isW,Y0,past i hi]
 have h2:((aLa (cs.length-fS)).map fun x=>fS+x).filter (isW cs st t)=[]:=by
  rw[List.filter_eq_nil_iff]
  intro i hi
  obtain⟨j,hj,rfl⟩:=aMP.1 hi
  rw[aLP] at hj
  have:=fut (fS+j) (by omega) (by omega)
  simp only[isW,aLM,decide_eq_true_eq]
  omega
 rw[h1,h2,aMm]
structure SW (cK xE:Int) (cs:List lH) (st:List Int) (t:Int) (fS:Nat) (ws:List Nat) (ends:List Int):Prop where
 len:st.length=cs.length
 low:∀i,i<cs.length → -1≤Lp st i
 high:∀i,i<cs.length→Lp st i≤t
 bd:∀i,i<cs.length→Lp st i+1000*(IH st:Int)≤10000+1000*(cs.length:Int)
 tm : -1≤t
 Q1:fS≤cs.length
 past:∀i,i<fS→Qd cs i≤t
 fut:∀i,fS≤i→i<cs.length→t<Qd cs i∧Lp st i<0
 wsq:ws=wt cs st t
 cnt:∀u,t≤u→ends.countP (gtB u)=bz cs st u
 ef:∀e∈ends,t<e
 eb:∀e∈ends,e+1000*(IH st:Int)≤11000+1000*(cs.length:Int)
 fl:full cK xE cs st t
 room:ws.length+ends.length≤fS
 es:(ends.length:Int)≤xE
 run:runT cK xE cs (t+1) (100000-(t+1)).toNat st=stL cK xE cs
theorem I5 {n i:Nat} (h:i<n):Lp (aL4 n (-1)) i = -1:=anT (by rw[aNp,if_pos h])
theorem SW.start (hc:oU cs) (hs:1≤xE):SW cK xE cs (aL4 cs.length (-1)) (-1) 0 [] []:=by
 have hw:wt cs (aL4 cs.length (-1)) (-1)=[]:=by
  rw[Jf (aLI _) (fun i hi=>by omega) fun i _ hi=>by have:=hc.bnd hi;omega]
  rfl
 have hu:IH (aL4 cs.length (-1))=cs.length:=by simp[IH,List.countP_replicate]
 refine⟨by simp,fun i hi=>by rw[I5 hi];decide,fun i hi=>by rw[I5 hi];decide,fun i hi=>by rw[I5 hi,hu];omega,by decide,aLI _,fun i hi=>by omega,fun i _ hi=>⟨by have:=hc.bnd hi;omega,by rw[I5 hi];decide⟩,hw.symm,fun u _ => ?_,fun e he=>(by cases he),fun e he=>(by cases he),.inr (Bx.2 hw),aLe _,by simp;omega,rfl⟩
 unfold bz
 rw[(List.countP_eq_zero (p:=inS cs (aL4 cs.length (-1)) u)).2]
 ·rfl
 ·intro i hi
  rw[aLP] at hi
  simp only[inS,I5 hi,aLM,decide_eq_true_eq]
  omega
def T0 (w:Bool) (b e:Int):Int:=if b<0∨(w=true∧e<b) then e else b
theorem aAd {es:List Int} {b:Int} (h:0≤b):es.foldl (T0 false) b=b:=by
 induction es with
 | nil=>rfl
 |
  cons e es ih =>
  rw[aOx]
  have:T0 false b e=b:=by
   unfold T0
   rw[if_neg (by simp;omega)]
  rw[this,ih]
theorem avS:∀ {es:List Int} {b:Int},(∀e∈es,0≤e)→(es.foldl (T0 true) b=b∨es.foldl (T0 true) b∈es)∧(∀e∈es,es.foldl (T0 true) b≤e)∧(0≤b→es.foldl (T0 true) b≤b)∧(es≠[]→0≤es.foldl (T0 true) b)
 | [],b,_=>⟨.inl rfl,fun e he=>(by cases he),fun _=>aOw _,fun h=>absurd rfl h⟩
 |
  e::es,b,h=>by
  rw[aOx]
  have h1:=h e aLO
  have h2:∀e'∈es,0≤e':=fun e' he=>h e' (aLN _ he)
  have hm:(T0 true b e=b∨T0 true b e=e)∧T0 true b e≤e∧(0≤b→T0 true b e≤b)∧0≤T0 true b e:=by
   unfold T0
   by_cases hc:b<0∨(true=true∧e<b)
   ·rw[if_pos hc]
    refine⟨.inr rfl,aOw _,fun hb => ?_,h1⟩
    rcases hc with hc | hc<;>omega
   ·rw[if_neg hc]
    simp at hc
    exact⟨.inl rfl,hc.2,fun _=>aOw _,hc.1⟩
  obtain⟨m1,m2,m3,m4⟩:=hm
  obtain⟨g1,g2,g3,g4⟩:=avS (es:=es) (b:=T0 true b e) h2
  have g3:=g3 m4
  refine⟨?_,?_,fun hb=>by have:=m3 hb;omega,fun _ => ?_⟩
  ·rcases g1 with g1 | g1
   ·rw[g1]
    rcases m1 with m1 | m1
    ·exact .inl m1
    ·rw[m1];exact .inr aLO
   ·exact .inr (aLN _ g1)
  ·intro e' he
   rcases List.mem_cons.1 he with rfl | he
   ·omega
   ·exact g2 e' he
  ·rcases g1 with g1 | g1
   ·rw[g1];exact m4
   ·exact h2 _ g1
def S3 (cs:List lH) (fS:Nat):Int:=if fS<cs.length then Qd cs fS else -1
def OW (cs:List lH) (fS:Nat) (ws:List Nat) (ends:List Int):Int:=ends.foldl (T0 (decide (0<ws.length))) (S3 cs fS)
theorem SW.ahK {fS:Nat} {ws:List Nat} {ends:List Int} (h:SW cK xE cs st t fS ws ends):ends.length=bz cs st t:=by
 rw[←h.cnt t (aOw _),aOB.2]
 intro e he
 exact decide_eq_true (h.ef e he)
theorem SW.time {fS:Nat} {ws:List Nat} {ends:List Int} (h:SW cK xE cs st t fS ws ends) (hc:oU cs) (hs:1≤xE) (hg:fS<cs.length∨0<ws.length) :
  (t<OW cs fS ws ends∧OW cs fS ws ends+1000*(IH st:Int)≤11000+1000*(cs.length:Int))∧(∀i,fS≤i→i<cs.length→OW cs fS ws ends≤Qd cs i) ∧
   (fS<cs.length∧Qd cs fS=OW cs fS ws ends∨0<ws.length∧OW cs fS ws ends∈ends)∧runT cK xE cs (OW cs fS ws ends) (100000-OW cs fS ws ends).toNat st=stL cK xE cs:=by
 have htm:=h.tm
 have TX:=Zl (st:=st)
 have hlen:=h.len
 have he0:∀e∈ends,0≤e:=fun e he=>by have:=h.ef e he;omega
 have aDX:=hc.2
 by_cases hw:0<ws.length
 ·have hbz:xE≤(bz cs st t:Int):=by
   rcases h.fl with hf | hf
   ·exact hf
   ·rw[Bx,←h.wsq] at hf
    rw[hf] at hw
    simp at hw
  have fN:ends≠[]:=by
   intro he
   have:=h.ahK
   rw[he] at this
   simp at this
   omega
  obtain⟨g1,g2,g3,g4⟩:=avS (es:=ends) (b:=S3 cs fS) he0
  have acR:OW cs fS ws ends=ends.foldl (T0 true) (S3 cs fS):=by unfold OW;rw[decide_eq_true hw]
  rw[acR]
  generalize ends.foldl (T0 true) (S3 cs fS)=w at *
  have g4:=g4 fN
  have Pk:(fS<cs.length∧Qd cs fS=w)∨w∈ends:=by
   rcases g1 with g1 | g1
   ·unfold S3 at g1
    split at g1
    ·rename_i mN
     exact .inl ⟨mN,g1.symm⟩
    ·omega
   ·exact .inr g1
  have htw:t<w∧w+1000*(IH st:Int)≤11000+1000*(cs.length:Int):=by
   rcases Pk with⟨h1,h2⟩ | h1
   ·have:=h.fut fS (aLe _) h1
    have:=hc.bnd h1
    omega
   ·exact⟨h.ef _ h1,h.eb _ h1⟩
  refine⟨htw,fun i h1 h2 => ?_,Pk.imp id fun h1=>⟨hw,h1⟩,?_⟩
  ·have h3:=hc.sorted h1 h2
   have h4:=hc.bnd (i:=fS) (by omega)
   have h5:S3 cs fS=Qd cs fS:=by unfold S3;rw[if_pos (by omega)]
   have:=g3 (by rw[h5];omega)
   omega
  ·rw[←h.run]
   refine(Z5 (by omega) (by omega) (by omega) fun u h1 h2 => .inl ?_).symm
   rw[←h.cnt u (by omega),(aOB (p:=gtB u)).2 fun e he=>decide_eq_true (by have:=g2 e he;omega),h.ahK]
   exact hbz
 ·have mN:fS<cs.length:=by omega
  have h5:S3 cs fS=Qd cs fS:=by unfold S3;rw[if_pos mN]
  have h4:=hc.bnd mN
  have hf:=(h.fut fS (aLe _) mN).1
  have acR:OW cs fS ws ends=Qd cs fS:=by unfold OW;rw[decide_eq_false hw,aAd (by rw[h5];omega),h5]
  rw[acR]
  refine⟨⟨hf,by omega⟩,fun i h1 h2=>hc.sorted h1 h2,.inl ⟨mN,rfl⟩,?_⟩
  rw[←h.run]
  refine(Z5 (by omega) (by omega) (by omega) fun u h1 h2 => .inr ?_).symm
  rw[Bx,Jf h.Q1 (fun i hi=>by have:=h.past i hi;omega) fun i h3 h4=>by have:=hc.sorted h3 h4;omega]
  have e1:=Jf (st:=st) h.Q1 h.past fun i h3 h4=>(h.fut i h3 h4).1
  rw[←e1,←h.wsq]
  exact aLk (by omega)
theorem SW.done {fS:Nat} {ws:List Nat} {ends:List Int} (h:SW cK xE cs st t fS ws ends) (aBv:¬fS<cs.length) (hw:¬0<ws.length):st=stL cK xE cs:=by
 rw[←h.run]
 refine(adN _ _ fun u hu => .inr ?_).symm
 have mN:=h.Q1
 have e1:=Jf (st:=st) h.Q1 h.past fun i h3 h4=>(h.fut i h3 h4).1
 rw[Bx,Jf h.Q1 (fun i hi=>by have:=h.past i hi;omega) fun i h3 h4=>by omega,←e1,←h.wsq]
 exact aLk (by omega)
structure Ph4 (cK xE:Int) (cs:List lH) (IW:List Int) (now:Int) (fS tot:Nat) (st:List Int) (ws:List Nat) (ends:List Int):Prop where
 way:Way cs st now
 wsq:ws=wt cs st now
 cnt:∀u,now≤u→ends.countP (gtB u)=bz cs st u
 ef:∀e∈ends,now<e
 eb:∀e∈ends,e+1000*(IH st:Int)≤11000+1000*(cs.length:Int)
 fl:fill cK xE cs now cs.length st=fill cK xE cs now cs.length IW
 past:∀i,i<fS→Qd cs i≤now
 fut:∀i,fS≤i→i<cs.length→now<Qd cs i∧Lp st i<0
 tot:ws.length+ends.length=tot
 es:(ends.length:Int)≤xE
theorem EP:∀ {l:List Nat} {i k:Nat},l.Nodup→l[i]? = some k→l.eraseIdx i=l.filter (· != k)
 | [],_,_,_,h=>by cases h
 |
  x::l,0,k,hn,h=>by
  injection h with h
  subst h
  rw[List.nodup_cons] at hn
  rw[List.eraseIdx_cons_zero,List.filter_cons_of_neg (by simp),List.filter_eq_self.2]
  intro y hy
  have:y≠x:=fun he=>hn.1 (he▸hy)
  simpa using this
 |
  x::l,i+1,k,hn,h=>by
  rw[List.nodup_cons] at hn
  rw[List.getElem?_cons_succ] at h
  have hx:x≠k:=fun he=>hn.1 (he▸aL8 h)
  rw[List.eraseIdx_cons_succ,List.filter_cons_of_pos (by simpa using hx),EP hn.2 h]
theorem Ph4.step {now:Int} {IW:List Int} {fS tot:Nat} {ws:List Nat} {ends:List Int} (h:Ph4 cK xE cs IW now fS tot st ws ends) (hc:oU cs) (hr:0≤cK∧cK≤3) (hb:(ends.length:Int)<xE) (fN:0<ws.length) :
  ∃k,ws[OR cK cs ws]? = some k∧k<cs.length∧OR cK cs ws<ws.length∧(0≤now∧now≤35000)∧Ph4 cK xE cs IW now fS tot (st.set k now) (ws.eraseIdx (OR cK cs ws)) (ends++[now+wkC cs k]):=by
 have afI:ws≠[]:=fun he=>by rw[he] at fN;simp at fN
 obtain⟨g1,g2⟩:=apC (cs:=cs) afI hr
 obtain⟨k,hk⟩:∃k,ws[OR cK cs ws]? = some k:=⟨_,aLl g1⟩
 have hnx:nxt cK cs st now=some k:=by
  unfold nxt
  rw[←h.wsq,←g2,hk]
 obtain⟨m1,m2,m3⟩:=P5.1 (Tx hnx)
 have htm:=h.way.tm
 have hle:=(h.way.le hc).1
 have hbz:(bz cs st now:Int)=ends.length:=by
  rw[←h.cnt now (aOw _),(aOB (p:=gtB now)).2 fun e he=>decide_eq_true (h.ef e he)]
 have Sl:k<st.length:=by rw[h.way.len];exact m1
 have hus:=C4 (t:=now) Sl m2 htm.1
 have hwk:=(hc.bnd m1).2
 refine⟨k,hk,m1,g1,⟨htm.1,hle⟩,h.way.set m1 m2,?_,?_,?_,?_,?_,h.past,?_,?_,?_⟩
 ·rw[azS h.way.len m1 htm.1,←h.wsq]
  exact EP (by rw[h.wsq];exact aiZ) hk
 ·intro u hu
  rw[aOy,h.cnt u hu,axF m1 h.way.len m2 htm.1,aOz]
  congr 1
  simp only[gtB,decide_eq_true_eq]
  by_cases hq:u<now+wkC cs k
  ·rw[if_pos hq,if_pos ⟨hu,hq⟩]
  ·rw[if_neg hq,if_neg fun h'=>hq h'.2]
 ·intro e he
  rcases aMa.1 he with he | he
  ·exact h.ef e he
  ·rw[aMk] at he
   omega
 ·intro e he
  rcases aMa.1 he with he | he
  ·have:=h.eb e he
   omega
  ·rw[aMk] at he
   omega
 ·rw[adJ h.way.len htm.1 (by rw[hbz];exact hb) hnx,h.fl]
 ·intro i h1 h2
  have h3:=h.fut i h1 h2
  refine⟨h3.1,?_⟩
  rw[I1 Sl,if_neg (fun he=>by subst he;omega)]
  exact h3.2
 ·rw[List.length_eraseIdx_of_lt g1,aLp,aLo,aMR]
  have:=h.tot
  omega
 ·rw[aLp,aLo,aMR]
  omega
theorem Ph4.done {now:Int} {IW:List Int} {fS tot:Nat} {ws:List Nat} {ends:List Int} (h:Ph4 cK xE cs IW now fS tot st ws ends) (hc:oU cs) (mN:fS≤cs.length) (ht:tot≤fS) (hf:xE≤(ends.length:Int)∨ws=[])
  (hr:runT cK xE cs now (100000-now).toNat IW=stL cK xE cs):SW cK xE cs st now fS ws ends:=by
 have htm:=h.way.tm
 have hle:=(h.way.le hc).1
 have hbz:(bz cs st now:Int)=ends.length:=by
  rw[←h.cnt now (aOw _),(aOB (p:=gtB now)).2 fun e he=>decide_eq_true (h.ef e he)]
 have avC:full cK xE cs st now:=by
  rcases hf with hf | hf
  ·exact .inl (by rw[hbz];exact hf)
  ·exact .inr (Bx.2 (by rw[←h.wsq];exact hf))
 refine⟨h.way.len,h.way.low,h.way.high,h.way.bd,by omega,mN,h.past,h.fut,h.wsq,h.cnt,h.ef,h.eb,avC,by rw[h.tot];exact ht,h.es,?_⟩
 have h1:=AQ avC cs.length
 rw[h.fl] at h1
 rw[anN htm.1 (by omega),h1] at hr
 exact hr
end
end Go.PM
namespace Go.PM
theorem G9 (n:Nat) (h:n<4294967296):TC 207 [VK .u64 1,VK .u64 (n:Int)] (.eH [VK .u64 0,VK .u64 (n:Int)]):=by
 refine TC.walk ⟨true,false⟩ JV rfl (aM2 rfl) rfl rfl ?_
 have a1:dO .and (.int .u64 1) (.int .u64 4294967295)=some (.int .u64 1):=SQ 1 (by decide)
 have a2:dO .and (.int .u64 (n:Int)) (.int .u64 4294967295)=some (.int .u64 (n:Int)):=by rw[SQ n (by omega),Nat.mod_eq_of_lt h]
 have a0:dO .and (.int .u64 0) (.int .u64 4294967295)=some (.int .u64 0):=SQ 0 (by decide)
 have s1:dO .shr (.int .u64 1) (.int .u64 32)=some (.int .u64 0):=rA 1 .u64
 have s0:dO .shr (.int .u64 0) (.int .u64 32)=some (.int .u64 0):=rA 0 .u64
 have s2:dO .shr (.int .u64 (n:Int)) (.int .u64 32)=some (.int .u64 0):=by rw[rA n .u64,Nat.div_eq_of_lt h];rfl
 have w0:IntKind.u64.wrap 0=0:=eV 0 (by decide)
 have wn:IntKind.u64.wrap (n:Int)=n:=eV n (by omega)
 simp only[Eu,Cs,a0,a1,a2,s0,s1,s2,w0,wn,Int.one_mul,Int.zero_mul,Int.mul_zero,Int.add_zero,VX,Nat.reduceEqDiff,Nat.reduceAdd]
 exact aK rfl
theorem Jy (n:Nat) (h:n<4294967296):TC 187 [VK .u64 1,VK .u64 (n:Int)] (.eH [VK .u64 0,VK .u64 (n:Int)]):=by
 refine TC.walk ⟨true,false⟩ Na rfl (aM2 rfl) rfl rfl ?_
 simp only[HJ,EK,G9 n h,VX,Nat.reduceEqDiff,Nat.reduceAdd]
 exact aK rfl
end Go.PM
namespace Go.PM
section
variable {α:Type} {f:α→VV} {H:aA} {b g e lo:Nat} {X Y:List α}
theorem WU {o:Nat}:dD (X.map f) o (Y.map f)=(X.take o++Y++X.drop (o+Y.length)).map f:=by
 simp[dD]
theorem RM {o d cc:Nat} {y:VV} (h:aJ H b g=some (X.map f,e,true)) (hy:dG e y H=some (Y.map f)) (eT:lo≤b) (ho:o+(Y.take d).length≤X.length) :
  Ml lo e (.ref b g o d cc) y H=some (VI (Y.take d).length,H.set b (.row g ((X.take o++Y.take d++X.drop (o+(Y.take d).length)).map f) e true)):=by
 simp only[Ml,hy,h]
 rw[←List.map_take,WU,if_pos ⟨trivial,eT,by simpa using ho⟩,aMV]
end
end Go.PM
namespace Go.PM
open Go.Lib
def J0 {α:Type} (f:α→VV) (e:Nat) (cD:List α) (lo hi:Nat) (H:aA) (v:VV):Prop :=
 ∃b g c,lo≤b∧b<hi∧v = .ref b g 0 cD.length c∧cD.length≤c∧aJ H b g=some (cD.map f,e,true)
def TabIs {α:Type} (f:α→VV) (e:Nat) (m:List (List α)) (lo hi:Nat) (H:aA) (v:VV):Prop :=
 ∃b g c rs,v = .ref b g 0 m.length c∧m.length≤c∧MG f e lo hi b g H rs∧rs.map (·.xs)=m
theorem NQ {α:Type} {f:α→VV} {lo b k e bytes:Nat} {H:aA} {xs:List α} {x:α} (h:aJ H b k=some (xs.map f,e,true)) (hk:k=xs.length) (eT:lo≤b) (he:1≤e) (hb:1≤bytes) (EX:(k+1)*bytes≤140737488355328) :
 dK lo e bytes (.ref b k 0 k k) [f x] H=some (.ref b (k+1) 0 (k+1) (k+1),H.set b (.row (k+1) ((xs++[x]).map f) e true)):=jK h hk eT he hb EX
theorem J0.rd {α:Type} {f:α→VV} {e lo hi:Nat} {cD:List α} {H:aA} {v:VV} (h:J0 f e cD lo hi H v):Rd f e cD H v:=by
 obtain⟨b,g,c,h1,h2,rfl,h3,h4⟩:=h
 exact Rd.row h4 rfl
theorem G7 {lo:Nat} {H:aA} (q:Rat) (N:Nat) (hN:N≤1000000) (eT:lo≤H.length) :
  mB 162 [.tree [aG q] (.cl 3),VI N] lo H fun r H'=>r = .ref H.length 0 0 N N∧H'=H++[.row 0 ((aL4 N q).map aG) 3 true]:=by
 refine mB.walk ⟨true,false⟩ tO (aM2 rfl) ?_
 have eM:=Jy N (by omega)
 have c1:IntKind.u64.wrap ((1:Nat):Int)=1:=eV 1 (by decide)
 have c2:IntKind.u64.wrap (N:Int)=(N:Int):=eV N (by omega)
 have c3:IntKind.i64.wrap (N:Int)=(N:Int):=wrap64 (by omega) (by omega)
 have g1:¬(N:Int)<0:=by omega
 have g2:¬(0:Int)<0:=by decide
 have g3:¬(9223372036854775807:Int)<(N:Int):=by omega
 have em:=fun H=>nX (H:=H) (f:=id) (x:=rz) (z:=[.bool false,.slice none 0 0,.slice none 0 0]) (bytes:=56) (n:=N) rfl (by omega) (by omega)
 have s1:dG 3 (.tree [aG q] (.cl 3)) (H++[.row 0 ((aL4 N rz).map id) 3 true])=some ([aG q].map id):=gR (v:=aG q) rfl rfl
 have r1:aJ (H++[.row 0 ((aL4 N rz).map id) 3 true]) H.length 0=some ((aL4 N rz).map id,3,true):=by rw[Cu,aQ]
 have s2:=RM (f:=id) (Y:=[aG q]) (lo:=lo) (o:=0) (d:=N) (cc:=N) (y := .tree [aG q] (.cl 3)) r1 s1 eT (by simp;omega)
 rw[S5] at s2
 simp only[lJ,kO,eM,c1,c2,c3,g1,g2,g3,em,s2,eO,VX,Nat.reduceEqDiff,Nat.reduceAdd,Nat.reduceLeDiff,Nat.reduceLT,Nat.reduceSub]
 refine aN (fun(i:Nat) ρ H1=>i≤N∧(i=0→N=0)∧H1=H++[.row 0 ((aL4 i (aG q)++aL4 (N-i) rz).map id) 3 true]∧ρ 7 = .ref H.length 0 0 N N∧ρ 8=VI i) (fun i=>N-i) (min 1 N) ?_ ?_
 refine⟨by omega,by omega,?_,rfl,?_⟩
 ·congr 2
  cases N with
  | zero=>rfl
  |
   succ N =>
   have:min 1 (N+1)=1:=by omega
   rw[this]
   simp[aMo]
 ·cases N with
  | zero=>rfl
  |
   succ N =>
   have:min 1 (N+1)=1:=by omega
   simp only[this,eO,VX,Nat.reduceEqDiff,Nat.reduceAdd,Nat.reduceLeDiff,Nat.reduceLT,Nat.reduceSub]
   try simp
 rintro i ρ H1 ⟨hi,h0,rfl,h7,h8⟩
 have hr:aJ (H++[.row 0 ((aL4 i (aG q)++aL4 (N-i) rz).map id) 3 true]) H.length 0=some ((aL4 i (aG q)++aL4 (N-i) rz).map id,3,true):=by rw[Cu,aQ]
 have el:=eI (o:=0) (n:=N) (c:=N) hr
 by_cases bX:(i:Int)<(N:Int)
 ·have hXl:(aL4 i (aG q)++aL4 (N-i) rz).length=N:=by simp;omega
  have Cn:∀X:List VV,X=aL4 i (aG q)++aL4 (N-i) rz→(((X.map id).drop 0).take i).all (fun x=>(aB x).all bP)=true:=by
   rintro X rfl
   rw[aOC,List.drop_zero,aOD (by simp),aL7 (by simp),List.all_eq_true]
   intro x hx
   rw[List.eq_of_mem_replicate hx]
   rfl
  have q1:=Qu (o:=0) (n:=N) (c:=N) (l:=i) (k1 := .i64) hr hi (aLe _)
  have q2:=rR (o:=0) (n:=N) (c:=N) (h:=i) (k2 := .i64) hr hi
  have hY:((aL4 i (aG q)++aL4 (N-i) rz).drop 0).take i=aL4 i (aG q):=by
   rw[List.drop_zero,aOD (by simp),aL7 (by simp)]
  have q3:dG 3 (.ref H.length 0 0 i N) (H++[.row 0 ((aL4 i (aG q)++aL4 (N-i) rz).map id) 3 true])=some ((aL4 i (aG q)).map id):=by
   have hs:=Cn _ rfl
   simp only[dG,hr]
   rw[if_pos ⟨trivial,by rw[aMV,hXl];omega,hs⟩,aOC,aOC,hY]
  have hYd:(aL4 i (aG q)).take (N-i)=aL4 (min (N-i) i) (aG q):=List.take_replicate
  have q4:=RM (f:=id) (lo:=lo) (o:=i) (d:=N-i) (cc:=N-i) hr q3 eT (by rw[hYd,hXl];simp;omega)
  rw[S5,hYd,aM3,aOD (by simp),aL7 (by simp)] at q4
  have hX':aL4 i (aG q)++aL4 (min (N-i) i) (aG q)++(aL4 i (aG q)++aL4 (N-i) rz).drop (i+min (N-i) i)=aL4 (i+min (N-i) i) (aG q)++aL4 (N-(i+min (N-i) i)) rz:=by
   rw[List.replicate_append_replicate,List.drop_append,List.drop_of_length_le (by simp),List.nil_append,aM3,List.drop_replicate]
   congr 2
   omega
  rw[hX'] at q4
  have wi:IntKind.i64.wrap ((i:Int)+((min (N-i) i:Nat):Int))=((i+min (N-i) i:Nat):Int):=wrapN _ (by omega) (by omega)
  simp only[fJ,h7,h8,el,bX,q1,q2,q3,q4,wi,eO,VX,Nat.reduceEqDiff,Nat.reduceAdd,Nat.reduceLeDiff,Nat.reduceLT,Nat.reduceSub]
  exact⟨i+min (N-i) i,by omega,by omega,by omega,by (repeat' apply aMU)<;>first | rfl | trivial | assumption⟩
 ·have mZ:i=N:=by omega
  subst mZ
  simp only[fJ,h7,h8,el,bX,eO,VX,Nat.reduceEqDiff,Nat.reduceAdd,Nat.reduceLeDiff,Nat.reduceLT,Nat.reduceSub]
  rw[aLx,aOE,aMm,aOC,List.map_replicate]
theorem Yj (a n:Nat):((aLa n).map fun k=>a+k).Nodup:=List.pairwise_map.2 (List.nodup_range.imp fun h=>by omega)
theorem SD {lo:Nat} {H:aA} (N:Nat) (hN:N≤1000) (eT:lo≤H.length) :
  mB 99 [VI N] lo H (Uo (TabIs aG 3 (aL4 N (aL4 N (0:Rat)))) H):=by
 refine mB.walk ⟨true,false⟩ S9 (aM2 rfl) ?_
 have em:=fun H=>nX (H:=H) (f:=id) (x := .tree [] .nil) (z:=[.slice none 0 0]) (bytes:=24) (n:=N) rfl (by omega) (by omega)
 have el0:=eI (H:=H++[.row 0 ((aL4 N (VV.tree [] .nil)).map id) 1 true]) (b:=H.length) (g:=0) (o:=0) (n:=N) (c:=N) iO
 simp only[O0,Jv,em,el0,aLo,aMR,aMM,eO,VX,Nat.reduceEqDiff,Nat.reduceAdd,Nat.reduceLeDiff,Nat.reduceLT,Nat.reduceSub]
 refine aN (fun(i:Nat) ρ H1=>i≤N∧H1=H ++ .row 0 (((aLa i).map fun k=>VV.ref (H.length+1+k) 0 0 N N)++aL4 (N-i) (VV.tree [] TK.nil)) 1 true::aL4 i (.row 0 ((aL4 N (0:Rat)).map aG) 3 true)∧ρ 0=VI N∧ρ 3 = .ref H.length 0 0 N N∧ρ 8=VI N∧ρ 9=VI i) (fun i=>N-i) 0 ⟨aLI _,by simp,rfl,rfl,rfl,rfl⟩ ?_
 rintro i ρ H1 ⟨hi,rfl,g0,g3,g8,g9⟩
 have e1:TC 64 [VI 0] (aG 0):=vY 0 (by decide) (by decide)
 have eL:∀H,nT false [.bool false,.slice none 0 0,.slice none 0 0] 1 [(0,aG 0)] H=some (.tree [aG 0] (.cl 3),H):=fun H=>lO rfl rfl rfl
 by_cases bX:(i:Int)<(N:Int)
 ·have wi:IntKind.i64.wrap ((i:Int)+1)=((i+1:Nat):Int):=wrapN (i+1) (by omega) (by omega)
  simp only[CI,g0,g3,g8,g9,bX,e1,eL,eO,VX,Nat.reduceEqDiff,Nat.reduceAdd,Nat.reduceLeDiff,Nat.reduceLT,Nat.reduceSub]
  refine iN rfl ((G7 0 N (by omega) (by rw[aLp];omega)).mono ?_)
  rintro r H' ⟨rfl,rfl⟩
  have hl:(H++eR.row 0 (((aLa i).map fun k=>VV.ref (H.length+1+k) 0 0 N N)++aL4 (N-i) (VV.tree [] TK.nil)) 1 true::aL4 i (.row 0 ((aL4 N (0:Rat)).map aG) 3 true)).length=H.length+1+i:=by simp;omega
  rw[hl,List.append_assoc,List.cons_append]
  have hr:aJ (H++eR.row 0 (((aLa i).map fun k=>VV.ref (H.length+1+k) 0 0 N N)++aL4 (N-i) (VV.tree [] TK.nil)) 1 true::(aL4 i (.row 0 ((aL4 N (0:Rat)).map aG) 3 true)++[.row 0 ((aL4 N (0:Rat)).map aG) 3 true])) H.length 0=some ((((aLa i).map fun k=>VV.ref (H.length+1+k) 0 0 N N)++aL4 (N-i) (VV.tree [] TK.nil)),1,true):=by rw[Cu,aQ]
  have a1:=bC (o:=0) (n:=N) (c:=N) (i:=i) (k := .i64) hr (by omega)
  have a2:=bS (lo:=lo) (v := .ref (H.length+1+i) 0 0 N N) (j:=i) hr (by simp;omega) eT rfl rfl
  rw[S5,aMS] at a2
  have hs:(((aLa i).map fun k=>VV.ref (H.length+1+k) 0 0 N N)++aL4 (N-i) (VV.tree [] TK.nil)).set i (.ref (H.length+1+i) 0 0 N N)=((aLa (i+1)).map fun k=>VV.ref (H.length+1+k) 0 0 N N)++aL4 (N-(i+1)) (VV.tree [] TK.nil):=by
   obtain⟨m,hm⟩:∃m,N-i=m+1:=⟨N-i-1,by omega⟩
   have hm':N-(i+1)=m:=by omega
   rw[List.set_append_right _ _ (by simp),hm,hm',aMV,List.length_range,aLx,aMo,aMS,aOr,aOg,List.append_assoc]
   rfl
  rw[hs] at a2
  rw[aMM] at a1
  simp only[a1,a2,wi,g9,eO,VX,Nat.reduceEqDiff,Nat.reduceAdd,Nat.reduceLeDiff,Nat.reduceLT,Nat.reduceSub]
  exact⟨i+1,by omega,by omega,by rw[List.replicate_succ'],by (repeat' apply aMU)<;>first | rfl | trivial | assumption⟩
 ·have mZ:i=N:=by omega
  subst mZ
  simp only[CI,g3,g8,g9,bX,eO,VX,Nat.reduceEqDiff,Nat.reduceAdd,Nat.reduceLeDiff,Nat.reduceLT,Nat.reduceSub]
  refine⟨List.prefix_append _ _,H.length,0,i,(aLa i).map fun k=>⟨H.length+1+k,0,i,aL4 i 0⟩,by rw[aM3],by rw[aM3];exact aLe _,⟨?_,aLe _,by simp,?_,?_⟩,?_⟩
  ·rw[Cu,aQ,aLx,aOE,aMm,aOF]
   simp[uH,Function.comp_def]
  ·rw[aOF]
   exact Yj (H.length+1) i
  ·intro r hr
   obtain⟨k,hk,rfl⟩:=aMP.1 hr
   rw[aLP] at hk
   refine⟨by simp only;omega,by simp;omega,by simp only;omega,by simp,?_⟩
   have:H.length+1+k=H.length+(k+1):=by omega
   simp only[this]
   rw[Nw,cL,dH,aNp,if_pos hk]
  ·rw[aOF]
   apply List.ext_getElem?
   intro k
   rw[aOG,aNp]
   by_cases hk:k<i
   ·simp[hk,List.getElem?_range]
   ·simp[hk]
end Go.PM
namespace Go.PM
def Fe (s:rV) (left:Int):Int:=if Hr s.b left<0 then -1 else if Fi s.g (Hr s.b left)<0 then -1 else if Hr s.e (Fi s.g (Hr s.b left))<0 then -1 else Hr s.e (Fi s.g (Hr s.b left))
theorem auA {s:rV} {l:Int} (h:0≤Fe s l):Fe s l≤l∧(s.b.length:Int)≤l∧(s.g.length:Int)≤l∧(∀x∈s.g,(x.length:Int)≤l)∧(s.e.length:Int)≤l:=by
 unfold Fe at h ⊢
 split at h
 ·omega
 rename_i h0
 split at h
 ·omega
 rename_i h1
 split at h
 ·omega
 rename_i h2
 rw[if_neg h0,if_neg h1,if_neg h2]
 have b0:=Ig (xs:=s.b) (l:=l) (by omega)
 have b1:=Sw (xs:=s.g) (l:=Hr s.b l) (by omega)
 have b2:=Ig (xs:=s.e) (l:=Fi s.g (Hr s.b l)) (by omega)
 exact⟨by omega,b0.2.1,by omega,fun x hx=>by have:=(b1.2.2 x hx).1;omega,by omega⟩
theorem MC {lo:Nat} {s:rV} {bare:Bool} {H:aA} {K:VV→aA→Prop} (hb:s.b.length≤1000000000) (hg:s.g.length≤1000000000∧∀x∈s.g,x.length≤1000000000) (he:s.e.length≤1000000000)
  (hk:∀c H',H <+: H'→vO H.length H' bare s c→K c H'):dP 46 [tX s,.sc (.bool bare)] lo H K:=by
 refine(KF s bare hb hg he).call rfl (mapM_pure (n:=7) (by simp only[aO,jN,Bool.true_and];rfl)) ?_
 intro r L h
 exact hk r _ (List.prefix_append _ _) (h.cW fun b g x hb h=>Lv (Nat.le_of_lt hb) h)
theorem aBL {n lo:Nat} {s:rV} {bare:Bool} {H:aA} {c:VV} (hc:vO n H bare s c) (eT:lo≤H.length):bM lo 3 (.ptr H.length 0 0 0) c (H++[.row 0 [.agg [.tree [] .nil,.tree [] .nil,.tree [] .nil]] 3 true])=some (H++[.row 0 [c] 3 true]):=by
 obtain⟨c0,c1,c2,rfl,h0,h1,h2⟩:=hc
 rw[bS (e:=3) (g:=0) (lo:=lo) (v := .agg [c0,c1,c2]) (j:=0) iO (by decide) eT rfl (by simp[aB,h0.cell.2.1,h1.cell.2,h2.cell.2.1]),OZ]
 rfl
theorem ZE {n b:Nat} {s:rV} {bare:Bool} {H H':aA} {c:VV} (hc:vO n H bare s c) (h:aJ H' b 0=some ([c],3,true)):bG true 3 (.ptr b 0 0 0) H'=some c:=by
 obtain⟨c0,c1,c2,rfl,_⟩:=hc
 rw[bJ,h]
 rfl
theorem kH {s:rV}:dJ true 3 (tX s) 0=some (tX s):=rfl
theorem gD {s:rV}:(aB (tX s)).all bP=true:=rfl
structure LR (s:rV):Prop where
 b4:s.b.length≤400000000
 e4:s.e.length≤400000000
 g4:s.g.length≤400000000∧∀x∈s.g,x.length≤400000000
 bs:∀x∈s.b,x.size≤1000000000
 es:∀x∈s.e,x.size≤1000000000
 gs:∀x∈s.g,∀y∈x,y.size≤1000000000
theorem LR.g9 {s:rV} (h:LR s):s.g.length≤1000000000∧∀x∈s.g,x.length≤1000000000:=⟨by have:=h.g4.1;omega,fun x hx=>by have:=h.g4.2 x hx;omega⟩
theorem Z3 {s:rV} {l:Int} (h:Fe s l<0):Fe s l = -1:=by
 unfold Fe at h ⊢
 split
 ·rfl
 rename_i h0
 rw[if_neg h0] at h
 split
 ·rfl
 rename_i h1
 rw[if_neg h1] at h
 split
 ·rfl
 rename_i h2
 rw[if_neg h2] at h
 omega
theorem aaT {s:rV} {l:Int} (h:0≤Fe s l) (hl:l≤1000000):Fe s l≤l∧LR s:=by
 have hle:=auA h
 unfold Fe at h
 split at h
 ·omega
 rename_i h0
 split at h
 ·omega
 rename_i h1
 split at h
 ·omega
 rename_i h2
 have b0:=Ig (xs:=s.b) (l:=l) (by omega)
 have b1:=Sw (xs:=s.g) (l:=Hr s.b l) (by omega)
 have b2:=Ig (xs:=s.e) (l:=Fi s.g (Hr s.b l)) (by omega)
 exact⟨hle.1,by omega,by omega,⟨by omega,fun x hx=>by have:=(b1.2.2 x hx).1;omega⟩,fun x hx=>by have:=b0.2.2 x hx;omega,fun x hx=>by have:=b2.2.2 x hx;omega,fun x hx y hy=>by have:=(b1.2.2 x hx).2 y hy;omega⟩
end Go.PM
namespace Go.PM
def IA {β:Type} (xs:List (List β)):Nat:=(xs.map List.length).sum
section
variable {β:Type}
end
def svN (s:rV):Nat:=s.b.length+IA s.g+s.e.length
theorem Xd.cell {α:Type} {f:α→VV} {e lo hi:Nat} {H:aA} {v:VV} {cD:List α} (h:Xd f e cD lo hi H v):bP v=true:=by
 rcases h with⟨rfl,rfl⟩ | ⟨b,g,c,h1,h2,rfl,h3⟩<;>rfl
theorem RG.cell {α:Type} {f:α→VV} {e lo hi:Nat} {H:aA} {v:VV} {cD:List (List α)} (h:RG f e cD lo hi H v):bP v=true:=by
 rcases h with⟨rfl,rfl⟩ | ⟨b,g,c,rs,h1,h2,rfl,h3⟩<;>rfl
end Go.PM
namespace Go.PM
open Go.Lib
section
variable {α:Type} {f:α→VV} {e:Nat}
def Wv (f:α→VV) (e:Nat) (cD:List (List α)) (lo hi:Nat) (H:aA) (v:VV):Prop :=
 (v = .tree [] .nil∧cD=[])∨∃b g rs,lo≤b∧b<hi∧v = .ref b g 0 cD.length cD.length∧aJ H b g=some (rs.map uH,1,true)∧rs.map (·.xs)=cD∧aaJ f e lo hi b H rs
theorem Wv.rg {cD:List (List α)} {lo hi:Nat} {H:aA} {v:VV} (h:Wv f e cD lo hi H v):RG f e cD lo hi H v:=by
 rcases h with h | ⟨b,g,rs,h1,h2,h3,h5,h6,h7⟩
 ·exact .inl h
 ·exact .inr ⟨b,g,_,rs,h1,h2,h3,aLe _,h5,h6,h7⟩
theorem Wv.cW {cD:List (List α)} {lo hi:Nat} {H H':aA} {v:VV} (h:Wv f e cD lo hi H v) (hk:jX lo hi H H'):Wv f e cD lo hi H' v:=by
 rcases h with h | ⟨b,g,rs,h1,h2,h3,h5,h6,h7⟩
 ·exact .inl h
 ·exact .inr ⟨b,g,rs,h1,h2,h3,hk _ _ _ h1 h2 h5,h6,h7.nd,fun r hr=>by
   obtain⟨k1,k2,k3,k4,k5⟩:=h7.row r hr
   exact⟨k1,k2,k3,k4,hk _ _ _ k1 k2 k5⟩⟩
theorem Wv.wide {cD:List (List α)} {lo hi fV qK:Nat} {H:aA} {v:VV} (h:Wv f e cD lo hi H v) (hl:fV≤lo) (hh:hi≤qK):Wv f e cD fV qK H v:=by
 rcases h with h | ⟨b,g,rs,h1,h2,h3,h5,h6,h7⟩
 ·exact .inl h
 ·exact .inr ⟨b,g,rs,by omega,by omega,h3,h5,h6,h7.nd,fun r hr=>by
   obtain⟨k1,k2,k3,k4,k5⟩:=h7.row r hr
   exact⟨by omega,by omega,k3,k4,k5⟩⟩
theorem Wv.iR {cD:List (List α)} {lo hi:Nat} {H:aA} {v:VV} (h:Wv f e cD lo hi H v):bP v=true∧aB v=[v]∧isAny v=false:=by
 rcases h with⟨rfl,rfl⟩ | ⟨b,g,rs,h1,h2,rfl,h3⟩<;>exact⟨rfl,rfl,rfl⟩
theorem Wv.aAf {cD:List (List α)} {lo hi:Nat} {H:aA} {v:VV} (h:Wv f e cD lo hi H v):pV v H=some (VI cD.length):=by
 rcases h with⟨rfl,rfl⟩ | ⟨b,g,rs,h1,h2,rfl,h5,h6,h7⟩
 ·rfl
 ·exact eI h5
theorem Wv.snoc {cD:List (List α)} {lo fV hi:Nat} {H:aA} {v:VV} (h:Wv f e cD lo hi H v) (eT:fV≤lo) (hn:cD.length≤1000000000) (r:CM α) (hhi:hi≤r.b) (B7:lo≤r.b) (hc:r.xs.length≤r.c) (hr:aJ H r.b r.g=some (r.xs.map f,e,true)) :
  ∃v' H3,dK fV 1 24 v [.ref r.b r.g 0 r.xs.length r.c] H=some (v',H3)∧Wv f e (cD++[r.xs]) lo H3.length H3 v'∧(∀b' g' x,b'<lo→aJ H b' g'=some x→aJ H3 b' g'=some x)∧H.length≤H3.length ∧
   (∀n,n≤lo→CX n H→CX n H3)∧(∀H0:aA,H0.length≤lo→H0 <+: H→H0 <+: H3)∧(∀b' g' x,aJ H b' g'=some x→(∀g0 n0 c0,v ≠ .ref b' g0 0 n0 c0)→aJ H3 b' g'=some x):=by
 have hb:=lZ hr
 rcases h with⟨rfl,rfl⟩ | ⟨b,g,rs,h1,h2,rfl,h5,h6,h7⟩
 ·refine⟨.ref H.length 0 0 1 1,H++[.row 0 [uH r] 1 true],by simp[dK,uH],.inr ⟨H.length,0,[r],by omega,by simp,rfl,iO,rfl,by simp,fun s hs => ?_⟩,fun _ _ _ _ h=>dC h,by simp,fun n hn hO=>hO.app (by simp[Aw,jL,uH];omega),fun H0 _ hp=>Uq hp,fun _ _ _ h _=>dC h⟩
  rw[aMk] at hs
  subst hs
  exact⟨B7,by simp;omega,by omega,hc,dC hr⟩
 ·subst h6
  rw[aMV] at hn ⊢
  have xP:=jK (f:=uH) (xs:=rs) (x:=r) (lo:=fV) (bytes:=24) h5 rfl (by omega) (by decide) (by decide) (by omega)
  refine⟨_,_,xP,.inr ⟨b,g+1,rs++[r],h1,by rw[aNt];exact lZ h5,by simp,cP h5,by simp,?_,fun s hs => ?_⟩,fun b' g' x xR h=>aW (by omega) h,by simp,fun n hn hO=>hO.set (by omega) ?_,fun H0 hl hp=>BS hp (by omega),fun b' g' x h fN=>aW (fun he=>fN g _ _ (by rw[he])) h⟩
  ·rw[aOg,List.nodup_append]
   refine⟨h7.nd,by simp,fun a ha c W8 => ?_⟩
   obtain⟨s,hs,rfl⟩:=aMP.1 ha
   have:=h7.row s hs
   simp only[List.map_cons,List.map_nil,aMk] at W8
   omega
  ·rcases aMa.1 hs with hs | hs
   ·obtain⟨k1,k2,k3,k4,k5⟩:=h7.row s hs
    exact⟨k1,by rw[aNt];exact lZ k5,k3,k4,aW (by omega) k5⟩
   ·rw[aMk] at hs
    subst hs
    exact⟨B7,by rw[aNt];exact hb,by omega,hc,aW (by omega) hr⟩
  ·rw[zM]
   intro x hx
   obtain⟨s,hs,rfl⟩:=aMP.1 hx
   rcases aMa.1 hs with hs | hs
   ·have:=h7.row s hs
    simp[uH,jL];omega
   ·rw[aMk] at hs
    subst hs
    simp[uH,jL];omega
end
def LsO {α:Type} (f:α→VV) (e:Nat) (o:Option (List α)) (lo hi:Nat) (H:aA) (v:VV):Prop:=match o with
 | none=>v = .tree [] .nil
 | some ys=>J0 f e ys lo hi H v
theorem J0.cW {α:Type} {f:α→VV} {e:Nat} {ys:List α}:∀ {lo hi H H' v},J0 f e ys lo hi H v→jX lo hi H H'→J0 f e ys lo hi H' v:=by
 rintro lo hi H H' v ⟨b,g,c,h1,h2,h3,h4,h5⟩ hk
 exact⟨b,g,c,h1,h2,h3,h4,hk _ _ _ h1 h2 h5⟩
theorem LsO.cW {α:Type} {f:α→VV} {e:Nat} {o:Option (List α)}:∀ {lo hi H H' v},LsO f e o lo hi H v→jX lo hi H H'→LsO f e o lo hi H' v:=by
 intro lo hi H H' v h hk
 cases o with
 | none=>exact h
 | some ys=>exact J0.cW h hk
end Go.PM
namespace Go.PM
end Go.PM
namespace Go.PM
end Go.PM
namespace Go.PM
open Go.Lib
theorem CG.wide {cD:List (List ByteArray)}:∀ {lo hi fV qK:Nat} {H:aA} {v:VV},CG cD lo hi H v→fV≤lo→hi≤qK→CG cD fV qK H v:=by
 rintro lo hi fV qK H v ⟨c,h1,h2⟩ hl hh
 exact⟨c,h1,h2.wide hl hh⟩
theorem CG.own {n lo hi:Nat} {H:aA} {v:VV} {cD:List (List ByteArray)} (h:CG cD lo hi H v) (hn:n≤lo):∃c,v = .agg [c]∧bP c=true∧aB c=[c]∧jL n c=true:=by
 obtain⟨c,rfl,h | ⟨b,g,cc,rs,h1,h2,rfl,h3⟩⟩:=h
 ·obtain⟨rfl,_⟩:=h
  exact⟨_,rfl,rfl,rfl,rfl⟩
 ·exact⟨_,rfl,rfl,rfl,by simp[jL];omega⟩
theorem SvG.wide {s:rV}:∀ {lo hi fV qK:Nat} {H:aA} {v:VV},SvG s lo hi H v→fV≤lo→hi≤qK→SvG s fV qK H v:=by
 rintro lo hi fV qK H v ⟨a,b,c,m1,m2,h1,k1,k2,k3,h2,h3,h4⟩ hl hh
 exact⟨a,b,c,m1,m2,h1,by omega,k2,by omega,h2.wide hl (aLe _),h3,h4.wide (aLe _) hh⟩
theorem Lh.start {n:Nat} {H:aA}:Lh n H.length H:=fun b g es e w hb hr=>by
 rw[List.getElem?_eq_none hb] at hr
 cases hr
def CA (f:Rat→VV) (b:List Rat) (g:List (List Rat)) (e:List Rat):VV := .agg [aC f b,aC (aC f) g,aC f e]
end Go.PM
namespace Go.PM
open Go.Lib
theorem ajJ {qs:List Rat} {B i:Nat} {y:Rat} (h:∀q∈qs,aL q≤B) (hy:aL y≤B):∀q∈qs.set i y,aL q≤B:=fun q hq=>by
 rcases List.mem_or_eq_of_mem_set hq with h1 | rfl
 ·exact h q h1
 ·exact hy
theorem SvG.own {n lo hi:Nat} {s:rV} {H:aA} {v:VV} (h:SvG s lo hi H v) (hn:n≤lo):∃a b c,v = .agg [a,b,c]∧bP a=true∧bP b=true∧bP c=true∧jL n a=true∧jL n b=true∧jL n c=true:=by
 obtain⟨a,b,c,m1,m2,rfl,l1,l2,l3,ha,hb,hc⟩:=h
 refine⟨a,b,c,rfl,ha.cell,hb.cell,hc.cell,?_,?_,?_⟩
 ·rcases ha with⟨rfl,_⟩ | ⟨b,g,c,h1,h2,rfl,h3⟩
  ·rfl
  ·simp[jL];omega
 ·rcases hb with⟨rfl,_⟩ | ⟨b,g,c,rs,h1,h2,rfl,h3⟩
  ·rfl
  ·simp[jL];omega
 ·rcases hc with⟨rfl,_⟩ | ⟨b,g,c,h1,h2,rfl,h3⟩
  ·rfl
  ·simp[jL];omega
abbrev dI:eR := .row 0 [.agg [.tree [] .nil,.tree [] .nil,.tree [] .nil]] 3 true
end Go.PM
namespace Go.PM
open Go.Lib
section
variable {α:Type} {f:α→VV} {e:Nat}
structure RdT (f:α→VV) (e:Nat) (m:List (List α)) (H:aA) (v:VV):Prop where
 len:∀H',H <+: H'→pV v H'=some (VI m.length)
 get:∀H',H <+: H'→∀(i:Nat) r,m[i]? = some r→∃p w,bI 1 v (VI i) H'=some p∧bG false 1 p H'=some w∧Rd f e r H' w
theorem RdT.pre {m:List (List α)} {H H':aA} {v:VV} (h:RdT f e m H v) (hh:H <+: H'):RdT f e m H' v:=⟨fun H2 h2=>h.len H2 (hh.trans h2),fun H2 h2=>h.get H2 (hh.trans h2)⟩
theorem RdT.tree {m:List (List α)} {H:aA} {t:TK} (hs:∀x,(aB (f x)).length=e):RdT f e m H (.tree (m.map (aC f)) t) :=
 ⟨fun _ _=>eK,fun _ _ i x hx=>⟨_,_,aF hx rfl,by rw[NI];rfl,Rd.tree hs⟩⟩
theorem RdT.row {m:List (List α)} {H:aA} {b g n c:Nat} {w:Bool} (h:aJ H b g=some (m.map (aC f),1,w)) (hn:n=m.length) (hs:∀x,(aB (f x)).length=e):RdT f e m H (.ref b g 0 n c):=by
 subst hn
 refine⟨fun H' hh=>eI (cE hh h),fun H' hh i x hx => ?_⟩
 have hi:=(List.getElem?_eq_some_iff.1 hx).1
 have e1:=bC (o:=0) (n:=m.length) (c:=c) (i:=i) (k := .i64) (cE hh h) hi
 rw[aMM] at e1
 exact⟨_,_,e1,by rw[qI (f:=aC f) (cE hh h) hx];rfl,Rd.tree hs⟩
theorem MG.snoc {lo hi fV b g:Nat} {H:aA} {rs:List (CM α)} (h:MG f e lo hi b g H rs) (hg:g=rs.length) (eT:fV≤lo) (hn:g≤1000000000) (r:CM α) (hhi:hi≤r.b) (hc:r.xs.length≤r.c) (hr:aJ H r.b r.g=some (r.xs.map f,e,true)) :
  dK fV 1 24 (.ref b g 0 g g) [.ref r.b r.g 0 r.xs.length r.c] H=some (.ref b (g+1) 0 (g+1) (g+1),H.set b (.row (g+1) ((rs++[r]).map uH) 1 true))∧MG f e lo H.length b (g+1) (H.set b (.row (g+1) ((rs++[r]).map uH) 1 true)) (rs++[r]):=by
 have aHM:=h.blo
 have aH3:=h.bhi
 have B7:=lZ hr
 have xP:=jK (f:=uH) (xs:=rs) (x:=r) (lo:=fV) (bytes:=24) h.out hg (by omega) (by decide) (by decide) (by omega)
 refine⟨xP,cP h.out,h.blo,lZ h.out,?_,fun s hs => ?_⟩
 ·rw[aOg,List.nodup_append]
  refine⟨h.rows.nd,by simp,fun a ha c W8 => ?_⟩
  obtain⟨s,hs,rfl⟩:=aMP.1 ha
  have:=h.rows.row s hs
  simp only[List.map_cons,List.map_nil,aMk] at W8
  omega
 ·rcases aMa.1 hs with hs | hs
  ·obtain⟨k1,k2,k3,k4,k5⟩:=h.rows.row s hs
   exact⟨k1,by omega,k3,k4,aW (by omega) k5⟩
  ·rw[aMk] at hs
   subst hs
   exact⟨by omega,B7,by omega,hc,aW (by omega) hr⟩
end
def rL (m:List (List Rat)) (i:Nat):Rat:=(m.take i).foldl (fun a r=>if a<dF r then dF r else a) 0
def HW (m:List (List Rat)):Rat:=rL m m.length
theorem L8 {m:List (List Rat)} {i:Nat} {r:List Rat} (h:m[i]? = some r):rL m (i+1)=if rL m i<dF r then dF r else rL m i:=by
 unfold rL
 rw[sZ h,aOs]
 rfl
def Zq (d:Rat) (i:Nat) (r:List Rat):List Rat:=(r.map (· / d)).set i (1-dF (r.map (· / d)))
def VZ (m:List (List Rat)):List (List Rat):=vec m.length fun i=>Zq (HW m) i (m.getD i [])
theorem Bm {qs:List Rat} {B n:Nat} (h:∀q∈qs,aL q≤B) (hn:qs.length≤n):aL (dF qs)≤n*(B+1)+1:=by
 have h1:=Bb h qs.length
 rw[List.take_length] at h1
 have h2:qs.length*(B+1)≤n*(B+1):=aLF _ hn
 omega
theorem Kr {m:List (List Rat)} {B n:Nat} (h:∀r∈m,r.length≤n∧∀q∈r,aL q≤B):∀i,aL (rL m i)≤n*(B+1)+1
 |
  0=>by
  show aL 0≤_
  rw[nC]
  omega
 |
  i+1=>by
  cases hr:m[i]? with
  |
   none =>
   have:rL m (i+1)=rL m i:=by
    unfold rL
    rw[aM4,hr]
    simp
   rw[this]
   exact Kr h i
  |
   some r =>
   rw[L8 hr]
   have:=h r (aL8 hr)
   split
   ·exact Bm this.2 this.1
   ·exact Kr h i
theorem abV {qs:List Rat} {d:Rat} {B D:Nat} (h:∀q∈qs,aL q≤B) (hd:aL d≤D):∀q∈qs.map (· / d),aL q≤B+D+1:=fun q hq=>by
 obtain⟨p,hp,rfl⟩:=aMP.1 hq
 have h1:=h p hp
 have h2:=Gu p d
 omega
end Go.PM
namespace Go.PM
open Go.Lib
theorem K9 {a:Nat} (h:a≤12):a*(665+1)+1≤7993:=by omega
def iK (n i:Nat) (xs:List ByteArray):Option (List Rat):=match tC xs with
 | some r=>if r.length=n∧(r.any fun q=>decide (q<0))=false∧r.getD i 0=0 then some r else none
 | none=>none
def iT (c:List (List ByteArray)):Nat→Option (List (List Rat))
 | 0=>some []
 |
  i+1=>match iT c i,iK c.length i (c.getD i []) with
  | some out,some r=>some (out++[r])
  | _,_=>none
theorem J2 {n i:Nat} {xs:List ByteArray} {r:List Rat} (h:iK n i xs=some r):tC xs=some r∧r.length=n∧(∀q∈r,0≤q)∧r.getD i 0=0:=by
 unfold iK at h
 split at h
 ·rename_i ps hp
  split at h
  ·rename_i hc
   cases h
   refine⟨hp,hc.1,fun q hq => ?_,hc.2.2⟩
   have:=List.any_eq_false.1 hc.2.1 q hq
   exact Rat.not_lt.1 (by simpa using this)
  ·cases h
 ·cases h
theorem DX {c:List (List ByteArray)} {i:Nat} (h:iT c i=none):∀j,i≤j→iT c j=none:=by
 intro j hj
 induction j with
 |
  zero =>
  have:i=0:=by omega
  subst this
  exact h
 |
  succ j ih =>
  by_cases Qq:i≤j
  ·rw[iT,ih Qq]
  ·have:i=j+1:=by omega
   subst this
   exact h
theorem uG {c:List (List ByteArray)}:∀ {i:Nat} {m:List (List Rat)},iT c i=some m→m.length=i∧∀r∈m,r.length=c.length∧∀q∈r,0≤q∧aL q≤665
 | 0,m,h=>by cases h;exact⟨rfl,fun r hr=>by cases hr⟩
 |
  i+1,m,h=>by
  rw[iT] at h
  split at h
  ·rename_i out r h1 h2
   cases h
   obtain⟨k1,k2⟩:=uG h1
   obtain⟨j1,j2,j3,_⟩:=J2 h2
   refine⟨by rw[aLp,k1];rfl,fun s hs => ?_⟩
   rcases aMa.1 hs with hs | hs
   ·exact k2 s hs
   ·rw[aMk] at hs
    subst hs
    exact⟨j2,fun q hq=>⟨j3 q hq,(mY j1).1 q hq⟩⟩
  ·cases h
theorem WT {qs:List Rat} (h:∀q∈qs,0≤q):0≤dF qs:=by
 have key:∀i,i≤qs.length→0≤dF (qs.take i):=by
  intro i
  induction i with
  | zero=>intro _;show (0:Rat)≤0;exact aOu
  |
   succ i ih =>
   intro hi
   have hq:qs[i]? = some qs[i]:=aLl (by omega)
   rw[Dg hq]
   have h1:=ih (by omega)
   have h2:=h _ (aLr (by omega:i<qs.length))
   grind
 have:=key qs.length (aLe _)
 rwa [List.take_length] at this
theorem OG {m:List (List Rat)} (h:∀r∈m,0≤dF r):∀i,0≤rL m i∧0≤dF ((m.map dF).take i)∧(dF ((m.map dF).take i)=0↔rL m i=0)∧(((m.take i).any fun r => !decide (dF r=0)) = !decide (rL m i=0))
 | 0=>⟨aOu,aOu,⟨fun _=>rfl,fun _=>rfl⟩,rfl⟩
 |
  i+1=>by
  obtain⟨h1,h2,h3,h4⟩:=OG h i
  cases hr:m[i]? with
  |
   none =>
   have e1:rL m (i+1)=rL m i:=by unfold rL;rw[aM4,hr];simp
   have e2:(m.map dF).take (i+1)=(m.map dF).take i:=by rw[aM4,aOG,hr];simp
   have e3:m.take (i+1)=m.take i:=by rw[aM4,hr];simp
   rw[e1,e2,e3]
   exact⟨h1,h2,h3,h4⟩
  |
   some r =>
   have h0:=h r (aL8 hr)
   have JB:(m.map dF)[i]? = some (dF r):=by rw[aOG,hr];rfl
   rw[L8 hr,Dg JB,sZ hr,List.any_append,h4]
   simp only[List.any_cons,List.any_nil,Bool.or_false]
   by_cases hc:rL m i<dF r
   ·rw[if_pos hc]
    have hp:¬dF r=0:=by grind
    have hs:¬dF ((m.map dF).take i)+dF r=0:=by grind
    refine⟨h0,by grind,⟨fun h=>absurd h hs,fun h=>absurd h hp⟩,by simp[hp]⟩
   ·rw[if_neg hc]
    refine⟨h1,by grind,?_,?_⟩
    ·constructor
     ·intro h;exact h3.1 (by grind)
     ·intro h;have:=h3.2 h;grind
    ·by_cases hz:rL m i=0
     ·have:dF r=0:=by grind
      simp[hz,this]
     ·simp[hz]
theorem adP {m:List (List Rat)} {n B:Nat} (hm:m.length=n) (hb:∀r∈m,r.length=n∧∀q∈r,aL q≤B) (hn:n≤100) (hB:B≤1000000):(VZ m).length=n∧∀r∈VZ m,r.length=n∧∀q∈r,aL q≤100000000000:=by
 refine⟨by rw[VZ,oV,hm],fun r hr => ?_⟩
 obtain⟨i,hi,rfl⟩:=Kg.1 hr
 have hgi:m[i]? = some m[i]:=aLl hi
 have SM:=hb _ (aLr hi)
 rw[aLb,hgi,aOc]
 have bm:=Kr (n:=n) (B:=B) (fun r hr=>⟨Nat.le_of_eq (hb r hr).1,(hb r hr).2⟩) m.length
 rw[←HW] at bm
 have qb:=abV SM.2 bm
 have hl:(m[i].map (· / HW m)).length=n:=by rw[aMV];exact SM.1
 have b3:=Bm qb (Nat.le_of_eq hl)
 have m1:n*(B+1)≤100*(B+1):=aLF _ hn
 have m2:n*(B+(n*(B+1)+1)+1+1)≤100*(B+(n*(B+1)+1)+1+1):=aLF _ hn
 have b4:=KA 1 (dF (m[i].map (· / HW m)))
 rw[KZ] at b4
 refine⟨by rw[Zq,aNt,hl],ajJ (fun q hq => ?_) (by omega)⟩
 have:=qb q hq
 omega
end Go.PM