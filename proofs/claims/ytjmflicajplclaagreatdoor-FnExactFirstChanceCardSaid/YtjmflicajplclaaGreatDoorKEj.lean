/- Texts of a claim, in one: part 10. -/
import Derived.KernelRfl
import Derived.Test.YtjmflicajplclaaGreatDoorKEi
open And renaming intro → aMU
open Int renaming tdiv_eq_ediv_of_nonneg → aOf,tmod_eq_emod_of_nonneg → aOe,toNat_natCast → aMA
open List renaming append_assoc → aM0,append_nil → aMm,drop_eq_getElem_cons → aLj,getD_eq_getElem?_getD → aLb,getElem?_eq_getElem → aLl,getElem?_eq_none → aLE,getElem?_eq_some_iff → aLd,getElem?_set_ne → aLD,length_append → aLp,length_cons → aLo,length_map → aMV,length_nil → aMR,length_set → aNt,length_singleton → aNL,map_append → aOg,mem_of_getElem? → aL8,replicate → aL4,take_left' → aOh,take_length → aMr,take_of_length_le → aL7
open Nat renaming div_div_eq_div_mul → aNF,div_eq_of_lt → aML,div_lt_iff_lt_mul → aNB,div_lt_of_lt_mul → aNy,le_of_ble_eq_true → aM2,le_refl → aLe,mod_add_div → aNz,mod_eq_of_lt → aMI,mod_lt → aLG,mul_comm → aMG,mul_le_mul → aNw,mul_le_mul_right → aLF,pow_le_pow_right → aNh,pow_succ → aMF,pow_zero → aOd,zero_add → aMM,zero_le → aLI
set_option linter.unusedSimpArgs false
set_option linter.unusedVariables false
namespace Go.PM
def Fc:aE:=(LS [LO 0 (.new [(.bool false),(.slice none 0 0),(.slice none 0 0)])] (LS [LO 1 (.call 130 [(LI 0)]),LN (.store 3 (LT 0) (LT 1))] .ret))
def JL:aZ:=⟨2,[(.cell 0 true 3)],Fc⟩
theorem Pm:gH 77=some JL:=by kernel_rfl
def yX:aE:=(LS [LO 2 (.box (LT 0)),LO 3 (.box (LT 1)),LO 4 (.new [(.bool false),(.slice none 0 0),(.slice none 0 0)])] (LS [LO 8 (LA 1 2),LO 9 (LL 8),LO 10 (LA 2 3),LO 11 (LL 10),LO 12 (.call 152 [(LT 9),(LT 11)]),LM 5 12] (LS [LO 13 (LA 1 3),LO 14 (LL 13),LO 15 (LA 2 2),LO 16 (LL 15),LO 17 (.call 152 [(LT 14),(LT 16)]),LM 6 17] (LS [LO 18 (LA 2 2),LO 19 (LL 18),LO 20 (LA 2 3),LO 21 (LL 20),LO 22 (.call 152 [(LT 19),(LT 21)]),LM 7 22] (.seq (LS [LO 23 (LA 0 2),LO 24 (LL 23),LO 25 (LA 0 3),LO 26 (LL 25),LO 27 (.eqb false (LT 24) (LT 26))] (.cond (LT 27) (LS [LO 28 (LA 0 2),LO 29 (LL 28),LM 30 5,LM 31 6,LQ 32 (.call 154 [(LT 30),(LT 31)]),LM 33 7,LQ 34 (.call 153 [(LT 29),(LT 32),(LT 33)]),LN (.store 3 (LT 4) (LT 34))] .ret) .skip)) (.seq (LS [LM 35 5,LM 36 6,LO 37 (.call 155 [(LT 35),(LT 36)]),LO 38 (.bin .geq (LT 37) (LI 0))] (.cond (LT 38) (LS [LO 39 (LA 0 2),LO 40 (LL 39),LM 41 5,LM 42 6,LQ 43 (.call 156 [(LT 41),(LT 42)]),LM 44 7,LQ 45 (.call 153 [(LT 40),(LT 43),(LT 44)]),LN (.store 3 (LT 4) (LT 45))] .ret) .skip)) (LS [LO 46 (LA 0 3),LO 47 (LL 46),LM 48 6,LM 49 5,LQ 50 (.call 156 [(LT 48),(LT 49)]),LM 51 7,LQ 52 (.call 153 [(LT 47),(LT 50),(LT 51)]),LN (.store 3 (LT 4) (LT 52))] .ret)))))))
def Cb:aZ:=⟨53,[(.cell 4 true 3)],yX⟩
theorem Qf:gH 79=some Cb:=by kernel_rfl
def ET:aE:=(LS [LO 2 (.box (LT 0)),LO 3 (.box (LT 1)),LO 4 (.new [(.bool false),(.slice none 0 0),(.slice none 0 0)])] (LS [LO 5 (LA 0 2),LO 6 (LL 5),LO 7 (LA 0 3),LO 8 (LL 7),LO 9 (.eqb true (LT 6) (LT 8)),LO 10 (LA 1 2),LO 11 (LL 10),LO 12 (LA 1 3),LO 13 (LL 12),LQ 14 (.call 152 [(LT 11),(LT 13)]),LO 15 (LA 2 2),LO 16 (LL 15),LO 17 (LA 2 3),LO 18 (LL 17),LQ 19 (.call 152 [(LT 16),(LT 18)]),LQ 20 (.call 153 [(LT 9),(LT 14),(LT 19)]),LN (.store 3 (LT 4) (LT 20))] .ret))
def HK:aZ:=⟨21,[(.cell 4 true 3)],ET⟩
theorem M8:gH 125=some HK:=by kernel_rfl
def CJ:aE:=(LS [LO 2 (.new [(.bool false),(.slice none 0 0),(.slice none 0 0)])] (.seq (LS [LM 3 0,LO 4 (.bin .lss (LT 3) (LI 0))] (.cond (LT 4) (LS [LM 5 0,LO 6 (.un .neg (LT 5)),LO 7 (.call 178 [(LT 6)]),LO 8 (.lit [(.int .i64 0)] 1 [(0,(LI 1))]),LO 9 (.build [(.bool false),(.slice none 0 0),(.slice none 0 0)] [(0,1),(1,1),(2,1)] [(0,LG),(1,(LT 7)),(2,(LT 8))]),LN (.store 3 (LT 2) (LT 9))] .ret) .skip)) (LS [LM 10 0,LO 11 (.call 178 [(LT 10)]),LO 12 (.lit [(.int .i64 0)] 1 [(0,(LI 1))]),LO 13 (.build [(.bool false),(.slice none 0 0),(.slice none 0 0)] [(0,1),(1,1),(2,1)] [(1,(LT 11)),(2,(LT 12))]),LN (.store 3 (LT 2) (LT 13))] .ret)))
def Fh:aZ:=⟨14,[(.cell 2 true 3)],CJ⟩
theorem Qo:gH 130=some Fh:=by kernel_rfl
def F6:aE:=(LS [LO 2 (.box (LT 0)),LO 3 (.box (LT 1)),LO 4 (.new [(.bool false),(.slice none 0 0),(.slice none 0 0)])] (LS [LO 5 (LA 0 2),LO 6 (LL 5),LO 7 (LA 0 3),LO 8 (LL 7),LO 9 (.eqb true (LT 6) (LT 8)),LO 10 (LA 1 2),LO 11 (LL 10),LO 12 (LA 2 3),LO 13 (LL 12),LQ 14 (.call 152 [(LT 11),(LT 13)]),LO 15 (LA 2 2),LO 16 (LL 15),LO 17 (LA 1 3),LO 18 (LL 17),LQ 19 (.call 152 [(LT 16),(LT 18)]),LQ 20 (.call 153 [(LT 9),(LT 14),(LT 19)]),LN (.store 3 (LT 4) (LT 20))] .ret))
def Kd:aZ:=⟨21,[(.cell 4 true 3)],F6⟩
theorem Pc:gH 81=some Kd:=by kernel_rfl
def EM:aE:=(LS [LO 2 (.box (LT 0)),LO 3 (.box (LT 1)),LO 4 (.new [(.bool false),(.slice none 0 0),(.slice none 0 0)])] (LS [LO 5 (LK 2),LO 6 (LK 3),LQ 7 (.call 157 [(LT 6)]),LQ 8 (.call 79 [(LT 5),(LT 7)]),LN (.store 3 (LT 4) (LT 8))] .ret))
def Hj:aZ:=⟨9,[(.cell 4 true 3)],EM⟩
theorem M7:gH 82=some Hj:=by kernel_rfl
def A9:aE:=(LS [LO 1 (.box (LT 0)),LO 2 (.mv LF)] (LS [LO 3 (LA 1 1),LO 4 (LL 3),LO 5 (.len (LT 4)),LO 6 (.bin .eql (LT 5) (LI 0)),LM 2 6] .ret))
def D9:aZ:=⟨7,[(.tmp 2)],A9⟩
theorem OU:gH 59=some D9:=by kernel_rfl
def uR:aE:=(LS [LO 2 (.box (LT 0)),LO 3 (.box (LT 1)),LO 4 (.mv LF)] (LS [LO 5 (LA 0 2),LO 6 (LL 5),LO 7 (LA 0 3),LO 8 (LL 7),LO 9 (.eqb false (LT 6) (LT 8)),LM 10 9,LY 10 11 (LA 1 2),LY 10 12 (LL 11),LY 10 13 (LA 2 3),LY 10 14 (LL 13),⟨(some 15),(.call 152 [(LT 12),(LT 14)]),(some (10,true)),true,[]⟩,LY 10 16 (LA 1 3),LY 10 17 (LL 16),LY 10 18 (LA 2 2),LY 10 19 (LL 18),⟨(some 20),(.call 152 [(LT 17),(LT 19)]),(some (10,true)),true,[]⟩,⟨(some 21),(.call 155 [(LT 15),(LT 20)]),(some (10,true)),true,[]⟩,LY 10 22 (.bin .eql (LT 21) (LI 0)),LO 23 (.pick (LT 10) (LT 22) LF),LM 4 23] .ret))
def yY:aZ:=⟨24,[(.tmp 4)],uR⟩
theorem M0:gH 160=some yY:=by kernel_rfl
def uO:aE:=(LS [LO 15 (.bin .lss (LT 14) (LT 13))] (.seq (.cond (LT 15) .skip (.exit 0)) (.seq (.block 1 (LS [LM 16 14,LM 5 16] (LS [LM 18 0,LM 19 5,LO 20 (.iaddr 1 (LT 18) (LT 19)),LO 21 (LL 20),LO 22 (.call 110 [(LT 21)]),LM 17 22,LO 23 (LX 17 0),LO 24 (LX 17 1),LO 6 (.new [(.bool false),(.slice none 0 0),(.slice none 0 0)]),LN (.store 3 (LT 6) (LT 23)),LM 7 24] (.seq (LS [LM 25 7,LO 26 (.un .not (LT 25))] (.cond (LT 26) (LS [LO 2 (.mv (.const (.slice none 0 0))),LO 3 (.mv LF)] .ret) .skip)) (.cT [LM 27 4,LO 28 (LK 6),LO 29 (.lit [(.bool false),(.slice none 0 0),(.slice none 0 0)] 1 [(0,(LT 28))]),LO 30 (.app 3 56 (LT 27) (LT 29)),LM 4 30]))))) (.cT [LO 31 (.bin .add (LT 14) (LI 1)),LM 14 31]))))
def BU:aE:=(LS [LO 2 (.mv (.const (.slice none 0 0))),LO 3 (.mv LF)] (.seq (LS [LM 8 0,LO 9 (.len (LT 8)),LO 10 (.bin .gtr (LT 9) (LI 300))] (.cond (LT 10) (LS [LO 2 (.mv (.const (.slice none 0 0))),LO 3 (.mv LF)] .ret) .skip)) (LS [LO 11 (.lit [(.bool false),(.slice none 0 0),(.slice none 0 0)] 0 []),LM 4 11] (.seq (LS [LM 12 0,LO 13 (.len (LT 12)),LO 14 (.mv (LI 0))] (.block 0 (.loop uO))) (LS [LM 32 4,LM 2 32,LO 3 (.mv LG)] .ret)))))
def Eb:aZ:=⟨33,[(.tmp 2),(.tmp 3)],BU⟩
theorem NP:gH 57=some Eb:=by kernel_rfl
def wT:aE:=(LS [LO 2 (.mv LF)] (LS [LM 3 0,LO 4 (.call 58 [(LT 3)]),LM 5 4,LY 5 6 (.mv (LT 0)),LY 5 7 (.call 60 [(LT 6)]),LY 5 8 (.call 83 []),LY 5 9 (.call 160 [(LT 7),(LT 8)]),LO 10 (.pick (LT 5) (LT 9) LF),LM 2 10] .ret))
def An:aZ:=⟨11,[(.tmp 2)],wT⟩
theorem JU:gH 96=some An:=by kernel_rfl
def Bk:aE:=(LS [LO 1 (.box (LT 0)),LO 2 (.mv (.const (.string ⟨#[]⟩))),LO 3 (.mv LF)] (.seq (LS [LO 4 (LK 1),LO 5 (.call 188 [(LT 4)]),LO 6 (.un .not (LT 5))] (.cond (LT 6) (LS [LO 2 (.mv (.const (.string ⟨#[]⟩))),LO 3 (.mv LF)] .ret) .skip)) (LS [LO 7 (LK 1),LO 8 (.call 189 [(LT 7)]),LM 2 8,LO 3 (.mv LG)] .ret)))
def D5:aZ:=⟨9,[(.tmp 2),(.tmp 3)],Bk⟩
theorem OA:gH 171=some D5:=by kernel_rfl
def Ht:aE:=(LS [LO 0 (.new [(.bool false),(.slice none 0 0),(.slice none 0 0)])] (LS [LO 1 (.call 130 [(LI 1)]),LN (.store 3 (LT 0) (LT 1))] .ret))
def L9:aZ:=⟨2,[(.cell 0 true 3)],Ht⟩
theorem QA:gH 83=some L9:=by kernel_rfl
def nH:aE:=(LS [LO 7 (.bin .lss (LT 6) (LT 5))] (.seq (.cond (LT 7) .skip (.exit 0)) (.seq (.block 1 (LS [LM 8 6,LM 3 8] (LS [LM 9 0,LM 10 3,LO 11 (.iaddr 3 (LT 9) (LT 10)),LO 12 (LA 0 11),LO 13 (LL 12)] (.cond (LT 13) (LS [LO 2 (.mv LF)] .ret) .skip)))) (.cT [LO 14 (.bin .add (LT 6) (LI 1)),LM 6 14]))))
def A3:aE:=(LS [LO 2 (.mv LF)] (.seq (LS [LM 4 0,LO 5 (.len (LT 4)),LO 6 (.mv (LI 0))] (.block 0 (.loop nH))) (LS [LO 2 (.mv LG)] .ret)))
def C2:aZ:=⟨15,[(.tmp 2)],A3⟩
theorem Ie:gH 58=some C2:=by kernel_rfl
def xY:aE:=(LS [LO 9 (.bin .lss (LT 8) (LT 7))] (.seq (.cond (LT 9) .skip (.exit 0)) (.seq (.block 1 (LS [LM 10 8,LM 4 10] (.cT [LO 11 (LK 3),LM 12 0,LM 13 4,LO 14 (.iaddr 3 (LT 12) (LT 13)),LO 15 (LK 14),LQ 16 (.call 79 [(LT 11),(LT 15)]),LN (.store 3 (LT 3) (LT 16))]))) (.cT [LO 17 (.bin .add (LT 8) (LI 1)),LM 8 17]))))
def EB:aE:=(LS [LO 2 (.new [(.bool false),(.slice none 0 0),(.slice none 0 0)])] (LS [LO 5 (.call 77 []),LO 3 (.new [(.bool false),(.slice none 0 0),(.slice none 0 0)]),LN (.store 3 (LT 3) (LT 5))] (.seq (LS [LM 6 0,LO 7 (.len (LT 6)),LO 8 (.mv (LI 0))] (.block 0 (.loop xY))) (LS [LO 18 (LK 3),LN (.store 3 (LT 2) (LT 18))] .ret))))
def HD:aZ:=⟨19,[(.cell 2 true 3)],EB⟩
theorem MZ:gH 60=some HD:=by kernel_rfl
def lP:aE:=(LS [LO 6 (.new [(.bool false),(.slice none 0 0),(.slice none 0 0)])] (LS [LM 8 1,LM 9 2,LO 10 (.call 170 [(LT 8),(LT 9)]),LM 7 10] (.seq (LS [LM 11 7,LO 12 (.lit [(.int .i64 0)] 1 [(0,(LI 1))]),LO 13 (.call 155 [(LT 11),(LT 12)]),LO 14 (.bin .neq (LT 13) (LI 0))] (.cond (LT 14) (LS [LM 16 1,LM 17 7,LO 18 (.call 185 [(LT 16),(LT 17)]),LM 15 18,LO 19 (LX 15 0),LO 20 (LX 15 1),LM 1 19] (.cT [LM 22 2,LM 23 7,LO 24 (.call 185 [(LT 22),(LT 23)]),LM 21 24,LO 25 (LX 21 0),LO 26 (LX 21 1),LM 2 25])) .skip)) (LS [LM 27 0,LM 28 27,LY 28 29 (.mv (LT 1)),LY 28 30 (.len (LT 29)),LY 28 31 (.bin .gtr (LT 30) (LI 0)),LO 32 (.pick (LT 28) (LT 31) LF),LM 33 1,LM 34 2,LO 35 (.build [(.bool false),(.slice none 0 0),(.slice none 0 0)] [(0,1),(1,1),(2,1)] [(0,(LT 32)),(1,(LT 33)),(2,(LT 34))]),LN (.store 3 (LT 6) (LT 35))] .ret))))
def pO:aZ:=⟨36,[(.cell 6 true 3)],lP⟩
theorem Pv:gH 153=some pO:=by kernel_rfl
def sC:aE:=(.seq (LS [LM 19 5,LO 20 (.bin .geq (LT 19) (LI 0))] (.cond (LT 20) .skip (.exit 0))) (.seq (.block 1 (LS [LM 23 0,LM 24 5,LO 25 (.iaddr 1 (LT 23) (LT 24)),LO 26 (LL 25),LM 27 1,LM 28 5,LO 29 (.iaddr 1 (LT 27) (LT 28)),LO 30 (LL 29),LO 31 (.bin .neq (LT 26) (LT 30))] (.cond (LT 31) (.seq (LS [LM 32 0,LM 33 5,LO 34 (.iaddr 1 (LT 32) (LT 33)),LO 35 (LL 34),LM 36 1,LM 37 5,LO 38 (.iaddr 1 (LT 36) (LT 37)),LO 39 (LL 38),LO 40 (.bin .lss (LT 35) (LT 39))] (.cond (LT 40) (LS [LO 4 (.mv (LI (-1)))] .ret) .skip)) (LS [LO 4 (.mv (LI 1))] .ret)) .skip))) (.cT [LM 21 5,LO 22 (.bin .sub (LT 21) (LI 1)),LM 5 22])))
def zA:aE:=(LS [LO 4 (.mv (LI 0))] (.seq (LS [LM 6 0,LO 7 (.len (LT 6)),LM 8 1,LO 9 (.len (LT 8)),LO 10 (.bin .neq (LT 7) (LT 9))] (.cond (LT 10) (.seq (LS [LM 11 0,LO 12 (.len (LT 11)),LM 13 1,LO 14 (.len (LT 13)),LO 15 (.bin .lss (LT 12) (LT 14))] (.cond (LT 15) (LS [LO 4 (.mv (LI (-1)))] .ret) .skip)) (LS [LO 4 (.mv (LI 1))] .ret)) .skip)) (.seq (LS [LM 16 0,LO 17 (.len (LT 16)),LO 18 (.bin .sub (LT 17) (LI 1)),LM 5 18] (.block 0 (.loop sC))) (LS [LO 4 (.mv (LI 0))] .ret))))
def B9:aZ:=⟨41,[(.tmp 4)],zA⟩
theorem Ql:gH 155=some B9:=by kernel_rfl
def xF:aE:=(LS [LO 24 (.bin .lss (LT 23) (LT 22))] (.seq (.cond (LT 24) .skip (.exit 2)) (.seq (.block 3 (LS [LM 25 23,LM 8 25] (LS [LM 26 5,LM 27 6,LM 28 8,LO 29 (.bin .add (LT 27) (LT 28)),LO 30 (.iaddr 1 (LT 26) (LT 29)),LO 31 (LL 30),LM 32 0,LM 33 6,LO 34 (.iaddr 1 (LT 32) (LT 33)),LO 35 (LL 34),LM 36 1,LM 37 8,LO 38 (.iaddr 1 (LT 36) (LT 37)),LO 39 (LL 38),LO 40 (.bin .mul (LT 35) (LT 39)),LO 41 (.bin .add (LT 31) (LT 40)),LM 42 7,LO 43 (.bin .add (LT 41) (LT 42)),LM 9 43] (LS [LM 44 5,LM 45 6,LM 46 8,LO 47 (.bin .add (LT 45) (LT 46)),LM 48 9,LO 49 (.bin .rem (LT 48) (LI 1000000000)),LO 50 (.iaddr 1 (LT 44) (LT 47)),LN (.store 1 (LT 50) (LT 49))] (.cT [LM 51 9,LO 52 (.bin .quo (LT 51) (LI 1000000000)),LM 7 52]))))) (.cT [LO 53 (.bin .add (LT 23) (LI 1)),LM 23 53]))))
def wM:aE:=(LS [LO 19 (.bin .lss (LT 18) (LT 17))] (.seq (.cond (LT 19) .skip (.exit 0)) (.seq (.block 1 (LS [LM 20 18,LM 6 20] (LS [LO 7 (.mv (LI 0))] (.seq (LS [LM 21 1,LO 22 (.len (LT 21)),LO 23 (.mv (LI 0))] (.block 2 (.loop xF))) (.cT [LM 54 5,LM 55 6,LM 56 1,LO 57 (.len (LT 56)),LO 58 (.bin .add (LT 55) (LT 57)),LO 59 (.iaddr 1 (LT 54) (LT 58)),LO 60 (LL 59),LM 61 7,LO 62 (.bin .add (LT 60) (LT 61)),LO 63 (.iaddr 1 (LT 54) (LT 58)),LN (.store 1 (LT 63) (LT 62))]))))) (.cT [LO 64 (.bin .add (LT 18) (LI 1)),LM 18 64]))))
def Da:aE:=(LS [LO 4 (.mv (.const (.slice none 0 0)))] (LS [LM 10 0,LO 11 (.len (LT 10)),LM 12 1,LO 13 (.len (LT 12)),LO 14 (.bin .add (LT 11) (LT 13)),LO 15 (.make [(.int .i64 0)] 8 (LT 14) (LT 14)),LM 5 15] (.seq (LS [LM 16 0,LO 17 (.len (LT 16)),LO 18 (.mv (LI 0))] (.block 0 (.loop wM))) (LS [LM 65 5,LO 66 (.call 184 [(LT 65)]),LM 4 66] .ret))))
def F7:aZ:=⟨67,[(.tmp 4)],Da⟩
theorem LC:gH 152=some F7:=by kernel_rfl
def mV:aE:=(.seq (LS [LM 10 7,LM 11 0,LO 12 (.len (LT 11)),LO 13 (.bin .lss (LT 10) (LT 12)),LM 14 13,LZ 14 15 (.mv (LT 7)),LZ 14 16 (.mv (LT 1)),LZ 14 17 (.len (LT 16)),LZ 14 18 (.bin .lss (LT 15) (LT 17)),LO 19 (.pick (LT 14) LG (LT 18)),LM 20 19,LZ 20 21 (.mv (LT 6)),LZ 20 22 (.bin .gtr (LT 21) (LI 0)),LO 23 (.pick (LT 20) LG (LT 22))] (.cond (LT 23) .skip (.exit 0))) (.seq (.block 1 (LS [LM 26 0,LM 27 7,LO 28 (.call 186 [(LT 26),(LT 27)]),LM 29 1,LM 30 7,LO 31 (.call 186 [(LT 29),(LT 30)]),LO 32 (.bin .add (LT 28) (LT 31)),LM 33 6,LO 34 (.bin .add (LT 32) (LT 33)),LM 8 34] (LS [LM 35 5,LM 36 8,LO 37 (.bin .rem (LT 36) (LI 1000000000)),LO 38 (.lit [(.int .i64 0)] 1 [(0,(LT 37))]),LO 39 (.app 1 8 (LT 35) (LT 38)),LM 5 39] (.cT [LM 40 8,LO 41 (.bin .quo (LT 40) (LI 1000000000)),LM 6 41])))) (.cT [LM 24 7,LO 25 (.bin .add (LT 24) (LI 1)),LM 7 25])))
def DC:aE:=(LS [LO 4 (.mv (.const (.slice none 0 0)))] (LS [LO 9 (.lit [(.int .i64 0)] 0 []),LM 5 9] (LS [LO 6 (.mv (LI 0))] (.seq (LS [LO 7 (.mv (LI 0))] (.block 0 (.loop mV))) (LS [LM 42 5,LM 4 42] .ret)))))
def FW:aZ:=⟨43,[(.tmp 4)],DC⟩
theorem Ly:gH 154=some FW:=by kernel_rfl
def oQ:aE:=(LS [LO 13 (.bin .lss (LT 12) (LT 11))] (.seq (.cond (LT 13) .skip (.exit 0)) (.seq (.block 1 (LS [LM 14 12,LM 7 14] (LS [LM 15 0,LM 16 7,LO 17 (.iaddr 1 (LT 15) (LT 16)),LO 18 (LL 17),LM 19 1,LM 20 7,LQ 21 (.call 186 [(LT 19),(LT 20)]),LO 22 (.bin .sub (LT 18) (LT 21)),LM 23 6,LO 24 (.bin .sub (LT 22) (LT 23)),LM 8 24] (LS [LO 6 (.mv (LI 0))] (.seq (LS [LM 25 8,LO 26 (.bin .lss (LT 25) (LI 0))] (.cond (LT 26) (LS [LM 27 8,LO 28 (.bin .add (LT 27) (LI 1000000000)),LM 8 28] (.cT [LO 6 (.mv (LI 1))])) .skip)) (.cT [LM 29 5,LM 30 8,LO 31 (.lit [(.int .i64 0)] 1 [(0,(LT 30))]),LO 32 (.app 1 8 (LT 29) (LT 31)),LM 5 32])))))) (.cT [LO 33 (.bin .add (LT 12) (LI 1)),LM 12 33]))))
def B8:aE:=(LS [LO 4 (.mv (.const (.slice none 0 0)))] (LS [LO 9 (.lit [(.int .i64 0)] 0 []),LM 5 9] (LS [LO 6 (.mv (LI 0))] (.seq (LS [LM 10 0,LO 11 (.len (LT 10)),LO 12 (.mv (LI 0))] (.block 0 (.loop oQ))) (LS [LM 34 5,LO 35 (.call 184 [(LT 34)]),LM 4 35] .ret)))))
def EA:aZ:=⟨36,[(.tmp 4)],B8⟩
theorem Jp:gH 156=some EA:=by kernel_rfl
def Bt:aE:=(.seq (LS [LM 5 0,LO 6 (.bin .gtr (LT 5) (LI 0))] (.cond (LT 6) .skip (.exit 0))) (.block 1 (LS [LM 7 3,LM 8 0,LO 9 (.bin .rem (LT 8) (LI 1000000000)),LO 10 (.lit [(.int .i64 0)] 1 [(0,(LT 9))]),LO 11 (.app 1 8 (LT 7) (LT 10)),LM 3 11] (.cT [LM 12 0,LO 13 (.bin .quo (LT 12) (LI 1000000000)),LM 0 13]))))
def Hk:aE:=(LS [LO 2 (.mv (.const (.slice none 0 0)))] (LS [LO 4 (.lit [(.int .i64 0)] 0 []),LM 3 4] (.seq (.block 0 (.loop Bt)) (LS [LM 14 3,LM 2 14] .ret))))
def MH:aZ:=⟨15,[(.tmp 2)],Hk⟩
theorem QI:gH 178=some MH:=by kernel_rfl
def pP:aE:=(LS [LO 1 (.box (LT 0)),LO 2 (.new [(.bool false),(.slice none 0 0),(.slice none 0 0)])] (LS [LO 3 (LA 0 1),LO 4 (LL 3),LO 5 (.un .not (LT 4)),LM 6 5,LY 6 7 (LA 1 1),LY 6 8 (LL 7),LY 6 9 (.len (LT 8)),LY 6 10 (.bin .gtr (LT 9) (LI 0)),LO 11 (.pick (LT 6) (LT 10) LF),LO 12 (LA 1 1),LO 13 (LL 12),LO 14 (LA 2 1),LO 15 (LL 14),LO 16 (.build [(.bool false),(.slice none 0 0),(.slice none 0 0)] [(0,1),(1,1),(2,1)] [(0,(LT 11)),(1,(LT 13)),(2,(LT 15))]),LN (.store 3 (LT 2) (LT 16))] .ret))
def sW:aZ:=⟨17,[(.cell 2 true 3)],pP⟩
theorem IB:gH 157=some sW:=by kernel_rfl
def bL:aE:=(LS [LO 2 (.new [(.bool false),(.slice none 0 0),(.slice none 0 0)]),LO 3 (.mv LF)] (LS [LM 8 0,LO 9 (.slen (LT 8)),LO 10 (.bin .gtr (LT 9) (LI 0)),LM 11 10,LY 11 12 (.mv (LT 0)),LY 11 13 (.sidx (LT 12) (LI 0)),LY 11 14 (.bin .eql (LT 13) (.const (.int .u8 45))),LO 15 (.pick (LT 11) (LT 14) LF),LM 4 15] (.seq (LS [LM 16 4] (.cond (LT 16) (.cT [LM 17 0,LO 18 (.ssub (LT 17) (some (LI 1)) none),LM 0 18]) .skip)) (LS [LM 19 0,LO 20 (.call 167 [(LT 19),(.const (.int .u8 47))]),LM 5 20] (.seq (LS [LM 21 5,LO 22 (.len (LT 21)),LO 23 (.bin .gtr (LT 22) (LI 2)),LM 24 23,LZ 24 25 (.mv (LT 5)),LZ 24 26 (.iaddr 1 (LT 25) (LI 0)),LZ 24 27 (LL 26),LZ 24 28 (.call 168 [(LT 27)]),LZ 24 29 (.un .not (LT 28)),LO 30 (.pick (LT 24) LG (LT 29))] (.cond (LT 30) (LS [LO 31 (.build [(.bool false),(.slice none 0 0),(.slice none 0 0)] [(0,1),(1,1),(2,1)] []),LN (.store 3 (LT 2) (LT 31)),LO 3 (.mv LF)] .ret) .skip)) (LS [LM 32 5,LO 33 (.iaddr 1 (LT 32) (LI 0)),LO 34 (LL 33),LO 35 (.call 169 [(LT 34)]),LM 6 35] (.seq (LS [LM 36 4,LM 37 36,LY 37 38 (.mv (LT 6)),LY 37 39 (.len (LT 38)),LY 37 40 (.bin .eql (LT 39) (LI 0)),LO 41 (.pick (LT 37) (LT 40) LF)] (.cond (LT 41) (LS [LO 42 (.build [(.bool false),(.slice none 0 0),(.slice none 0 0)] [(0,1),(1,1),(2,1)] []),LN (.store 3 (LT 2) (LT 42)),LO 3 (.mv LF)] .ret) .skip)) (.seq (LS [LM 43 5,LO 44 (.len (LT 43)),LO 45 (.bin .eql (LT 44) (LI 1))] (.cond (LT 45) (LS [LM 46 4,LM 47 6,LO 48 (.lit [(.int .i64 0)] 1 [(0,(LI 1))]),LO 49 (.build [(.bool false),(.slice none 0 0),(.slice none 0 0)] [(0,1),(1,1),(2,1)] [(0,(LT 46)),(1,(LT 47)),(2,(LT 48))]),LN (.store 3 (LT 2) (LT 49)),LO 3 (.mv LG)] .ret) .skip)) (.seq (LS [LM 50 5,LO 51 (.iaddr 1 (LT 50) (LI 1)),LO 52 (LL 51),LO 53 (.call 168 [(LT 52)]),LO 54 (.un .not (LT 53))] (.cond (LT 54) (LS [LO 55 (.build [(.bool false),(.slice none 0 0),(.slice none 0 0)] [(0,1),(1,1),(2,1)] []),LN (.store 3 (LT 2) (LT 55)),LO 3 (.mv LF)] .ret) .skip)) (LS [LM 56 5,LO 57 (.iaddr 1 (LT 56) (LI 1)),LO 58 (LL 57),LO 59 (.call 169 [(LT 58)]),LM 7 59] (.seq (LS [LM 60 7,LO 61 (.lit [(.int .i64 0)] 1 [(0,(LI 1))]),LO 62 (.call 155 [(LT 60),(LT 61)]),LO 63 (.bin .leq (LT 62) (LI 0)),LM 64 63,LZ 64 65 (.mv (LT 6)),LZ 64 66 (.mv (LT 7)),LZ 64 67 (.call 170 [(LT 65),(LT 66)]),LZ 64 68 (.lit [(.int .i64 0)] 1 [(0,(LI 1))]),LZ 64 69 (.call 155 [(LT 67),(LT 68)]),LZ 64 70 (.bin .neq (LT 69) (LI 0)),LO 71 (.pick (LT 64) LG (LT 70))] (.cond (LT 71) (LS [LO 72 (.build [(.bool false),(.slice none 0 0),(.slice none 0 0)] [(0,1),(1,1),(2,1)] []),LN (.store 3 (LT 2) (LT 72)),LO 3 (.mv LF)] .ret) .skip)) (LS [LM 73 4,LM 74 6,LM 75 7,LO 76 (.build [(.bool false),(.slice none 0 0),(.slice none 0 0)] [(0,1),(1,1),(2,1)] [(0,(LT 73)),(1,(LT 74)),(2,(LT 75))]),LN (.store 3 (LT 2) (LT 76)),LO 3 (.mv LG)] .ret))))))))))))
def cB:aZ:=⟨77,[(.cell 2 true 3),(.tmp 3)],bL⟩
theorem Nn:gH 110=some cB:=by kernel_rfl
def AU:aE:=(LS [LO 1 (.box (LT 0)),LO 2 (.mv LF)] (LS [LO 3 (LA 1 1),LO 4 (LL 3),LO 5 (.call 208 [(LT 4)]),LO 6 (.slen (LT 5)),LO 7 (.bin .leq (LT 6) (LI 200)),LM 8 7,LY 8 9 (LA 2 1),LY 8 10 (LL 9),LY 8 11 (.call 208 [(LT 10)]),LY 8 12 (.slen (LT 11)),LY 8 13 (.bin .leq (LT 12) (LI 200)),LO 14 (.pick (LT 8) (LT 13) LF),LM 2 14] .ret))
def D1:aZ:=⟨15,[(.tmp 2)],AU⟩
theorem OO:gH 188=some D1:=by kernel_rfl
def BO:aE:=(LS [LO 1 (.box (LT 0)),LO 2 (.mv (.const (.string ⟨#[]⟩)))] (LS [LO 4 (LA 1 1),LO 5 (LL 4),LO 6 (.call 208 [(LT 5)]),LM 3 6] (.seq (LS [LO 7 (LA 0 1),LO 8 (LL 7)] (.cond (LT 8) (.cT [LM 9 3,LO 10 (.bin .add (.const (.string ⟨#[45]⟩)) (LT 9)),LM 3 10]) .skip)) (.seq (LS [LO 11 (LA 2 1),LO 12 (LL 11),LO 13 (.lit [(.int .i64 0)] 1 [(0,(LI 1))]),LO 14 (.call 155 [(LT 12),(LT 13)]),LO 15 (.bin .neq (LT 14) (LI 0))] (.cond (LT 15) (.cT [LM 16 3,LO 17 (LA 2 1),LO 18 (LL 17),LO 19 (.call 208 [(LT 18)]),LO 20 (.bin .add (.const (.string ⟨#[47]⟩)) (LT 19)),LO 21 (.bin .add (LT 16) (LT 20)),LM 3 21]) .skip)) (LS [LM 22 3,LM 2 22] .ret)))))
def DW:aZ:=⟨23,[(.tmp 2)],BO⟩
theorem Oi:gH 189=some DW:=by kernel_rfl
def BG:aE:=(.seq (LS [LM 7 1,LO 8 (.len (LT 7)),LO 9 (.bin .gtr (LT 8) (LI 0))] (.cond (LT 9) .skip (.exit 0))) (.block 1 (LS [LM 11 0,LM 12 1,LO 13 (.call 185 [(LT 11),(LT 12)]),LM 10 13,LO 14 (LX 10 0),LO 15 (LX 10 1),LM 5 14,LM 6 15] (LS [LM 16 1,LM 0 16] (.cT [LM 17 6,LM 1 17])))))
def Hp:aE:=(LS [LO 4 (.mv (.const (.slice none 0 0)))] (.seq (.block 0 (.loop BG)) (LS [LM 18 0,LM 4 18] .ret)))
def Mw:aZ:=⟨19,[(.tmp 4)],Hp⟩
theorem Qw:gH 170=some Mw:=by kernel_rfl
def iG:aE:=(.seq (LS [LM 132 19,LO 133 (.bin .geq (LT 132) (LI 1000000000)),LM 134 133,LZ 134 135 (.mv (LT 19)),LZ 134 136 (.mv (LT 14)),LZ 134 137 (.mv (LT 15)),LZ 134 138 (.bin .sub (LT 137) (LI 2)),LZ 134 139 (.iaddr 1 (LT 136) (LT 138)),LZ 134 140 (LL 139),LZ 134 141 (.bin .mul (LT 135) (LT 140)),LZ 134 142 (.mv (LT 20)),LZ 134 143 (.bin .mul (LT 142) (LI 1000000000)),LZ 134 144 (.mv (LT 13)),LZ 134 145 (.mv (LT 17)),LZ 134 146 (.mv (LT 15)),LZ 134 147 (.bin .add (LT 145) (LT 146)),LZ 134 148 (.bin .sub (LT 147) (LI 2)),LZ 134 149 (.iaddr 1 (LT 144) (LT 148)),LZ 134 150 (LL 149),LZ 134 151 (.bin .add (LT 143) (LT 150)),LZ 134 152 (.bin .gtr (LT 141) (LT 151)),LO 153 (.pick (LT 134) LG (LT 152))] (.cond (LT 153) .skip (.exit 2))) (.block 3 (LS [LM 154 19,LO 155 (.bin .sub (LT 154) (LI 1)),LM 19 155] (LS [LM 156 20,LM 157 14,LM 158 15,LO 159 (.bin .sub (LT 158) (LI 1)),LO 160 (.iaddr 1 (LT 157) (LT 159)),LO 161 (LL 160),LO 162 (.bin .add (LT 156) (LT 161)),LM 20 162] (LS [LM 163 20,LO 164 (.bin .geq (LT 163) (LI 1000000000))] (.cond (LT 164) (.exit 2) .skip))))))
def jU:aE:=(.seq (LS [LM 99 17,LO 100 (.bin .geq (LT 99) (LI 0))] (.cond (LT 100) .skip (.exit 0))) (.seq (.block 1 (LS [LM 103 13,LM 104 17,LM 105 15,LO 106 (.bin .add (LT 104) (LT 105)),LO 107 (.iaddr 1 (LT 103) (LT 106)),LO 108 (LL 107),LO 109 (.bin .mul (LT 108) (LI 1000000000)),LM 110 13,LM 111 17,LM 112 15,LO 113 (.bin .add (LT 111) (LT 112)),LO 114 (.bin .sub (LT 113) (LI 1)),LO 115 (.iaddr 1 (LT 110) (LT 114)),LO 116 (LL 115),LO 117 (.bin .add (LT 109) (LT 116)),LM 18 117] (LS [LM 118 18,LM 119 14,LM 120 15,LO 121 (.bin .sub (LT 120) (LI 1)),LO 122 (.iaddr 1 (LT 119) (LT 121)),LO 123 (LL 122),LO 124 (.bin .quo (LT 118) (LT 123)),LM 125 18,LM 126 14,LM 127 15,LO 128 (.bin .sub (LT 127) (LI 1)),LO 129 (.iaddr 1 (LT 126) (LT 128)),LO 130 (LL 129),LO 131 (.bin .rem (LT 125) (LT 130)),LM 19 124,LM 20 131] (.seq (.block 2 (.loop iG)) (.seq (LS [LM 165 13,LM 166 14,LM 167 17,LM 168 19,LO 169 (.call 204 [(LT 165),(LT 166),(LT 167),(LT 168)])] (.cond (LT 169) (LS [LM 170 19,LO 171 (.bin .sub (LT 170) (LI 1)),LM 19 171] (.cT [LM 172 13,LM 173 14,LM 174 17,LO 175 (.call 205 [(LT 172),(LT 173),(LT 174)])])) .skip)) (.cT [LM 176 16,LM 177 17,LM 178 19,LO 179 (.iaddr 1 (LT 176) (LT 177)),LN (.store 1 (LT 179) (LT 178))])))))) (.cT [LM 101 17,LO 102 (.bin .sub (LT 101) (LI 1)),LM 17 102])))
def dX:aE:=(LS [LO 4 (.mv (.const (.slice none 0 0))),LO 5 (.mv (.const (.slice none 0 0)))] (LS [LM 24 0,LO 25 (.call 201 [(LT 24)]),LM 23 25,LO 26 (LX 23 0),LO 27 (LX 23 1),LM 6 26,LM 7 27] (LS [LM 29 1,LO 30 (.call 201 [(LT 29)]),LM 28 30,LO 31 (LX 28 0),LO 32 (LX 28 1),LM 8 31,LM 9 32] (.seq (LS [LM 33 7,LM 34 33,LY 34 35 (.mv (LT 9)),LO 36 (.pick (LT 34) (LT 35) LF)] (.cond (LT 36) (LS [LM 37 6,LM 38 8,LO 39 (.bin .quo (LT 37) (LT 38)),LQ 40 (.call 178 [(LT 39)]),LM 41 6,LM 42 8,LO 43 (.bin .rem (LT 41) (LT 42)),LQ 44 (.call 178 [(LT 43)]),LM 4 40,LM 5 44] .ret) .skip)) (.seq (LS [LM 45 0,LM 46 1,LO 47 (.call 155 [(LT 45),(LT 46)]),LO 48 (.bin .lss (LT 47) (LI 0))] (.cond (LT 48) (LS [LO 49 (.lit [(.int .i64 0)] 0 []),LO 50 (.lit [(.int .i64 0)] 0 []),LM 51 0,LO 52 (.app 1 8 (LT 50) (LT 51)),LM 4 49,LM 5 52] .ret) .skip)) (.seq (LS [LM 53 1,LO 54 (.len (LT 53)),LO 55 (.bin .eql (LT 54) (LI 1))] (.cond (LT 55) (LS [LM 57 0,LM 58 1,LO 59 (.iaddr 1 (LT 58) (LI 0)),LO 60 (LL 59),LO 61 (.call 202 [(LT 57),(LT 60)]),LM 56 61,LO 62 (LX 56 0),LO 63 (LX 56 1),LM 10 62,LM 11 63] (LS [LM 64 10,LM 65 11,LO 66 (.call 178 [(LT 65)]),LM 4 64,LM 5 66] .ret)) .skip)) (LS [LM 67 1,LM 68 1,LO 69 (.len (LT 68)),LO 70 (.bin .sub (LT 69) (LI 1)),LO 71 (.iaddr 1 (LT 67) (LT 70)),LO 72 (LL 71),LO 73 (.bin .add (LT 72) (LI 1)),LO 74 (.bin .quo (LI 1000000000) (LT 73)),LM 12 74] (LS [LM 75 0,LO 76 (.len (LT 75)),LO 77 (.bin .add (LT 76) (LI 1)),LO 78 (.make [(.int .i64 0)] 8 (LT 77) (LT 77)),LM 13 78] (LS [LM 79 13,LM 80 0,LM 81 12,LO 82 (.call 203 [(LT 80),(LT 81)]),LO 83 (.copy 1 (LT 79) (LT 82))] (LS [LM 84 1,LM 85 12,LO 86 (.call 203 [(LT 84),(LT 85)]),LM 14 86] (LS [LM 87 14,LO 88 (.len (LT 87)),LM 15 88] (LS [LM 89 13,LO 90 (.len (LT 89)),LM 91 15,LO 92 (.bin .sub (LT 90) (LT 91)),LO 93 (.make [(.int .i64 0)] 8 (LT 92) (LT 92)),LM 16 93] (.seq (LS [LM 94 13,LO 95 (.len (LT 94)),LM 96 15,LO 97 (.bin .sub (LT 95) (LT 96)),LO 98 (.bin .sub (LT 97) (LI 1)),LM 17 98] (.block 0 (.loop jU))) (LS [LM 181 13,LO 182 (.call 184 [(LT 181)]),LM 183 12,LO 184 (.call 202 [(LT 182),(LT 183)]),LM 180 184,LO 185 (LX 180 0),LO 186 (LX 180 1),LM 21 185,LM 22 186] (LS [LM 187 16,LO 188 (.call 184 [(LT 187)]),LM 189 21,LM 4 188,LM 5 189] .ret)))))))))))))))
def fT:aZ:=⟨190,[(.tmp 4),(.tmp 5)],dX⟩
theorem Lt:gH 185=some fT:=by kernel_rfl
def uM:aE:=(.seq (LS [LM 3 0,LO 4 (.len (LT 3)),LO 5 (.bin .gtr (LT 4) (LI 0)),LM 6 5,LY 6 7 (.mv (LT 0)),LY 6 8 (.mv (LT 0)),LY 6 9 (.len (LT 8)),LY 6 10 (.bin .sub (LT 9) (LI 1)),LY 6 11 (.iaddr 1 (LT 7) (LT 10)),LY 6 12 (LL 11),LY 6 13 (.bin .eql (LT 12) (LI 0)),LO 14 (.pick (LT 6) (LT 13) LF)] (.cond (LT 14) .skip (.exit 0))) (.block 1 (.cT [LM 15 0,LM 16 0,LO 17 (.len (LT 16)),LO 18 (.bin .sub (LT 17) (LI 1)),LO 19 (.sub 1 (LT 15) none (some (LT 18)) none),LM 0 19])))
def FD:aE:=(LS [LO 2 (.mv (.const (.slice none 0 0)))] (.seq (.block 0 (.loop uM)) (LS [LM 20 0,LM 2 20] .ret)))
def J4:aZ:=⟨21,[(.tmp 2)],FD⟩
theorem Py:gH 184=some J4:=by kernel_rfl
def Ab:aE:=(LS [LO 4 (.mv (LI 0))] (.seq (LS [LM 5 1,LM 6 0,LO 7 (.len (LT 6)),LO 8 (.bin .lss (LT 5) (LT 7))] (.cond (LT 8) (LS [LM 9 0,LM 10 1,LO 11 (.iaddr 1 (LT 9) (LT 10)),LO 12 (LL 11),LM 4 12] .ret) .skip)) (LS [LO 4 (.mv (LI 0))] .ret)))
def CS:aZ:=⟨13,[(.tmp 4)],Ab⟩
theorem Ng:gH 186=some CS:=by kernel_rfl
def sB:aE:=(.seq (LS [LM 9 7,LM 10 0,LO 11 (.slen (LT 10)),LO 12 (.bin .leq (LT 9) (LT 11))] (.cond (LT 12) .skip (.exit 0))) (.seq (.block 1 (LS [LM 15 7,LM 16 0,LO 17 (.slen (LT 16)),LO 18 (.bin .eql (LT 15) (LT 17)),LM 19 18,LZ 19 20 (.mv (LT 0)),LZ 19 21 (.mv (LT 7)),LZ 19 22 (.sidx (LT 20) (LT 21)),LZ 19 23 (.mv (LT 1)),LZ 19 24 (.bin .eql (LT 22) (LT 23)),LO 25 (.pick (LT 19) LG (LT 24))] (.cond (LT 25) (LS [LM 26 5,LM 27 0,LM 28 6,LM 29 7,LO 30 (.ssub (LT 27) (some (LT 28)) (some (LT 29))),LO 31 (.lit [(.string ⟨#[]⟩)] 1 [(0,(LT 30))]),LO 32 (.app 1 16 (LT 26) (LT 31)),LM 5 32] (.cT [LM 33 7,LO 34 (.bin .add (LT 33) (LI 1)),LM 6 34])) .skip))) (.cT [LM 13 7,LO 14 (.bin .add (LT 13) (LI 1)),LM 7 14])))
def Hu:aE:=(LS [LO 4 (.mv (.const (.slice none 0 0)))] (LS [LO 8 (.lit [(.string ⟨#[]⟩)] 0 []),LM 5 8] (LS [LO 6 (.mv (LI 0))] (.seq (LS [LO 7 (.mv (LI 0))] (.block 0 (.loop sB))) (LS [LM 35 5,LM 4 35] .ret)))))
def MP:aZ:=⟨36,[(.tmp 4)],Hu⟩
theorem Qn:gH 167=some MP:=by kernel_rfl
def eJ:aE:=(.seq (LS [LM 4 3,LM 5 0,LO 6 (.slen (LT 5)),LO 7 (.bin .lss (LT 4) (LT 6))] (.cond (LT 7) .skip (.exit 0))) (.seq (.block 1 (LS [LM 10 0,LM 11 3,LO 12 (.sidx (LT 10) (LT 11)),LO 13 (.bin .lss (LT 12) (.const (.int .u8 48))),LM 14 13,LZ 14 15 (.mv (LT 0)),LZ 14 16 (.mv (LT 3)),LZ 14 17 (.sidx (LT 15) (LT 16)),LZ 14 18 (.bin .gtr (LT 17) (.const (.int .u8 57))),LO 19 (.pick (LT 14) LG (LT 18))] (.cond (LT 19) (LS [LO 2 (.mv LF)] .ret) .skip))) (.cT [LM 8 3,LO 9 (.bin .add (LT 8) (LI 1)),LM 3 9])))
def Di:aE:=(LS [LO 2 (.mv LF)] (.seq (LS [LO 3 (.mv (LI 0))] (.block 0 (.loop eJ))) (LS [LM 20 0,LO 21 (.slen (LT 20)),LO 22 (.bin .geq (LT 21) (LI 1)),LM 23 22,LY 23 24 (.mv (LT 0)),LY 23 25 (.slen (LT 24)),LY 23 26 (.bin .leq (LT 25) (LI 200)),LO 27 (.pick (LT 23) (LT 26) LF),LM 28 27,LY 28 29 (.mv (LT 0)),LY 28 30 (.slen (LT 29)),LY 28 31 (.bin .eql (LT 30) (LI 1)),LY 28 32 (.mv (LT 31)),LZ 32 33 (.mv (LT 0)),LZ 32 34 (.sidx (LT 33) (LI 0)),LZ 32 35 (.bin .neq (LT 34) (.const (.int .u8 48))),LY 28 36 (.pick (LT 32) LG (LT 35)),LO 37 (.pick (LT 28) (LT 36) LF),LM 2 37] .ret)))
def Fw:aZ:=⟨38,[(.tmp 2)],Di⟩
theorem KV:gH 168=some Fw:=by kernel_rfl
def pS:aE:=(.seq (LS [LM 20 7,LM 21 4,LO 22 (.bin .lss (LT 20) (LT 21))] (.cond (LT 22) .skip (.exit 2))) (.seq (.block 3 (.cT [LM 25 6,LO 26 (.bin .mul (LI 10) (LT 25)),LM 27 0,LM 28 7,LO 29 (.sidx (LT 27) (LT 28)),LO 30 (.bin .sub (LT 29) (.const (.int .u8 48))),LO 31 (.cvt .i64 (LT 30)),LO 32 (.bin .add (LT 26) (LT 31)),LM 6 32])) (.cT [LM 23 7,LO 24 (.bin .add (LT 23) (LI 1)),LM 7 24])))
def oM:aE:=(.seq (LS [LM 11 4,LO 12 (.bin .gtr (LT 11) (LI 0))] (.cond (LT 12) .skip (.exit 0))) (.seq (.block 1 (LS [LO 5 (.mv (LI 0))] (.seq (LS [LM 15 4,LO 16 (.bin .gtr (LT 15) (LI 9))] (.cond (LT 16) (.cT [LM 17 4,LO 18 (.bin .sub (LT 17) (LI 9)),LM 5 18]) .skip)) (LS [LO 6 (.mv (LI 0))] (.seq (LS [LM 19 5,LM 7 19] (.block 2 (.loop pS))) (.cT [LM 33 3,LM 34 6,LO 35 (.lit [(.int .i64 0)] 1 [(0,(LT 34))]),LO 36 (.app 1 8 (LT 33) (LT 35)),LM 3 36])))))) (.cT [LM 13 4,LO 14 (.bin .sub (LT 13) (LI 9)),LM 4 14])))
def Co:aE:=(LS [LO 2 (.mv (.const (.slice none 0 0)))] (LS [LO 8 (.lit [(.int .i64 0)] 0 []),LM 3 8] (.seq (LS [LM 9 0,LO 10 (.slen (LT 9)),LM 4 10] (.block 0 (.loop oM))) (LS [LM 37 3,LO 38 (.call 184 [(LT 37)]),LM 2 38] .ret))))
def Ez:aZ:=⟨39,[(.tmp 2)],Co⟩
theorem J5:gH 169=some Ez:=by kernel_rfl
def vE:aE:=(.seq (LS [LM 19 4,LO 20 (.bin .geq (LT 19) (LI 0))] (.cond (LT 20) .skip (.exit 0))) (.seq (.block 1 (LS [LM 23 0,LM 24 4,LO 25 (.iaddr 1 (LT 23) (LT 24)),LO 26 (LL 25),LO 27 (.bin .add (LT 26) (LI 1000000000)),LO 28 (.call 219 [(LT 27)]),LM 5 28] (.cT [LM 29 3,LM 30 5,LO 31 (.ssub (LT 30) (some (LI 1)) none),LO 32 (.bin .add (LT 29) (LT 31)),LM 3 32]))) (.cT [LM 21 4,LO 22 (.bin .sub (LT 21) (LI 1)),LM 4 22])))
def wH:aE:=(LS [LO 2 (.mv (.const (.string ⟨#[]⟩)))] (.seq (LS [LM 6 0,LO 7 (.len (LT 6)),LO 8 (.bin .eql (LT 7) (LI 0))] (.cond (LT 8) (LS [LO 2 (.mv (.const (.string ⟨#[48]⟩)))] .ret) .skip)) (LS [LM 9 0,LM 10 0,LO 11 (.len (LT 10)),LO 12 (.bin .sub (LT 11) (LI 1)),LO 13 (.iaddr 1 (LT 9) (LT 12)),LO 14 (LL 13),LO 15 (.call 219 [(LT 14)]),LM 3 15] (.seq (LS [LM 16 0,LO 17 (.len (LT 16)),LO 18 (.bin .sub (LT 17) (LI 2)),LM 4 18] (.block 0 (.loop vE))) (LS [LM 33 3,LM 2 33] .ret)))))
def Ak:aZ:=⟨34,[(.tmp 2)],wH⟩
theorem Kb:gH 208=some Ak:=by kernel_rfl
def zY:aE:=(LS [LO 2 (.mv (LI 0)),LO 3 (.mv LF)] (.seq (LS [LM 4 0,LO 5 (.len (LT 4)),LO 6 (.bin .gtr (LT 5) (LI 2))] (.cond (LT 6) (LS [LO 2 (.mv (LI 0)),LO 3 (.mv LF)] .ret) .skip)) (LS [LM 7 0,LO 8 (.call 186 [(LT 7),(LI 0)]),LM 9 0,LO 10 (.call 186 [(LT 9),(LI 1)]),LO 11 (.bin .mul (LI 1000000000) (LT 10)),LO 12 (.bin .add (LT 8) (LT 11)),LM 2 12,LO 3 (.mv LG)] .ret)))
def CN:aZ:=⟨13,[(.tmp 2),(.tmp 3)],zY⟩
theorem Ni:gH 201=some CN:=by kernel_rfl
def tE:aE:=(.seq (LS [LM 16 8,LO 17 (.bin .geq (LT 16) (LI 0))] (.cond (LT 17) .skip (.exit 0))) (.seq (.block 1 (LS [LM 20 7,LO 21 (.bin .mul (LT 20) (LI 1000000000)),LM 22 0,LM 23 8,LO 24 (.iaddr 1 (LT 22) (LT 23)),LO 25 (LL 24),LO 26 (.bin .add (LT 21) (LT 25)),LM 9 26] (LS [LM 27 6,LM 28 8,LM 29 9,LM 30 1,LO 31 (.bin .quo (LT 29) (LT 30)),LO 32 (.iaddr 1 (LT 27) (LT 28)),LN (.store 1 (LT 32) (LT 31))] (.cT [LM 33 9,LM 34 1,LO 35 (.bin .rem (LT 33) (LT 34)),LM 7 35])))) (.cT [LM 18 8,LO 19 (.bin .sub (LT 18) (LI 1)),LM 8 19])))
def BE:aE:=(LS [LO 4 (.mv (.const (.slice none 0 0))),LO 5 (.mv (LI 0))] (LS [LM 10 0,LO 11 (.len (LT 10)),LO 12 (.make [(.int .i64 0)] 8 (LT 11) (LT 11)),LM 6 12] (LS [LO 7 (.mv (LI 0))] (.seq (LS [LM 13 0,LO 14 (.len (LT 13)),LO 15 (.bin .sub (LT 14) (LI 1)),LM 8 15] (.block 0 (.loop tE))) (LS [LM 36 6,LO 37 (.call 184 [(LT 36)]),LM 38 7,LM 4 37,LM 5 38] .ret)))))
def DL:aZ:=⟨39,[(.tmp 4),(.tmp 5)],BE⟩
theorem Ij:gH 202=some DL:=by kernel_rfl
def nI:aE:=(LS [LO 17 (.bin .lss (LT 16) (LT 15))] (.seq (.cond (LT 17) .skip (.exit 0)) (.seq (.block 1 (LS [LO 18 (.iaddr 1 (LT 14) (LT 16)),LO 19 (LL 18),LM 8 19] (LS [LM 20 8,LM 21 1,LO 22 (.bin .mul (LT 20) (LT 21)),LM 23 6,LO 24 (.bin .add (LT 22) (LT 23)),LM 9 24] (LS [LM 25 5,LM 26 9,LO 27 (.bin .rem (LT 26) (LI 1000000000)),LO 28 (.lit [(.int .i64 0)] 1 [(0,(LT 27))]),LO 29 (.app 1 8 (LT 25) (LT 28)),LM 5 29] (.cT [LM 30 9,LO 31 (.bin .quo (LT 30) (LI 1000000000)),LM 6 31]))))) (.cT [LO 32 (.bin .add (LT 16) (LI 1)),LM 16 32]))))
def BM:aE:=(LS [LO 4 (.mv (.const (.slice none 0 0)))] (LS [LM 10 0,LO 11 (.len (LT 10)),LO 12 (.bin .add (LT 11) (LI 1)),LO 13 (.make [(.int .i64 0)] 8 (LI 0) (LT 12)),LM 5 13] (LS [LO 6 (.mv (LI 0))] (.seq (LS [LM 14 0,LO 15 (.len (LT 14)),LO 16 (.mv (LI 0))] (.block 0 (.loop nI))) (.seq (LS [LM 33 6,LO 34 (.bin .gtr (LT 33) (LI 0))] (.cond (LT 34) (.cT [LM 35 5,LM 36 6,LO 37 (.lit [(.int .i64 0)] 1 [(0,(LT 36))]),LO 38 (.app 1 8 (LT 35) (LT 37)),LM 5 38]) .skip)) (LS [LM 39 5,LM 4 39] .ret))))))
def DK:aZ:=⟨40,[(.tmp 4)],BM⟩
theorem Iw:gH 203=some DK:=by kernel_rfl
def lU:aE:=(LS [LO 16 (.bin .lss (LT 15) (LT 14))] (.seq (.cond (LT 16) .skip (.exit 0)) (.seq (.block 1 (LS [LM 17 15,LO 18 (.iaddr 1 (LT 13) (LT 15)),LO 19 (LL 18),LM 10 17,LM 11 19] (LS [LM 20 0,LM 21 2,LM 22 10,LO 23 (.bin .add (LT 21) (LT 22)),LO 24 (.iaddr 1 (LT 20) (LT 23)),LO 25 (LL 24),LM 26 11,LM 27 3,LO 28 (.bin .mul (LT 26) (LT 27)),LO 29 (.bin .rem (LT 28) (LI 1000000000)),LO 30 (.bin .sub (LT 25) (LT 29)),LM 31 9,LO 32 (.bin .sub (LT 30) (LT 31)),LM 12 32] (LS [LM 33 11,LM 34 3,LO 35 (.bin .mul (LT 33) (LT 34)),LO 36 (.bin .quo (LT 35) (LI 1000000000)),LM 9 36] (.seq (LS [LM 37 12,LO 38 (.bin .lss (LT 37) (LI 0))] (.cond (LT 38) (LS [LM 39 12,LO 40 (.bin .add (LT 39) (LI 1000000000)),LM 12 40] (LS [LM 41 9,LO 42 (.bin .add (LT 41) (LI 1)),LM 9 42] (LS [LM 43 12,LO 44 (.bin .lss (LT 43) (LI 0))] (.cond (LT 44) (LS [LM 45 12,LO 46 (.bin .add (LT 45) (LI 1000000000)),LM 12 46] (.cT [LM 47 9,LO 48 (.bin .add (LT 47) (LI 1)),LM 9 48])) .skip)))) .skip)) (.cT [LM 49 0,LM 50 2,LM 51 10,LO 52 (.bin .add (LT 50) (LT 51)),LM 53 12,LO 54 (.iaddr 1 (LT 49) (LT 52)),LN (.store 1 (LT 54) (LT 53))])))))) (.cT [LO 55 (.bin .add (LT 15) (LI 1)),LM 15 55]))))
def Cq:aE:=(LS [LO 8 (.mv LF)] (LS [LO 9 (.mv (LI 0))] (.seq (LS [LM 13 1,LO 14 (.len (LT 13)),LO 15 (.mv (LI 0))] (.block 0 (.loop lU))) (LS [LM 56 0,LM 57 2,LM 58 1,LO 59 (.len (LT 58)),LO 60 (.bin .add (LT 57) (LT 59)),LO 61 (.iaddr 1 (LT 56) (LT 60)),LO 62 (LL 61),LM 63 9,LO 64 (.bin .sub (LT 62) (LT 63)),LO 65 (.iaddr 1 (LT 56) (LT 60)),LN (.store 1 (LT 65) (LT 64))] (LS [LM 66 0,LM 67 2,LM 68 1,LO 69 (.len (LT 68)),LO 70 (.bin .add (LT 67) (LT 69)),LO 71 (.iaddr 1 (LT 66) (LT 70)),LO 72 (LL 71),LO 73 (.bin .lss (LT 72) (LI 0)),LM 8 73] .ret)))))
def EN:aZ:=⟨74,[(.tmp 8)],Cq⟩
theorem JK:gH 204=some EN:=by kernel_rfl
def uY:aE:=(LS [LO 13 (.bin .lss (LT 12) (LT 11))] (.seq (.cond (LT 13) .skip (.exit 0)) (.seq (.block 1 (LS [LM 14 12,LO 15 (.iaddr 1 (LT 10) (LT 12)),LO 16 (LL 15),LM 7 14,LM 8 16] (LS [LM 17 0,LM 18 2,LM 19 7,LO 20 (.bin .add (LT 18) (LT 19)),LO 21 (.iaddr 1 (LT 17) (LT 20)),LO 22 (LL 21),LM 23 8,LO 24 (.bin .add (LT 22) (LT 23)),LM 25 6,LO 26 (.bin .add (LT 24) (LT 25)),LM 9 26] (LS [LM 27 9,LO 28 (.bin .quo (LT 27) (LI 1000000000)),LM 6 28] (.cT [LM 29 0,LM 30 2,LM 31 7,LO 32 (.bin .add (LT 30) (LT 31)),LM 33 9,LO 34 (.bin .rem (LT 33) (LI 1000000000)),LO 35 (.iaddr 1 (LT 29) (LT 32)),LN (.store 1 (LT 35) (LT 34))]))))) (.cT [LO 36 (.bin .add (LT 12) (LI 1)),LM 12 36]))))
def Cj:aE:=(LS [LO 6 (.mv (LI 0))] (.seq (LS [LM 10 1,LO 11 (.len (LT 10)),LO 12 (.mv (LI 0))] (.block 0 (.loop uY))) (.cT [LM 37 0,LM 38 2,LM 39 1,LO 40 (.len (LT 39)),LO 41 (.bin .add (LT 38) (LT 40)),LO 42 (.iaddr 1 (LT 37) (LT 41)),LO 43 (LL 42),LM 44 6,LO 45 (.bin .add (LT 43) (LT 44)),LO 46 (.iaddr 1 (LT 37) (LT 41)),LN (.store 1 (LT 46) (LT 45))])))
def Ew:aZ:=⟨47,[],Cj⟩
theorem Kh:gH 205=some Ew:=by kernel_rfl
def lF:aE:=(.seq (LS [LM 8 3,LO 9 (.len (LT 8)),LO 10 (.bin .eql (LT 9) (LI 0)),LM 11 10,LZ 11 12 (.mv (LT 4)),LZ 11 13 (.bin .neq (LT 12) (LI 0)),LO 14 (.pick (LT 11) LG (LT 13))] (.cond (LT 14) .skip (.exit 0))) (.block 1 (LS [LM 15 4,LO 16 (.bin .rem (LT 15) (LI 10)),LM 5 16] (.seq (LS [LM 17 5,LO 18 (.bin .lss (LT 17) (LI 0))] (.cond (LT 18) (.cT [LM 19 5,LO 20 (.un .neg (LT 19)),LM 5 20]) .skip)) (LS [LM 21 5,LO 22 (.bin .add (LI 48) (LT 21)),LO 23 (.cvt .u8 (LT 22)),LO 24 (.lit [(.int .u8 0)] 1 [(0,(LT 23))]),LM 25 3,LO 26 (.app 1 1 (LT 24) (LT 25)),LM 3 26] (.cT [LM 27 4,LO 28 (.bin .quo (LT 27) (LI 10)),LM 4 28]))))))
def HC:aE:=(LS [LO 2 (.mv (.const (.string ⟨#[]⟩)))] (LS [LO 6 (.lit [(.int .u8 0)] 0 []),LM 3 6] (LS [LM 7 0,LM 4 7] (.seq (.block 0 (.loop lF)) (.seq (LS [LM 29 0,LO 30 (.bin .lss (LT 29) (LI 0))] (.cond (LT 30) (.cT [LO 31 (.lit [(.int .u8 0)] 1 [(0,(.const (.int .u8 45)))]),LM 32 3,LO 33 (.app 1 1 (LT 31) (LT 32)),LM 3 33]) .skip)) (LS [LM 34 3,LO 35 (.b2s (LT 34)),LM 2 35] .ret))))))
def MI:aZ:=⟨36,[(.tmp 2)],HC⟩
theorem Qe:gH 219=some MI:=by kernel_rfl
end Go.PM
namespace Go.PM
section
variable {b:Nat}
theorem Lz (hb:2≤b) (n i:Nat):(aD b n).getD i 0=n / b^i % b:=by
 induction i generalizing n with
 |
  zero =>
  by_cases h:n=0
  ·subst h;simp[cC]
  ·rw[kM hb h,List.getD_cons_zero,aOd,Nat.div_one]
 |
  succ i ih =>
  by_cases h:n=0
  ·subst h;simp[cC]
  ·rw[kM hb h,List.getD_cons_succ,ih,aNF,aMF,aMG b]
theorem Gr (hb:2≤b) {n i:Nat}:i<(aD b n).length↔n / b^i≠0:=by
 induction i generalizing n with
 |
  zero =>
  rw[aOd,Nat.div_one,List.length_pos_iff]
  exact not_congr (nQ hb)
 |
  succ i ih =>
  by_cases h:n=0
  ·subst h;simp[cC]
  ·rw[kM hb h,aLo,Nat.add_lt_add_iff_right,ih,aNF,aMF,aMG b]
theorem NV (hb:2≤b) {n i:Nat} (h:i<(aD b n).length):(aD b n)[i]? = some (n / b^i % b):=by
 rw[←Lz hb,aLb,aLl h]
 rfl
theorem aeL (hb:2≤b) (n i:Nat):(aD b n).drop i=aD b (n / b^i):=by
 induction i generalizing n with
 | zero=>simp
 |
  succ i ih =>
  by_cases h:n=0
  ·subst h;simp[cC]
  ·rw[kM hb h,List.drop_succ_cons,ih,aNF,aMF,aMG b]
theorem xD (n i:Nat):n / b^(i+1)=n / b^i / b:=by rw[aNF,aMF]
theorem HA (xs:List Nat) (i:Nat):val b (xs.take (i+1))=val b (xs.take i)+b^i*xs.getD i 0:=by
 by_cases h:i<xs.length
 ·rw[bF (aLl h),aLb,aLl h]
  rfl
 ·rw[kY (by omega),kY (by omega),aLb,aLE (by omega)]
  simp
theorem R5 (hb:2≤b) {n d q:Nat} (hn:n≠0) (h:n=d+b*q) (hd:d<b):aD b n=d::aD b q:=by
 rw[kM hb hn,h,Nat.add_mul_mod_self_left,aMI hd,Nat.add_mul_div_left _ _ (by omega),aML hd,aMM]
theorem aeE (hb:2≤b) {x y c:Nat} (h:x+y+c≠0):aD b (x+y+c)=(x % b+y % b+c) % b::aD b (x / b+y / b+(x % b+y % b+c) / b):=by
 refine R5 hb h ?_ (aLG _ (by omega))
 have h1:=aNz x b
 have h2:=aNz y b
 have h3:=aNz (x % b+y % b+c) b
 have e:b*(x / b+y / b+(x % b+y % b+c) / b)=b*(x / b)+b*(y / b)+b*((x % b+y % b+c) / b):=by grind
 omega
theorem acG (hb:2≤b) {x d c:Nat} (h:x*d+c≠0):aD b (x*d+c)=(x % b*d+c) % b::aD b (x / b*d+(x % b*d+c) / b):=by
 refine R5 hb h ?_ (aLG _ (by omega))
 have h1:=aNz x b
 have h3:=aNz (x % b*d+c) b
 have e:b*(x / b*d+(x % b*d+c) / b)=b*(x / b)*d+b*((x % b*d+c) / b):=by grind
 have e2:x*d=x % b*d+b*(x / b)*d:=by
  conv=>lhs;rw[←h1,Nat.add_mul]
 omega
theorem SZ (hb:2≤b) {m n k:Nat} (hm:(aD b m).length≤k) (hn:(aD b n).length≤k):(aD b (m+n)).length≤k+1:=by
 refine oK hb ?_
 have y1:=iP hb m
 have y2:=iP hb n
 have y3:b^(aD b m).length≤b^k:=aNh (by omega) hm
 have y4:b^(aD b n).length≤b^k:=aNh (by omega) hn
 have y5:b^k*2≤b^k*b:=Nat.mul_le_mul_left _ hb
 rw[aMF]
 omega
theorem Sk (hb:2≤b) (m n:Nat):(aD b (m*n)).length≤(aD b m).length+(aD b n).length:=by
 refine oK hb ?_
 rw[Nat.pow_add]
 exact Nat.mul_lt_mul'' (iP hb m) (iP hb n)
theorem Fy (hb:2≤b) {c:Nat} (h:c≠0) (hc:c<b):aD b c=[c]:=by
 rw[kM hb h,aMI hc,aML hc,cC]
end
end Go.PM
namespace Go.PM
abbrev tV (d:Nat):VV:=VI (d:Int)
abbrev jG (ds:List Nat):VV:=aC tV ds
def bW (n:Nat):VV:=jG (aD 1000000000 n)
theorem IJ:∀d:Nat,(aB (tV d)).length=1:=fun _=>rfl
theorem BI (ds:List Nat):aY (jG ds)=true:=mJ IJ fun _=>rfl
theorem acW (ds:List Nat):gV (jG ds)=true:=zX IJ (fun _=>rfl) fun _=>rfl
theorem cG (n:Nat):aY (bW n)=true:=BI _
theorem pZ (n:Nat):gV (bW n)=true:=acW _
theorem KB:bW 0 = .tree [] .op:=by rw[bW,cC];rfl
theorem akI:bW 1=jG [1]:=by rw[bW,kM (by decide) (by decide),cC]
theorem cJ (n:Nat) {H:aA}:pV (bW n) H=some (VI (aD 1000000000 n).length):=eK
section
variable {α:Type} {f:α→VV} {xs:List α} {x:α} {H:aA}
theorem NB {g e:Nat} {es:List VV} {w:Bool}:aJ [.row g es e w] 0 g=some (es,e,w):=aQ
theorem aFQ {e bytes:Nat} (he:1≤e) (hb:1≤bytes) (EX:(xs.length+1)*bytes≤140737488355328):dK 0 e bytes (.ref 0 xs.length 0 xs.length xs.length) [f x] [.row xs.length (xs.map f) e true]=some (.ref 0 (xs.length+1) 0 (xs.length+1) (xs.length+1),[.row (xs.length+1) ((xs++[x]).map f) e true]):=by
 rw[jK (f:=f) (x:=x) aQ rfl (aLe _) he hb EX]
 rfl
theorem Ul {n g e:Nat} {w:Bool} (hp:∀x,aY (f x)=true) (hn:n=xs.length):fz depth [.row g (xs.map f) e w] (.ref 0 g 0 n n)=some (aC f xs):=Ia aQ (by simpa using hn) (aLe _) (fO hp)
end
theorem OT {lr:Bool}:nT lr [.int .i64 0] 0 [] []=some (.ref 0 0 0 0 0,[.row 0 (([]:List Nat).map tV) 1 true]):=mQ (H:=[]) rfl
theorem xB {d:Int} {H:aA}:nT false [.int .i64 0] 1 [(0,VI d)] H=some (.tree [VI d] (.cl 1),H):=lO rfl rfl rfl
theorem zF {d:Int} {H:aA} {t:TK}:dG 1 (.tree [VI d] t) H=some [VI d]:=gR rfl rfl
theorem arG {ds:List Nat} {d:Nat} (h:ds.length<17592186044416):dK 0 1 8 (.ref 0 ds.length 0 ds.length ds.length) [VI (d:Int)] [.row ds.length (ds.map tV) 1 true]=some (.ref 0 (ds.length+1) 0 (ds.length+1) (ds.length+1),[.row (ds.length+1) ((ds++[d]).map tV) 1 true]):=aFQ (f:=tV) (by decide) (by decide) (by omega)
theorem RI (n:Nat):dO .rem (.int .i64 (n:Int)) (.int .i64 1000000000)=some (.int .i64 ((n % 1000000000:Nat):Int)):=by
 have h2:(n:Int).tmod 1000000000=((n % 1000000000:Nat):Int):=by rw[aOe (by omega)];simp
 simp only[dO,if_true,h2]
 rfl
theorem RQ (n:Nat) (h:n≤9223372036854775807):dO .quo (.int .i64 (n:Int)) (.int .i64 1000000000)=some (.int .i64 ((n / 1000000000:Nat):Int)):=by
 have h2:(n:Int).tdiv 1000000000=((n / 1000000000:Nat):Int):=by rw[aOf (by omega)];simp
 simp only[dO,if_true,h2]
 rw[wrap64 (by omega) (by omega)]
 rfl
theorem wG (ds:List Nat) (h:∀d∈ds,d<1000000000) (hlen:ds.length≤70368744177664):TC 184 [jG ds] (bW (val 1000000000 ds)):=by
 refine TC.walk ⟨true,false⟩ Py rfl (aM2 rfl) (by simp[aO,BI]) (pZ _) ?_
 simp only[J4,FD,VX,Nat.reduceEqDiff,Nat.reduceAdd]
 refine aN (fun(xs:List Nat) ρ H'=>(∀d∈xs,d<1000000000)∧val 1000000000 xs=val 1000000000 ds∧xs.length≤ds.length∧H'=[]∧ρ 0=jG xs) (fun s=>s.length) ds ⟨h,rfl,aLe _,rfl,rfl⟩ ?_
 rintro xs ρ H' ⟨hx,hv,hl,rfl,h0⟩
 have done:xs.getLast? ≠ some 0→fz depth [] (jG xs)=some (bW (val 1000000000 ds)):=fun fN=>by rw[bW,←hv,OB (by decide) hx fN];exact aK (BI _)
 rcases Nat.eq_zero_or_pos xs.length with hz | hp
 ·have hxn:xs=[]:=List.length_eq_zero_iff.1 hz
  subst hxn
  simp only[uM,h0,Int.reduceLT,Int.natCast_zero,eK,aMR,VX,Nat.reduceEqDiff,Nat.reduceAdd]
  exact done (by simp)
 ·obtain⟨m,hm⟩:∃m,xs.length=m+1:=⟨xs.length-1,by omega⟩
  obtain⟨d,hd⟩:∃d,xs[m]? = some d:=⟨_,aLl (by omega)⟩
  have B1:(0:Int)<((m+1:Nat):Int):=by omega
  have w1:IntKind.i64.wrap (((m+1:Nat):Int)-1)=(m:Int):=by rw[wrap64 (by omega) (by omega)];omega
  have e1:=aF (f:=tV) (t := .op) (H:=[]) (size:=1) (k := .i64) hd rfl
  by_cases FO:(d:Int)=0
  ·have hd1:d=0:=by omega
   subst hd1
   have e2:=MF (f:=tV) (size:=1) (t := .op) (H:=[]) (k2 := .i64) (xs:=xs) (h:=m) IJ (by omega) (by omega)
   have US:xs=xs.take m++[0]:=by
    have:=List.take_append_drop m xs
    have h3:=(aLd.1 hd)
    rw[aLj h3.1,h3.2,List.drop_of_length_le (by omega)] at this
    exact this.symm
   simp only[uM,h0,hm,B1,w1,e1,e2,FO,eK,VX,Nat.reduceEqDiff,Nat.reduceAdd]
   refine⟨xs.take m,by simp only[List.length_take];omega,fun d hd=>hx d (List.mem_of_mem_take hd),?_,by simp only[List.length_take];omega,by first | rfl | exact⟨rfl,rfl⟩⟩
   rw[←hv]
   conv=>rhs;rw[US]
   rw[wF]
   simp
  ·simp only[uM,h0,hm,B1,w1,e1,FO,eK,VX,Nat.reduceEqDiff,Nat.reduceAdd]
   exact done (Tm hm hd (by omega))
theorem KJ {outs:List Nat} {n g m:Nat} {lo:Nat} {w:Bool} {K:VV→aA→Prop} (hd:∀d∈outs,d<1000000000) (hn:n=outs.length) (hlen:outs.length≤70368744177664) (hm:val 1000000000 outs=m) (hk:K (bW m) (dB [.row g (outs.map tV) 1 w] [0])) :
  dP 184 [.ref 0 g 0 n n] lo [.row g (outs.map tV) 1 w] K:=by
 subst hm
 rw[TC.asM (f:=tV) (wG outs hd hlen) aQ hn (aLe _) IJ (fun _=>rfl) rfl rfl]
 exact hk
theorem WB {H:aA} (n:Nat):fz depth H (bW n)=some (bW n):=aK (cG n)
theorem uE (n:Int) (h1:n≤9223372036854775807):TC 178 [VI n] (bW n.toNat):=by
 refine TC.walk ⟨true,false⟩ QI rfl (aM2 rfl) rfl (pZ _) ?_
 simp only[MH,Hk,OT,VX,Nat.reduceEqDiff,Nat.reduceAdd]
 refine aN (fun(s:Int×List Nat) ρ H=>s.1≤9223372036854775807∧H=[.row s.2.length (s.2.map tV) 1 true]∧s.2.length≤63∧s.1.toNat*2^s.2.length≤9223372036854775807∧aD 1000000000 n.toNat=s.2++aD 1000000000 s.1.toNat∧ρ 0=VI s.1∧ρ 3 = .ref 0 s.2.length 0 s.2.length s.2.length) (fun s=>s.1.toNat) (n,[]) ⟨h1,rfl,by simp,by simp only[aMR,aOd,Nat.mul_one];omega,rfl,rfl,rfl⟩ ?_
 rintro⟨m,ds⟩ ρ H ⟨hm,rfl,hl,bH,hd,g0,g3⟩
 simp only at hm hl bH hd g0 g3
 by_cases hp:(0:Int)<m
 ·obtain⟨k,rfl⟩:∃k:Nat,m=(k:Int):=⟨m.toNat,by omega⟩
  rw[aMA] at bH hd
  have hk0:k≠0:=by omega
  have Kn:ds.length<63:=by
   rcases Nat.lt_or_ge ds.length 63 with h | h
   ·exact h
   ·have e:2^ds.length=9223372036854775808:=by rw[show ds.length=63 by omega]
    rw[e] at bH
    omega
  have r1:=RI k
  have q1:=RQ k (by omega)
  have a1:=arG (ds:=ds) (d:=k % 1000000000) (by omega)
  simp only[Bt,g0,g3,hp,r1,q1,xB,zF,a1,VX,Nat.reduceEqDiff,Nat.reduceAdd]
  refine⟨(((k / 1000000000:Nat):Int),ds++[k % 1000000000]),?_,by simp only;omega,by simp,by simp;omega,?_,?_,rfl,by simp⟩
  ·simp only[aMA];exact Nat.div_lt_self (by omega) (by decide)
  ·simp only[aMA,aLp,aNL,aMF]
   have h1:k / 1000000000*2≤k:=by omega
   have:=aLF (2^ds.length) h1
   rw[Nat.mul_assoc,aMG 2] at this
   omega
  ·simp only[aMA]
   rw[hd,kM (by decide) hk0,aM0]
   rfl
 ·have hz:m.toNat=0:=by omega
  rw[hz,cC,aMm] at hd
  simp only[Bt,g0,g3,hp,VX,Nat.reduceEqDiff,Nat.reduceAdd]
  rw[bW,hd]
  exact Ul (fun _=>rfl) rfl
theorem yU (a b:Nat) (ha:(aD 1000000000 a).length≤17592186044416) (hb:(aD 1000000000 b).length≤17592186044416):TC 155 [bW a,bW b] (VI (gA a b)):=by
 refine TC.walk ⟨true,false⟩ Ql rfl (aM2 rfl) (by simp[aO,cG]) rfl ?_
 have fin:∀ {x:Int},x=gA a b→fz depth [] (VI x)=some (VI (gA a b)):=fun h=>by rw[h];exact aK rfl
 unfold bW jG
 by_cases hl:(((aD 1000000000 a).length:Nat):Int)=(((aD 1000000000 b).length:Nat):Int)
 ·have FA:(aD 1000000000 a).length=(aD 1000000000 b).length:=by omega
  have w1:IntKind.i64.wrap ((((aD 1000000000 b).length:Nat):Int)-1)=(((aD 1000000000 b).length:Nat):Int)-1:=wrap64 (by omega) (by omega)
  simp only[B9,zA,hl,w1,VX,Nat.reduceEqDiff,Nat.reduceAdd]
  refine aN (fun(j:Nat) ρ H=>j≤(aD 1000000000 b).length∧H=[]∧(aD 1000000000 a).drop j=(aD 1000000000 b).drop j∧ρ 0=aC tV (aD 1000000000 a)∧ρ 1=aC tV (aD 1000000000 b)∧ρ 5=VI ((j:Int)-1)) (fun j=>j) (aD 1000000000 b).length ⟨aLe _,rfl,by rw[List.drop_length,←FA,List.drop_length],rfl,rfl,rfl⟩ ?_
  rintro j ρ H ⟨hj,rfl,hd,h0,h1,h5⟩
  by_cases hz:(0:Int)≤(j:Int)-1
  ·obtain⟨i,rfl⟩:∃i,j=i+1:=⟨j-1,by omega⟩
   obtain⟨x,hx⟩:∃x,(aD 1000000000 a)[i]? = some x:=⟨_,aLl (by omega)⟩
   obtain⟨y,hy⟩:∃y,(aD 1000000000 b)[i]? = some y:=⟨_,aLl (by omega)⟩
   have Ea:((i+1:Nat):Int)-1=(i:Int):=by omega
   have e1:=aF (f:=tV) (t := .op) (H:=[]) (size:=1) (k := .i64) hx rfl
   have e2:=aF (f:=tV) (t := .op) (H:=[]) (size:=1) (k := .i64) hy rfl
   rw[Ea] at h5 hz
   have w2:IntKind.i64.wrap ((i:Int)-1)=(i:Int)-1:=wrap64 (by omega) (by omega)
   by_cases CT:(x:Int)=(y:Int)
   ·simp only[sC,h0,h1,h5,hz,e1,e2,CT,w2,VX,Nat.reduceEqDiff,Nat.reduceAdd]
    have ayP:x=y:=by omega
    subst ayP
    refine⟨i,by omega,by omega,?_⟩
    obtain⟨g1,g2⟩:=aLd.1 hx
    obtain⟨g3,g4⟩:=aLd.1 hy
    rw[aLj g1,aLj g3,g2,g4,hd]
    exact⟨rfl,rfl⟩
   ·by_cases bH:(x:Int)<(y:Int)
    ·simp only[sC,h0,h1,h5,hz,e1,e2,CT,bH,VX,Nat.reduceEqDiff,Nat.reduceAdd]
     refine fin ?_
     have:=GI (gF (by decide) a) FA hx hy hd (by omega)
     rw[cH (by decide),cH (by decide)] at this
     simp[gA,this]
    ·simp only[sC,h0,h1,h5,hz,e1,e2,CT,bH,VX,Nat.reduceEqDiff,Nat.reduceAdd]
     refine fin ?_
     have:=GI (gF (by decide) b) FA.symm hy hx hd.symm (by omega)
     rw[cH (by decide),cH (by decide)] at this
     rw[gA,if_neg (by omega),if_neg (by omega)]
  ·have YS:j=0:=by omega
   subst YS
   simp only[sC,h0,h1,h5,hz,VX,Nat.reduceEqDiff,Nat.reduceAdd]
   refine fin ?_
   have:=W0 (b:=1000000000) (by decide) (by simpa using hd)
   subst this
   simp[gA]
 ·by_cases bH:(((aD 1000000000 a).length:Nat):Int)<(((aD 1000000000 b).length:Nat):Int)
  ·simp only[B9,zA,hl,bH,VX,Nat.reduceEqDiff,Nat.reduceAdd]
   refine fin ?_
   have:=GF (b:=1000000000) (by decide) (m:=a) (n:=b) (by omega)
   simp[gA,this]
  ·simp only[B9,zA,hl,bH,VX,Nat.reduceEqDiff,Nat.reduceAdd]
   refine fin ?_
   have:=GF (b:=1000000000) (by decide) (m:=b) (n:=a) (by omega)
   rw[gA,if_neg (by omega),if_neg (by omega)]
theorem MY (ds:List Nat) (i:Nat):TC 186 [jG ds,VI (i:Int)] (tV (ds.getD i 0)):=by
 refine TC.walk ⟨true,false⟩ Ng rfl (aM2 rfl) (by simp[aO,BI];rfl) rfl ?_
 by_cases h:(i:Int)<(ds.length:Int)
 ·obtain⟨d,hd⟩:∃d,ds[i]? = some d:=⟨_,aLl (by omega)⟩
  have e1:=aF (f:=tV) (t := .op) (H:=[]) (size:=1) (k := .i64) hd rfl
  simp only[CS,Ab,eK,h,e1,VX,Nat.reduceEqDiff,Nat.reduceAdd]
  rw[aLb,hd]
  exact aK rfl
 ·simp only[CS,Ab,eK,h,VX,Nat.reduceEqDiff,Nat.reduceAdd]
  rw[aLb,aLE (by omega)]
  exact aK rfl
theorem Fx (n i:Nat):TC 186 [bW n,VI (i:Int)] (tV (n / 1000000000^i % 1000000000)):=by
 have:=MY (aD 1000000000 n) i
 rwa [Lz (by decide)] at this
theorem KG (a b:Nat) (ha:(aD 1000000000 a).length<17592186044416) (hb:(aD 1000000000 b).length<17592186044416):TC 154 [bW a,bW b] (bW (a+b)):=by
 refine TC.walk ⟨true,false⟩ Ly rfl (aM2 rfl) (by simp[aO,cG]) (pZ _) ?_
 simp only[FW,DC,OT,VX,Nat.reduceEqDiff,Nat.reduceAdd]
 have hL:=SZ (b:=1000000000) (by decide) (m:=a) (n:=b) (k:=17592186044416-1) (by omega) (by omega)
 refine aN (fun(s:Nat×List Nat×Nat) ρ H=>s.1=s.2.1.length∧H=[.row s.2.1.length (s.2.1.map tV) 1 true]∧s.2.2≤1∧aD 1000000000 (a+b)=s.2.1++aD 1000000000 (a / 1000000000^s.1+b / 1000000000^s.1+s.2.2)∧ρ 0=bW a∧ρ 1=bW b∧ρ 5 = .ref 0 s.2.1.length 0 s.2.1.length s.2.1.length∧ρ 6=VI s.2.2∧ρ 7=VI s.1)
  (fun s=>(aD 1000000000 (a+b)).length-s.1) (0,[],0) ⟨rfl,rfl,by simp,by simp,rfl,rfl,rfl,rfl,rfl⟩ ?_
 rintro⟨i,ds,c⟩ ρ H ⟨hi,rfl,hc,hd,g0,g1,g5,g6,g7⟩
 simp only at hi hc hd g5 g6 g7
 have la:=Gr (b:=1000000000) (by decide) (n:=a) (i:=i)
 have lb:=Gr (b:=1000000000) (by decide) (n:=b) (i:=i)
 have c1:=Fx a i
 have c2:=Fx b i
 have m1:=aLG (a / 1000000000^i) (show 0<1000000000 by decide)
 have m2:=aLG (b / 1000000000^i) (show 0<1000000000 by decide)
 have hd':a / 1000000000^i+b / 1000000000^i+c≠0→aD 1000000000 (a+b)=ds++(a / 1000000000^i % 1000000000+b / 1000000000^i % 1000000000+c) % 1000000000::aD 1000000000 (a / 1000000000^(i+1)+b / 1000000000^(i+1)+(a / 1000000000^i % 1000000000+b / 1000000000^i % 1000000000+c) / 1000000000):=fun h=>by
  rw[hd,aeE (by decide) h,xD,xD]
 generalize a / 1000000000^i=A at *
 generalize b / 1000000000^i=B at *
 by_cases PX:A+B+c=0
 ·have h1:¬(i:Int)<((aD 1000000000 a).length:Int):=by omega
  have h2:¬(i:Int)<((aD 1000000000 b).length:Int):=by omega
  have h3:¬(0:Int)<(c:Int):=by omega
  simp only[mV,g0,g1,g5,g6,g7,cJ,h1,h2,h3,VX,Nat.reduceEqDiff,Nat.reduceAdd]
  rw[PX,cC,aMm] at hd
  rw[bW,hd]
  exact Ul (fun _=>rfl) rfl
 ·have hdn:=hd' PX
  have bH:i<(aD 1000000000 (a+b)).length:=by
   rw[hdn,aLp,aLo]
   omega
  have w1:IntKind.i64.wrap (((A % 1000000000:Nat):Int)+((B % 1000000000:Nat):Int))=((A % 1000000000+B % 1000000000:Nat):Int):=wrapN _ (by omega) (by omega)
  have w2:IntKind.i64.wrap (((A % 1000000000+B % 1000000000:Nat):Int)+(c:Int))=((A % 1000000000+B % 1000000000+c:Nat):Int):=wrapN _ (by omega) (by omega)
  have wi:IntKind.i64.wrap ((i:Int)+1)=((i+1:Nat):Int):=wrapN (i+1) (by omega) (by omega)
  have r1:=RI (A % 1000000000+B % 1000000000+c)
  have q1:=RQ (A % 1000000000+B % 1000000000+c) (by omega)
  have a1:=arG (ds:=ds) (d:=(A % 1000000000+B % 1000000000+c) % 1000000000) (by omega)
  have ayI:aD 1000000000 (a+b)=(ds++[(A % 1000000000+B % 1000000000+c) % 1000000000])++aD 1000000000 (a / 1000000000^(i+1)+b / 1000000000^(i+1)+(A % 1000000000+B % 1000000000+c) / 1000000000):=by rw[hdn,aM0];rfl
  by_cases h1:(i:Int)<((aD 1000000000 a).length:Int)
  ·simp only[mV,g0,g1,g5,g6,g7,cJ,h1,c1,c2,w1,w2,wi,r1,q1,xB,zF,a1,VX,Nat.reduceEqDiff,Nat.reduceAdd]
   refine⟨(i+1,ds++[(A % 1000000000+B % 1000000000+c) % 1000000000],(A % 1000000000+B % 1000000000+c) / 1000000000),by simp only;omega,by simp;omega,by simp,by simp only;omega,ayI,?_⟩
   simp only[aLp,aNL]
   try (repeat' apply aMU)<;>first | rfl | trivial
  ·by_cases h2:(i:Int)<((aD 1000000000 b).length:Int)
   ·simp only[mV,g0,g1,g5,g6,g7,cJ,h1,h2,c1,c2,w1,w2,wi,r1,q1,xB,zF,a1,VX,Nat.reduceEqDiff,Nat.reduceAdd]
    refine⟨(i+1,ds++[(A % 1000000000+B % 1000000000+c) % 1000000000],(A % 1000000000+B % 1000000000+c) / 1000000000),by simp only;omega,by simp;omega,by simp,by simp only;omega,ayI,?_⟩
    simp only[aLp,aNL]
    try (repeat' apply aMU)<;>first | rfl | trivial
   ·have h3:(0:Int)<(c:Int):=by omega
    simp only[mV,g0,g1,g5,g6,g7,cJ,h1,h2,h3,c1,c2,w1,w2,wi,r1,q1,xB,zF,a1,VX,Nat.reduceEqDiff,Nat.reduceAdd]
    refine⟨(i+1,ds++[(A % 1000000000+B % 1000000000+c) % 1000000000],(A % 1000000000+B % 1000000000+c) / 1000000000),by simp only;omega,by simp;omega,by simp,by simp only;omega,ayI,?_⟩
    simp only[aLp,aNL]
    try (repeat' apply aMU)<;>first | rfl | trivial
end Go.PM
namespace Go.PM
theorem SE (n:Nat) (hn:n≤35184372088832):BR [.int .i64 0] 8 (VI (n:Int)) (VI (n:Int)) []=some (.ref 0 0 0 n n,[.row 0 ((aL4 n 0).map tV) 1 true]):=nX (f:=tV) (x:=0) rfl (by omega) (by omega)
theorem SN {outs:List Nat} {i d:Nat} (hi:i<outs.length):bM 0 1 (.ptr 0 0 i 0) (VI (d:Int)) [.row 0 (outs.map tV) 1 true]=some [.row 0 ((outs.set i d).map tV) 1 true]:=by
 rw[show VI (d:Int)=tV d from rfl,eG (f:=tV) (e:=1) NB hi (aLe _) rfl rfl]
 rfl
theorem Ox {b g:Nat} {rows:List Nat} {w:Bool} {H:aA} {j d:Nat} (hr:aJ H b g=some (rows.map tV,1,w)) (hj:rows[j]? = some d):bG false 1 (.ptr b g j 0) H=some (VI (d:Int)):=qI hr hj
theorem adT {n i:Nat} {outs:List Nat} (h:i<n):bI 1 (.ref 0 0 0 n n) (VI (i:Int)) [.row 0 (outs.map tV) 1 true]=some (.ptr 0 0 i 0):=by rw[bC NB h,aMM]
theorem wr {x:Int} (n:Nat) (h:x=n) (hn:n≤9223372036854775807):IntKind.i64.wrap x=(n:Int):=wrapN n h hn
theorem Ca (a b:Nat) (IV:b≤a) (ha:(aD 1000000000 a).length≤17592186044416):TC 156 [bW a,bW b] (bW (a-b)):=by
 refine TC.walk ⟨true,false⟩ Jp rfl (aM2 rfl) (by simp[aO,cG]) (pZ _) ?_
 have hle:=eW (b:=1000000000) (by decide) IV
 simp only[EA,B8,OT,cJ,VX,Nat.reduceEqDiff,Nat.reduceAdd]
 refine aN (fun(s:Nat×List Nat×Nat) ρ H=>s.1=s.2.1.length∧s.1≤(aD 1000000000 a).length∧H=[.row s.2.1.length (s.2.1.map tV) 1 true]∧(∀d∈s.2.1,d<1000000000)∧s.2.2≤1∧val 1000000000 ((aD 1000000000 a).take s.1)+1000000000^s.1*s.2.2=val 1000000000 s.2.1+val 1000000000 ((aD 1000000000 b).take s.1) ∧
  ρ 0=bW a∧ρ 1=bW b∧ρ 5 = .ref 0 s.2.1.length 0 s.2.1.length s.2.1.length∧ρ 6=VI s.2.2∧ρ 11=VI (aD 1000000000 a).length∧ρ 12=VI s.1) (fun s=>(aD 1000000000 a).length-s.1) (0,[],0) ⟨rfl,aLI _,rfl,by simp,by simp,by simp[val],rfl,rfl,rfl,rfl,rfl,rfl⟩ ?_
 rintro⟨i,outs,l⟩ ρ H ⟨hi,qU,rfl,nF,hc,hv,g0,g1,g5,g6,g11,g12⟩
 simp only at hi qU nF hc hv g5 g6 g12
 by_cases bX:(i:Int)<((aD 1000000000 a).length:Int)
 ·have hx:=NV (b:=1000000000) (by decide) (n:=a) (i:=i) (by omega)
  have e1:bI 1 (bW a) (VI i) [.row outs.length (outs.map tV) 1 true]=some (.cS (tV (a / 1000000000^i % 1000000000)) 0):=aF (f:=tV) (t := .op) (size:=1) (k := .i64) hx rfl
  have c2:=Fx b i
  have t1:=HA (b:=1000000000) (aD 1000000000 a) i
  have t2:=HA (b:=1000000000) (aD 1000000000 b) i
  rw[Lz (by decide)] at t1 t2
  have lx:=aLG (a / 1000000000^i) (show 0<1000000000 by decide)
  have ly:=aLG (b / 1000000000^i) (show 0<1000000000 by decide)
  generalize a / 1000000000^i % 1000000000=x at *
  generalize b / 1000000000^i % 1000000000=y at *
  have wi:IntKind.i64.wrap ((i:Int)+1)=((i+1:Nat):Int):=wrapN (i+1) (by omega) (by omega)
  have w1:IntKind.i64.wrap ((x:Int)-(y:Int))=(x:Int)-(y:Int):=wrap64 (by omega) (by omega)
  have w2:IntKind.i64.wrap ((x:Int)-(y:Int)-(l:Int))=(x:Int)-(y:Int)-(l:Int):=wrap64 (by omega) (by omega)
  have step:∀r l':Nat,r<1000000000→l'≤1→r+y+l=x+1000000000*l'→(∀d∈outs++[r],d<1000000000)∧val 1000000000 ((aD 1000000000 a).take (i+1))+1000000000^(i+1)*l'=val 1000000000 (outs++[r])+val 1000000000 ((aD 1000000000 b).take (i+1)):=by
   intro r l' hr _ hd
   refine⟨fun d h => ?_,?_⟩
   ·rcases List.mem_append.1 h with h | h
    ·exact nF d h
    ·rw[List.mem_singleton.1 h];exact hr
   ·rw[t1,t2,wF,←hi,aMF]
    exact MN hv hd
  by_cases mG:(x:Int)-(y:Int)-(l:Int)<0
  ·obtain⟨r,hr⟩:∃r:Nat,r+y+l=x+1000000000:=⟨x+1000000000-l-y,by omega⟩
   have w3:IntKind.i64.wrap ((x:Int)-(y:Int)-(l:Int)+1000000000)=(r:Int):=wrapN r (by omega) (by omega)
   obtain⟨s1,s2⟩:=step r 1 (by omega) (aLe _) (by omega)
   have a1:=arG (ds:=outs) (d:=r) (by omega)
   simp only[oQ,g0,g1,g5,g6,g11,g12,bX,e1,c2,w1,w2,w3,wi,mG,xB,zF,a1,VX,Nat.reduceEqDiff,Nat.reduceAdd]
   refine⟨(i+1,outs++[r],1),by simp only;omega,by simp;omega,by simp only;omega,by simp,s1,aLe _,s2,?_⟩
   simp only[aLp,aNL]
   try (repeat' apply aMU)<;>first | rfl | trivial
  ·obtain⟨r,hr⟩:∃r:Nat,r+y+l=x:=⟨x-l-y,by omega⟩
   obtain⟨s1,s2⟩:=step r 0 (by omega) (by omega) (by omega)
   have er:(x:Int)-(y:Int)-(l:Int)=(r:Int):=by omega
   have a1:=arG (ds:=outs) (d:=r) (by omega)
   have w3:IntKind.i64.wrap ((x:Int)-(y:Int)-(l:Int))=(r:Int):=wrapN r er (by omega)
   have Ko:¬(r:Int)<0:=by omega
   simp only[oQ,g0,g1,g5,g6,g11,g12,bX,e1,c2,w1,w3,wi,Ko,xB,zF,a1,VX,Nat.reduceEqDiff,Nat.reduceAdd]
   refine⟨(i+1,outs++[r],0),by simp only;omega,by simp;omega,by simp only;omega,by simp,s1,aLI _,s2,?_⟩
   simp only[aLp,aNL]
   try (repeat' apply aMU)<;>first | rfl | trivial
 ·have mZ:i=(aD 1000000000 a).length:=by omega
  rw[mZ,aMr,aL7 (l:=aD 1000000000 b) hle,cH (by decide),cH (by decide)] at hv
  have eT:=rM nF
  rw[←hi,mZ] at eT
  have Cw:val 1000000000 outs=a-b:=by
   rcases Nat.lt_or_ge l 1 with h | h
   ·have:l=0:=by omega
    subst this
    rw[Nat.mul_zero] at hv
    omega
   ·have:l=1:=by omega
    subst this
    rw[Nat.mul_one] at hv
    omega
  simp only[oQ,g0,g1,g5,g6,g11,g12,bX,VX,Nat.reduceEqDiff,Nat.reduceAdd]
  refine KJ nF rfl (by omega) Cw ?_
  simp only[VX,Nat.reduceEqDiff,Nat.reduceAdd]
  exact WB _
theorem fL (a b:Nat) (ha:(aD 1000000000 a).length≤17592186044416) (hb:(aD 1000000000 b).length≤17592186044416):TC 152 [bW a,bW b] (bW (a*b)):=by
 refine TC.walk ⟨true,false⟩ LC rfl (aM2 rfl) (by simp[aO,cG]) (pZ _) ?_
 have va:=cH (b:=1000000000) (by decide) a
 have vb:=cH (b:=1000000000) (by decide) b
 have la:=gF (b:=1000000000) (by decide) a
 have lb:=gF (b:=1000000000) (by decide) b
 unfold bW
 generalize aD 1000000000 a=xs at *
 generalize aD 1000000000 b=ys at *
 have w0:IntKind.i64.wrap ((xs.length:Int)+(ys.length:Int))=((xs.length+ys.length:Nat):Int):=wrapN _ (by omega) (by omega)
 simp only[F7,Da,eK,w0,SE (xs.length+ys.length) (by omega),VX,Nat.reduceEqDiff,Nat.reduceAdd]
 generalize hN:xs.length+ys.length=N at *
 refine aN (fun(s:Nat×List Nat) ρ H=>s.1≤xs.length∧H=[.row 0 (s.2.map tV) 1 true]∧s.2.length=N∧(∀d∈s.2,d<1000000000)∧val 1000000000 (s.2.take (s.1+ys.length))=val 1000000000 (xs.take s.1)*b∧(∀j,s.1+ys.length≤j→j<N→s.2[j]? = some 0) ∧
  ρ 0=jG xs∧ρ 1=jG ys∧ρ 5 = .ref 0 0 0 N N∧ρ 17=VI xs.length∧ρ 18=VI s.1) (fun s=>xs.length-s.1) (0,aL4 N 0) ⟨aLI _,rfl,by simp,Cx (by decide) _,by simp[val,List.take_replicate,vI],fun j _ h=>by simp[List.getElem?_replicate,h],rfl,rfl,rfl,rfl,rfl⟩ ?_
 rintro⟨i,outs⟩ ρ H ⟨hi,rfl,hJ,nF,hv,hzr,g0,g1,g5,g17,g18⟩
 simp only at hi hJ nF hv hzr g18
 by_cases bX:(i:Int)<(xs.length:Int)
 ·obtain⟨x,hx⟩:∃x,xs[i]? = some x:=⟨_,aLl (by omega)⟩
  have lx:=la x (aL8 hx)
  have e1:∀os:List Nat,bI 1 (jG xs) (VI i) [.row 0 (os.map tV) 1 true]=some (.cS (tV x) 0):=fun os=>aF (f:=tV) (t := .op) (size:=1) (k := .i64) hx rfl
  simp only[wM,g0,g1,g5,g17,g18,bX,eK,VX,Nat.reduceEqDiff,Nat.reduceAdd]
  refine aN (fun(s:Nat×List Nat×Nat) ρ H=>s.1≤ys.length∧H=[.row 0 (s.2.1.map tV) 1 true]∧s.2.1.length=N∧(∀d∈s.2.1,d<1000000000)∧s.2.2<1000000000 ∧
   val 1000000000 (s.2.1.take (i+s.1))+1000000000^(i+s.1)*s.2.2=val 1000000000 (outs.take (i+s.1))+1000000000^i*(x*val 1000000000 (ys.take s.1))∧(∀j,i+s.1≤j→s.2.1[j]? = outs[j]?) ∧
   ρ 0=jG xs∧ρ 1=jG ys∧ρ 5 = .ref 0 0 0 N N∧ρ 6=VI i∧ρ 7=VI s.2.2∧ρ 17=VI xs.length∧ρ 18=VI i∧ρ 22=VI ys.length∧ρ 23=VI s.1) (fun s=>ys.length-s.1) (0,outs,0) ⟨aLI _,rfl,hJ,nF,by simp,by simp[val],fun _ _=>rfl,by (repeat' apply aMU)<;>first | rfl | trivial⟩ ?_
  rintro⟨k,os,c⟩ tU H ⟨hk,rfl,Sl,TM,hc,Qh,IU,k0,k1,k5,k6,k7,Iu,Xg,k22,k23⟩
  simp only at hk Sl TM hc Qh IU k7 k23
  have wi:IntKind.i64.wrap ((i:Int)+1)=((i+1:Nat):Int):=wrapN (i+1) (by omega) (by omega)
  by_cases Hl:(k:Int)<(ys.length:Int)
  ·obtain⟨y,hy⟩:∃y,ys[k]? = some y:=⟨_,aLl (by omega)⟩
   have ly:=lb y (aL8 hy)
   obtain⟨o,ho⟩:∃o,os[i+k]? = some o:=⟨_,aLl (by omega)⟩
   have lo:=TM o (aL8 ho)
   have ho':outs[i+k]? = some o:=by rw[←IU (i+k) (aLe _)];exact ho
   have f1:bI 1 (jG ys) (VI k) [.row 0 (os.map tV) 1 true]=some (.cS (tV y) 0):=aF (f:=tV) (t := .op) (size:=1) (k := .i64) hy rfl
   have w1:IntKind.i64.wrap ((i:Int)+(k:Int))=((i+k:Nat):Int):=wrapN _ (by omega) (by omega)
   have f2:bI 1 (.ref 0 0 0 N N) (VI ((i+k:Nat):Int)) [.row 0 (os.map tV) 1 true]=some (.ptr 0 0 (i+k) 0):=adT (by omega)
   have f3:bG false 1 (.ptr 0 0 (i+k) 0) [.row 0 (os.map tV) 1 true]=some (VI (o:Int)):=Ox NB ho
   have f4:∀s:Nat,bM 0 1 (.ptr 0 0 (i+k) 0) (VI (s:Int)) [.row 0 (os.map tV) 1 true]=some [.row 0 ((os.set (i+k) s).map tV) 1 true]:=fun s=>SN (by omega)
   have CT:x*y≤999999999*999999999:=aNw (by omega) (by omega)
   have w5:IntKind.i64.wrap ((x:Int)*(y:Int))=((x*y:Nat):Int):=wrapN _ (by simp) (by omega)
   have w6:IntKind.i64.wrap ((o:Int)+((x*y:Nat):Int))=((o+x*y:Nat):Int):=wrapN _ (by omega) (by omega)
   have w7:IntKind.i64.wrap (((o+x*y:Nat):Int)+(c:Int))=((o+x*y+c:Nat):Int):=wrapN _ (by omega) (by omega)
   have wk:IntKind.i64.wrap ((k:Int)+1)=((k+1:Nat):Int):=wrapN (k+1) (by omega) (by omega)
   have r1:=RI (o+x*y+c)
   have q1:=RQ (o+x*y+c) (by omega)
   simp only[xF,k0,k1,k5,k6,k7,Iu,Xg,k22,k23,Hl,e1,f1,f2,f3,f4,w1,w5,w6,w7,wk,r1,q1,VX,Nat.reduceEqDiff,Nat.reduceAdd]
   have hq:(o+x*y+c) / 1000000000<1000000000:=aNy (by omega)
   refine⟨(k+1,os.set (i+k) ((o+x*y+c) % 1000000000),(o+x*y+c) / 1000000000),by simp only;omega,by omega,rfl,by rw[aNt];exact Sl,oD TM (aLG _ (by decide)),hq,?_,fun j hj => ?_,by (repeat' apply aMU)<;>first | rfl | trivial⟩
   ·have h1:=aNz (o+x*y+c) 1000000000
    rw[show o+x*y+c=c+(x*y+o) by omega] at h1 ⊢
    rw[←Nat.add_assoc,fI (by omega),bF ho',bF hy,aMF]
    rw[Nat.pow_add] at Qh ⊢
    exact UD Qh h1
   ·rw[aLD (by omega)]
    exact IU j (by omega)
  ·have T7:k=ys.length:=by omega
   subst T7
   rw[aMr,vb,hv] at Qh
   have w1:IntKind.i64.wrap ((i:Int)+(ys.length:Int))=((i+ys.length:Nat):Int):=wrapN _ (by omega) (by omega)
   have Cz:os[i+ys.length]? = some 0:=by rw[IU _ (aLe _)];exact hzr _ (aLe _) (by omega)
   have f2:bI 1 (.ref 0 0 0 N N) (VI ((i+ys.length:Nat):Int)) [.row 0 (os.map tV) 1 true]=some (.ptr 0 0 (i+ys.length) 0):=adT (by omega)
   have f3:bG false 1 (.ptr 0 0 (i+ys.length) 0) [.row 0 (os.map tV) 1 true]=some (VI ((0:Nat):Int)):=Ox NB Cz
   have f4:∀s:Nat,bM 0 1 (.ptr 0 0 (i+ys.length) 0) (VI (s:Int)) [.row 0 (os.map tV) 1 true]=some [.row 0 ((os.set (i+ys.length) s).map tV) 1 true]:=fun s=>SN (by omega)
   have w2:IntKind.i64.wrap (((0:Nat):Int)+(c:Int))=(c:Int):=wrapN _ (by omega) (by omega)
   simp only[xF,k0,k1,k5,k6,k7,Iu,Xg,k22,k23,Hl,eK,f2,f3,f4,w1,w2,wi,VX,Nat.reduceEqDiff,Nat.reduceAdd]
   refine⟨(i+1,os.set (i+ys.length) c),by simp only;omega,by omega,rfl,by rw[aNt];exact Sl,oD TM hc,?_,fun j hj xJ => ?_,by (repeat' apply aMU)<;>first | rfl | trivial⟩
   ·rw[show i+1+ys.length=i+ys.length+1 by omega,fI (by omega),Qh,bF hx,Nat.add_mul,Nat.mul_assoc]
   ·rw[aLD (by omega),IU j (by omega)]
    exact hzr j (by omega) xJ
 ·have mZ:i=xs.length:=by omega
  subst mZ
  rw[hN,aMr,va,aL7 (by omega)] at hv
  simp only[wM,g0,g1,g5,g17,g18,bX,VX,Nat.reduceEqDiff,Nat.reduceAdd]
  refine KJ (m:=a*b) nF hJ.symm (by omega) hv ?_
  simp only[VX,Nat.reduceEqDiff,Nat.reduceAdd]
  exact WB _
theorem ES (a:Nat) (ha:(aD 1000000000 a).length≤17592186044416):TC 201 [bW a] (if (aD 1000000000 a).length≤2 then .eH [VI a,VB true] else .eH [VI 0,VB false]):=by
 refine TC.walk ⟨true,false⟩ Ni rfl (aM2 rfl) (by simp[aO,cG]) (by split<;>rfl) ?_
 by_cases h2:(aD 1000000000 a).length≤2
 ·rw[if_pos h2]
  have h3:¬(2:Int)<((aD 1000000000 a).length:Int):=by omega
  have c0:TC 186 [bW a,VI 0] (VI ((a % 1000000000:Nat):Int)):=by have:=Fx a 0;rwa [aOd,Nat.div_one] at this
  have c1:TC 186 [bW a,VI 1] (VI ((a / 1000000000 % 1000000000:Nat):Int)):=by have:=Fx a 1;rwa [Nat.pow_one] at this
  have bH:=iP (b:=1000000000) (by decide) a
  have hp:1000000000^(aD 1000000000 a).length≤1000000000^2:=aNh (by decide) h2
  have hm:a / 1000000000<1000000000:=aNy (by omega)
  rw[aMI hm] at c1
  have hmd:=aNz a 1000000000
  have w1:IntKind.i64.wrap (1000000000*((a / 1000000000:Nat):Int))=((1000000000*(a / 1000000000):Nat):Int):=wrapN _ (by omega) (by omega)
  have w2:IntKind.i64.wrap (((a % 1000000000:Nat):Int)+((1000000000*(a / 1000000000):Nat):Int))=(a:Int):=wrapN _ (by omega) (by omega)
  simp only[CN,zY,cJ,h3,c0,c1,w1,w2,VX,Nat.reduceEqDiff,Nat.reduceAdd]
  exact aK rfl
 ·rw[if_neg h2]
  have h3:(2:Int)<((aD 1000000000 a).length:Int):=by omega
  simp only[CN,zY,cJ,h3,VX,Nat.reduceEqDiff,Nat.reduceAdd]
  exact aK rfl
theorem ajW {outs:List Nat} {n cap x:Nat} (hn:n=outs.length) (hc:n<cap):dK 0 1 8 (.ref 0 0 0 n cap) [VI (x:Int)] [.row 0 ((outs++aL4 (cap-n) 0).map tV) 1 true]=some (.ref 0 0 0 (n+1) cap,[.row 0 (((outs++[x])++aL4 (cap-(n+1)) 0).map tV) 1 true]):=by
 subst hn
 simp only[dK,aQ,aMV,aLp,List.length_replicate,aLo,aMR,aMM]
 rw[if_pos ⟨by decide,by decide⟩,if_pos ⟨trivial,aLe _,by omega⟩,if_pos (by omega),if_neg (by omega),if_pos (by omega)]
 congr 3
 have e:aL4 (cap-outs.length) 0=(0:Nat)::aL4 (cap-(outs.length+1)) 0:=by
  rw[show cap-outs.length=(cap-(outs.length+1))+1 by omega,List.replicate_succ]
 simp only[dD,List.set_cons_zero,e,aOg,List.map_cons,aLo,aMR,List.map_nil]
 congr 1
 rw[aOh (by simp),←List.drop_drop,List.drop_left' (by simp)]
 simp
theorem BP (a d:Nat) (FO:0<d) (hd:d<1000000000) (ha:(aD 1000000000 a).length<17592186044416):TC 203 [bW a,VI (d:Int)] (bW (a*d)):=by
 refine TC.walk ⟨true,false⟩ Iw rfl (aM2 rfl) (by simp[aO,cG];rfl) (pZ _) ?_
 have w0:IntKind.i64.wrap (((aD 1000000000 a).length:Int)+1)=(((aD 1000000000 a).length+1:Nat):Int):=wrapN _ (by omega) (by omega)
 have mk:BR [.int .i64 0] 8 (VI 0) (VI (((aD 1000000000 a).length+1:Nat):Int)) []=some (.ref 0 0 0 0 ((aD 1000000000 a).length+1),[.row 0 ((([]:List Nat)++aL4 ((aD 1000000000 a).length+1-0) 0).map tV) 1 true]):=by
  simp only[BR]
  rw[if_pos ⟨by omega,by omega,by omega,by omega⟩]
  simp
  rfl
 simp only[DK,BM,cJ,w0,mk,VX,Nat.reduceEqDiff,Nat.reduceAdd]
 refine aN (fun(s:Nat×List Nat×Nat) ρ H=>s.1=s.2.1.length∧s.1≤(aD 1000000000 a).length∧H=[.row 0 ((s.2.1++aL4 ((aD 1000000000 a).length+1-s.1) 0).map tV) 1 true]∧s.2.2<d∧aD 1000000000 (a*d)=s.2.1++aD 1000000000 (a / 1000000000^s.1*d+s.2.2) ∧
  ρ 1=VI d∧ρ 5 = .ref 0 0 0 s.1 ((aD 1000000000 a).length+1)∧ρ 6=VI s.2.2∧ρ 14=bW a∧ρ 15=VI (aD 1000000000 a).length∧ρ 16=VI s.1) (fun s=>(aD 1000000000 a).length-s.1) (0,[],0) ⟨rfl,aLI _,rfl,FO,by simp,rfl,rfl,rfl,rfl,rfl,rfl⟩ ?_
 rintro⟨i,outs,c⟩ ρ H ⟨hi,qU,rfl,hc,hv,g1,g5,g6,g14,g15,g16⟩
 simp only at hi qU hc hv g5 g6 g16
 by_cases bX:(i:Int)<((aD 1000000000 a).length:Int)
 ·have hx:=NV (b:=1000000000) (by decide) (n:=a) (i:=i) (by omega)
  have hA:=(Gr (b:=1000000000) (by decide) (n:=a) (i:=i)).1 (by omega)
  have e1:∀H,bI 1 (bW a) (VI i) H=some (.cS (tV (a / 1000000000^i % 1000000000)) 0):=fun H=>aF (f:=tV) (t := .op) (size:=1) (k := .i64) hx rfl
  have lx:=aLG (a / 1000000000^i) (show 0<1000000000 by decide)
  have fN:a / 1000000000^i*d+c≠0:=by
   have:=Nat.mul_ne_zero hA (show d≠0 by omega)
   omega
  rw[acG (by decide) fN,←xD] at hv
  generalize a / 1000000000^i % 1000000000=x at *
  have hxd:x*d≤999999999*999999999:=aNw (by omega) (by omega)
  have w1:IntKind.i64.wrap ((x:Int)*(d:Int))=((x*d:Nat):Int):=wrapN _ (by simp) (by omega)
  have w2:IntKind.i64.wrap (((x*d:Nat):Int)+(c:Int))=((x*d+c:Nat):Int):=wrapN _ (by omega) (by omega)
  have wi:IntKind.i64.wrap ((i:Int)+1)=((i+1:Nat):Int):=wrapN (i+1) (by omega) (by omega)
  have r1:=RI (x*d+c)
  have q1:=RQ (x*d+c) (by omega)
  have a1:=ajW (outs:=outs) (n:=i) (cap:=(aD 1000000000 a).length+1) (x:=(x*d+c) % 1000000000) hi (by omega)
  have hq:(x*d+c) / 1000000000<d:=by
   rw[aNB (by decide)]
   have h1:x*d≤999999999*d:=aLF _ (by omega)
   omega
  simp only[nI,g1,g5,g6,g14,g15,g16,bX,e1,w1,w2,wi,r1,q1,xB,zF,a1,VX,Nat.reduceEqDiff,Nat.reduceAdd]
  refine⟨(i+1,outs++[(x*d+c) % 1000000000],(x*d+c) / 1000000000),by simp only;omega,by simp;omega,by simp only;omega,rfl,hq,by rw[hv,aM0];rfl,?_⟩
  try (repeat' apply aMU)<;>first | rfl | trivial
 ·have mZ:i=(aD 1000000000 a).length:=by omega
  have hz:a / 1000000000^i=0:=by
   have:=mt (Gr (b:=1000000000) (by decide) (n:=a) (i:=i)).2
   omega
  rw[hz,Nat.zero_mul,aMM] at hv
  by_cases hcp:(0:Int)<(c:Int)
  ·rw[Fy (b:=1000000000) (by decide) (show c≠0 by omega) (show c<1000000000 by omega)] at hv
   have a1:=ajW (outs:=outs) (n:=i) (cap:=(aD 1000000000 a).length+1) (x:=c) hi (by omega)
   simp only[nI,g1,g5,g6,g14,g15,g16,bX,hcp,xB,zF,a1,VX,Nat.reduceEqDiff,Nat.reduceAdd]
   rw[bW,hv]
   rw[abK aQ (by simp;omega) (by omega) (fO fun _=>rfl)]
   rw[aOg,aOh (by simp;omega)]
  ·have Xw:c=0:=by omega
   rw[Xw,cC,aMm] at hv
   simp only[nI,g1,g5,g6,g14,g15,g16,bX,hcp,VX,Nat.reduceEqDiff,Nat.reduceAdd]
   rw[bW,hv]
   rw[abK aQ (by simp;omega) (by omega) (fO fun _=>rfl)]
   rw[aOg,aOh (by simp;omega)]
theorem Jx (a b:Nat) (ha:a≤9223372036854775807) (hb:0<b):dO .quo (.int .i64 (a:Int)) (.int .i64 (b:Int))=some (.int .i64 ((a / b:Nat):Int)):=by
 have h1:¬((b:Int)=0):=by omega
 have h2:(a:Int).tdiv (b:Int)=((a / b:Nat):Int):=by rw[aOf (by omega)];simp
 have h3:a / b≤a:=Nat.div_le_self _ _
 simp only[dO,if_true,h1,if_false,h2]
 generalize a / b=q at *
 rw[wrap64 (by omega) (by omega)]
theorem Jz (a b:Nat) (hb:0<b):dO .rem (.int .i64 (a:Int)) (.int .i64 (b:Int))=some (.int .i64 ((a % b:Nat):Int)):=by
 have h1:¬((b:Int)=0):=by omega
 have h2:(a:Int).tmod (b:Int)=((a % b:Nat):Int):=by rw[aOe (by omega)];simp
 simp only[dO,if_true,h1,if_false,h2]
theorem aiB {r d x:Nat} (hr:r<d) (hd:d<1000000000) (hx:x<1000000000):r*1000000000+x≤9223372036854775807:=by omega
theorem azX {r d x:Nat} (FO:0<d) (hr:r<d) (hx:x<1000000000):(r*1000000000+x) / d<1000000000:=by
 rw[aNB FO]
 omega
theorem BQ (a d:Nat) (FO:0<d) (hdT:d<1000000000) (ha:(aD 1000000000 a).length≤17592186044416):TC 202 [bW a,VI (d:Int)] (.eH [bW (a / d),VI ((a % d:Nat):Int)]):=by
 refine TC.walk ⟨true,false⟩ Ij rfl (aM2 rfl) (by simp[aO,cG];rfl) (by simp[gV,rE,pZ,qM]) ?_
 have va:=cH (b:=1000000000) (by decide) a
 have la:=gF (b:=1000000000) (by decide) a
 unfold bW
 generalize aD 1000000000 a=xs at *
 have w0:IntKind.i64.wrap ((xs.length:Int)-1)=(xs.length:Int)-1:=wrap64 (by omega) (by omega)
 simp only[DL,BE,eK,w0,SE xs.length (by omega),VX,Nat.reduceEqDiff,Nat.reduceAdd]
 refine aN (fun(s:Nat×List Nat×Nat) ρ H=>s.1≤xs.length∧H=[.row 0 (s.2.1.map tV) 1 true]∧s.2.1.length=xs.length∧(∀d∈s.2.1,d<1000000000)∧s.2.2<d∧val 1000000000 (s.2.1.drop s.1)*d+s.2.2=val 1000000000 (xs.drop s.1) ∧
  ρ 0=jG xs∧ρ 1=VI d∧ρ 6 = .ref 0 0 0 xs.length xs.length∧ρ 7=VI s.2.2∧ρ 8=VI ((s.1:Int)-1)) (fun s=>s.1) (xs.length,aL4 xs.length 0,0) ⟨aLe _,rfl,by simp,Cx (by decide) _,FO,by simp[val,List.drop_replicate],rfl,rfl,rfl,rfl,rfl⟩ ?_
 rintro⟨j,outs,r⟩ ρ H ⟨hj,rfl,hJ,nF,hr,hv,g0,g1,g6,g7,g8⟩
 simp only at hj hJ nF hr hv g7 g8
 by_cases hz:(0:Int)≤(j:Int)-1
 ·obtain⟨i,rfl⟩:∃i,j=i+1:=⟨j-1,by omega⟩
  obtain⟨x,hx⟩:∃x,xs[i]? = some x:=⟨_,aLl (by omega)⟩
  have lx:=la x (aL8 hx)
  have Ea:((i+1:Nat):Int)-1=(i:Int):=by omega
  rw[Ea] at g8 hz
  have e1:=aF (f:=tV) (t := .op) (H:=[.row 0 (outs.map tV) 1 true]) (size:=1) (k := .i64) hx rfl
  have e3:bI 1 (.ref 0 0 0 xs.length xs.length) (VI i) [.row 0 (outs.map tV) 1 true]=some (.ptr 0 0 i 0):=adT (by omega)
  have e4:∀s:Nat,bM 0 1 (.ptr 0 0 i 0) (VI (s:Int)) [.row 0 (outs.map tV) 1 true]=some [.row 0 ((outs.set i s).map tV) 1 true]:=fun s=>SN (by omega)
  have w2:IntKind.i64.wrap ((i:Int)-1)=(i:Int)-1:=wrap64 (by omega) (by omega)
  have w4:IntKind.i64.wrap ((r:Int)*1000000000)=((r*1000000000:Nat):Int):=wrapN _ (by omega) (by omega)
  have w5:IntKind.i64.wrap (((r*1000000000:Nat):Int)+(x:Int))=((r*1000000000+x:Nat):Int):=wrapN _ (by omega) (by omega)
  have Dh:r*1000000000+x≤9223372036854775807:=aiB hr hdT lx
  have q1:=Jx (r*1000000000+x) d Dh FO
  have q2:=Jz (r*1000000000+x) d FO
  have hq:(r*1000000000+x) / d<1000000000:=azX FO hr lx
  simp only[tE,g0,g1,g6,g7,g8,hz,e1,e3,e4,w2,w4,w5,q1,q2,VX,Nat.reduceEqDiff,Nat.reduceAdd]
  refine⟨(i,outs.set i ((r*1000000000+x) / d),(r*1000000000+x) % d),by simp only;omega,by omega,rfl,by rw[aNt];exact hJ,oD nF hq,aLG _ FO,?_,by (repeat' apply aMU)<;>first | rfl | trivial⟩
  have h1:=aNz (r*1000000000+x) d
  rw[set_drop (by omega),wY,wQ hx,←hv]
  exact Wl h1
 ·have YS:j=0:=by omega
  subst YS
  rw[List.drop_zero,List.drop_zero,va] at hv
  have h1:a / d=val 1000000000 outs:=by
   rw[←hv,aMG,Nat.mul_add_div FO,aML hr,Nat.add_zero]
  have h2:a % d=r:=by
   rw[←hv,aMG,Nat.mul_add_mod,aMI hr]
  simp only[tE,g0,g1,g6,g7,g8,hz,VX,Nat.reduceEqDiff,Nat.reduceAdd]
  refine KJ (m:=a / d) nF hJ.symm (by omega) h1.symm ?_
  simp only[g7,VX,Nat.reduceEqDiff,Nat.reduceAdd]
  rw[h2]
  exact aK (by simp[aY,aO,BI,bW,qM])
end Go.PM
namespace Go.PM
section
variable {H:aA} {b g o i lo d:Nat} {L R:List VV} {low:List Nat}
theorem apB (hr:aJ H b g=some (L++low.map tV++R,1,true)) (ho:L.length=o) (hi:low[i]? = some d):bG false 1 (.ptr b g (o+i) 0) H=some (VI (d:Int)):=by
 have bH:=(aLd.1 hi).1
 rw[SA hr (x:=tV d) (by rw[SU ho (by simpa using bH)];simp[hi])]
 rfl
theorem aoF (hr:aJ H b g=some (L++low.map tV++R,1,true)) (ho:L.length=o) (hi:i<low.length) (eT:lo≤b):bM lo 1 (.ptr b g (o+i) 0) (VI (d:Int)) H=some (H.set b (.row g (L++(low.set i d).map tV++R) 1 true)):=by
 rw[bS hr (by simp only[aLp,aMV];omega) eT rfl rfl,abR ho (by simpa using hi),List.map_set]
theorem Yi {n:Nat} {z:Int} (hr:aJ H b g=some (L++low.map tV++VI z::R,1,true)) (ho:L.length=o) (hn:low.length=n):bG false 1 (.ptr b g (o+n) 0) H=some (VI z):=by
 rw[SA hr (x:=VI z) (by rw[List.getElem?_append_right (by simp;omega)];simp[ho,hn])]
 rfl
theorem akH {n:Nat} {z z':Int} (hr:aJ H b g=some (L++low.map tV++VI z::R,1,true)) (ho:L.length=o) (hn:low.length=n) (eT:lo≤b):bM lo 1 (.ptr b g (o+n) 0) (VI z') H=some (H.set b (.row g (L++low.map tV++VI z'::R) 1 true)):=by
 rw[bS hr (by simp only[aLp,aMV,aLo];omega) eT rfl rfl,List.set_append_right _ _ (by simp;omega)]
 congr 5
 simp[ho,hn]
end
theorem Tr {P A N B c u x t r k m q T:Nat} (h:A+P*c=N+t*B) (h1:r+m+c=u+T*k) (h2:m+T*q=x*t):(A+P*u)+P*T*(q+k)=(N+P*r)+t*(B+P*x):=by
 have e1:P*(r+m+c)=P*(u+T*k):=by rw[h1]
 have e2:P*(m+T*q)=P*(x*t):=by rw[h2]
 grind
theorem aoB {x t:Nat} (hx:x<1000000000) (ht:t<1000000000):x*t≤999999998000000001∧x*t / 1000000000≤999999998:=by
 have h:x*t≤999999999*999999999:=aNw (by omega) (by omega)
 omega
theorem acV {H:aA} {lo b g o n N t top:Nat} {L R:List VV} {low vs:List Nat} (hr:aJ H b g=some (L++low.map tV++VI (top:Int)::R,1,true)) (eT:lo≤b) (ho:L.length=o) (hl:low.length=n) (HG:vs.length=n) (hN:o+n<N) (E5:N≤70368744177664)
  (hld:∀d∈low,d<1000000000) (Kl:∀d∈vs,d<1000000000) (ht:t<1000000000) (akB:top<1000000000) :
  mB 204 [.ref b g 0 N N,jG vs,VI (o:Int),VI (t:Int)] lo H fun r H'=>∃(DD:List Nat) (c:Nat),H'=H.set b (.row g (L++DD.map tV++VI ((top:Int)-(c:Int))::R) 1 true)∧DD.length=n∧(∀d∈DD,d<1000000000)∧c≤1000000000 ∧
   r=VB (decide ((top:Int)-(c:Int)<0))∧val 1000000000 low+1000000000^n*c=val 1000000000 DD+t*val 1000000000 vs:=by
 refine mB.walk ⟨true,false⟩ JK (aM2 rfl) ?_
 have rd:∀(s:List Nat) (z:Int),aJ (H.set b (.row g (L++s.map tV++VI z::R) 1 true)) b g=some (L++s.map tV++VI z::R,1,true):=fun s z=>qH hr
 have ad:∀(K:aA) (es:List VV) (i:Nat),aJ K b g=some (es,1,true)→i≤n→bI 1 (.ref b g 0 N N) (VI ((o+i:Nat):Int)) K=some (.ptr b g (o+i) 0):=fun K es i h hi=>by rw[bC h (by omega),aMM]
 simp only[EN,Cq,eK,VX,Nat.reduceEqDiff,Nat.reduceAdd]
 refine aN (fun(u:Nat×List Nat×Nat) ρ K=>u.1≤n∧K=H.set b (.row g (L++u.2.1.map tV++VI (top:Int)::R) 1 true)∧u.2.1.length=n∧(∀d∈u.2.1,d<1000000000)∧u.2.2≤1000000000∧val 1000000000 (low.take u.1)+1000000000^u.1*u.2.2=val 1000000000 (u.2.1.take u.1)+t*val 1000000000 (vs.take u.1)∧(∀j,u.1≤j→u.2.1[j]? = low[j]?) ∧
  ρ 0 = .ref b g 0 N N∧ρ 1=jG vs∧ρ 2=VI o∧ρ 3=VI t∧ρ 9=VI u.2.2∧ρ 13=jG vs∧ρ 14=VI vs.length∧ρ 15=VI u.1) (fun u=>n-u.1) (0,low,0) ⟨aLI _,(AA hr).symm,hl,hld,by simp,by simp[val],fun _ _=>rfl,by (repeat' apply aMU)<;>first | rfl | trivial⟩ ?_
 rintro⟨i,outs,c⟩ ρ K ⟨hi,rfl,hJ,nF,hc,hv,IU,k0,k1,k2,k3,k9,B6,CZ,Nr⟩
 simp only at hi hJ nF hc hv IU k9 Nr
 by_cases bX:(i:Int)<(vs.length:Int)
 ·obtain⟨u,hu⟩:∃u,outs[i]? = some u:=⟨_,aLl (by omega)⟩
  have lu:=nF u (aL8 hu)
  have hu':low[i]? = some u:=by rw[←IU i (aLe _)];exact hu
  obtain⟨x,hx⟩:∃x,vs[i]? = some x:=⟨_,aLl (by omega)⟩
  have lx:=Kl x (aL8 hx)
  obtain⟨xt1,xt2⟩:=aoB lx ht
  have e1:bI 1 (jG vs) (VI i) (H.set b (.row g (L++outs.map tV++VI (top:Int)::R) 1 true))=some (.cS (tV x) 0):=aF (f:=tV) (t := .op) (size:=1) (k := .i64) hx rfl
  have w1:IntKind.i64.wrap ((o:Int)+(i:Int))=((o+i:Nat):Int):=wrapN _ (by omega) (by omega)
  have e2:=ad _ _ i (rd outs top) (by omega)
  have e3:=apB (rd outs top) ho hu
  have e4:∀d:Nat,bM lo 1 (.ptr b g (o+i) 0) (VI (d:Int)) (H.set b (.row g (L++outs.map tV++VI (top:Int)::R) 1 true))=some (H.set b (.row g (L++(outs.set i d).map tV++VI (top:Int)::R) 1 true)):=fun d=>by rw[aoF (rd outs top) ho (by omega) eT,oI]
  have w2:IntKind.i64.wrap ((x:Int)*(t:Int))=((x*t:Nat):Int):=wrapN _ (by simp) (by omega)
  have r1:=RI (x*t)
  have q1:=RQ (x*t) (by omega)
  have hm:=aLG (x*t) (show 0<1000000000 by decide)
  have hdv:=aNz (x*t) 1000000000
  have wi:IntKind.i64.wrap ((i:Int)+1)=((i+1:Nat):Int):=wrapN (i+1) (by omega) (by omega)
  generalize hmq:x*t % 1000000000=m at *
  generalize hqq:x*t / 1000000000=q at *
  have w3:IntKind.i64.wrap ((u:Int)-(m:Int))=(u:Int)-(m:Int):=wrap64 (by omega) (by omega)
  have w4:IntKind.i64.wrap ((u:Int)-(m:Int)-(c:Int))=(u:Int)-(m:Int)-(c:Int):=wrap64 (by omega) (by omega)
  have step:∀r k:Nat,r<1000000000→r+m+c=u+1000000000*k→val 1000000000 (low.take (i+1))+1000000000^(i+1)*(q+k)=val 1000000000 ((outs.set i r).take (i+1))+t*val 1000000000 (vs.take (i+1))∧(∀d∈outs.set i r,d<1000000000)∧(∀j,i+1≤j→(outs.set i r)[j]? = low[j]?)∧(outs.set i r).length=n:=by
   intro r k hr hk
   refine⟨?_,oD nF hr,fun j hj=>by rw[aLD (by omega)];exact IU j (by omega),by rw[aNt];exact hJ⟩
   rw[bF hu',bF hx,fI (by omega),aMF]
   exact Tr hv hk hdv
  by_cases h1:(u:Int)-(m:Int)-(c:Int)<0
  ·have w5:IntKind.i64.wrap ((u:Int)-(m:Int)-(c:Int)+1000000000)=(u:Int)-(m:Int)-(c:Int)+1000000000:=wrap64 (by omega) (by omega)
   have w6:IntKind.i64.wrap ((q:Int)+1)=((q+1:Nat):Int):=wrapN _ (by omega) (by omega)
   by_cases h2:(u:Int)-(m:Int)-(c:Int)+1000000000<0
   ·obtain⟨r,hr⟩:∃r:Nat,r+m+c=u+1000000000*2:=⟨u+1000000000*2-m-c,by omega⟩
    have w7:IntKind.i64.wrap ((u:Int)-(m:Int)-(c:Int)+1000000000+1000000000)=(r:Int):=wrapN r (by omega) (by omega)
    have w8:IntKind.i64.wrap (((q+1:Nat):Int)+1)=((q+2:Nat):Int):=wrapN _ (by omega) (by omega)
    obtain⟨s1,s2,s3,s4⟩:=step r 2 (by omega) hr
    simp only[lU,k0,k1,k2,k3,k9,B6,CZ,Nr,bX,e1,e2,e3,e4,w1,w2,w3,w4,w5,w6,w7,w8,wi,r1,q1,h1,h2,VX,Nat.reduceEqDiff,Nat.reduceAdd]
    refine⟨(i+1,outs.set i r,q+2),by simp only;omega,by omega,rfl,s4,s2,by simp only;omega,s1,s3,?_⟩
    try (repeat' apply aMU)<;>first | rfl | trivial
   ·obtain⟨r,hr⟩:∃r:Nat,r+m+c=u+1000000000*1:=⟨u+1000000000*1-m-c,by omega⟩
    have w7:IntKind.i64.wrap ((u:Int)-(m:Int)-(c:Int)+1000000000)=(r:Int):=wrapN r (by omega) (by omega)
    have h3:¬(r:Int)<0:=by omega
    obtain⟨s1,s2,s3,s4⟩:=step r 1 (by omega) hr
    simp only[lU,k0,k1,k2,k3,k9,B6,CZ,Nr,bX,e1,e2,e3,e4,w1,w2,w3,w4,w6,w7,wi,r1,q1,h1,h3,VX,Nat.reduceEqDiff,Nat.reduceAdd]
    refine⟨(i+1,outs.set i r,q+1),by simp only;omega,by omega,rfl,s4,s2,by simp only;omega,s1,s3,?_⟩
    try (repeat' apply aMU)<;>first | rfl | trivial
  ·obtain⟨r,hr⟩:∃r:Nat,r+m+c=u+1000000000*0:=⟨u-m-c,by omega⟩
   have w7:IntKind.i64.wrap ((u:Int)-(m:Int)-(c:Int))=(r:Int):=wrapN r (by omega) (by omega)
   have h3:¬(r:Int)<0:=by omega
   obtain⟨s1,s2,s3,s4⟩:=step r 0 (by omega) hr
   simp only[lU,k0,k1,k2,k3,k9,B6,CZ,Nr,bX,e1,e2,e3,e4,w1,w2,w3,w7,wi,r1,q1,h3,VX,Nat.reduceEqDiff,Nat.reduceAdd]
   refine⟨(i+1,outs.set i r,q),by simp only;omega,by omega,rfl,s4,s2,by simp only;omega,s1,s3,?_⟩
   try (repeat' apply aMU)<;>first | rfl | trivial
 ·have mZ:i=n:=by omega
  subst mZ
  rw[aL7 (by omega),aL7 (by omega),aL7 (by omega)] at hv
  have w1:IntKind.i64.wrap ((o:Int)+(vs.length:Int))=((o+i:Nat):Int):=wrapN _ (by omega) (by omega)
  have e2:=ad _ _ i (rd outs top) (by omega)
  have e2':=ad _ _ i (rd outs ((top:Int)-(c:Int))) (by omega)
  have e3:=Yi (rd outs top) ho hJ
  have e3':=Yi (rd outs ((top:Int)-(c:Int))) ho hJ
  have e4:bM lo 1 (.ptr b g (o+i) 0) (VI ((top:Int)-(c:Int))) (H.set b (.row g (L++outs.map tV++VI (top:Int)::R) 1 true))=some (H.set b (.row g (L++outs.map tV++VI ((top:Int)-(c:Int))::R) 1 true)):=by rw[akH (rd outs top) ho hJ eT,oI]
  have w2:IntKind.i64.wrap ((top:Int)-(c:Int))=(top:Int)-(c:Int):=wrap64 (by omega) (by omega)
  simp only[lU,k0,k1,k2,k3,k9,B6,CZ,Nr,bX,eK,w1,w2,e2,e2',e3,e3',e4,VX,Nat.reduceEqDiff,Nat.reduceAdd]
  refine⟨outs,c,rfl,hJ,nF,hc,?_,hv⟩
  try rfl
theorem agC {H:aA} {lo b g o n N:Nat} {z:Int} {L R:List VV} {low vs:List Nat} (hr:aJ H b g=some (L++low.map tV++VI z::R,1,true)) (eT:lo≤b) (ho:L.length=o) (hl:low.length=n) (HG:vs.length=n) (hN:o+n<N) (E5:N≤70368744177664)
  (hld:∀d∈low,d<1000000000) (Kl:∀d∈vs,d<1000000000) (hz : -1000000000≤z) (Nt:z≤1000000000) :
  mB 205 [.ref b g 0 N N,jG vs,VI (o:Int)] lo H fun r H'=>∃(DD:List Nat) (c:Nat),H'=H.set b (.row g (L++DD.map tV++VI (z+(c:Int))::R) 1 true)∧DD.length=n∧(∀d∈DD,d<1000000000)∧c≤1 ∧
   val 1000000000 low+val 1000000000 vs=val 1000000000 DD+1000000000^n*c:=by
 refine mB.walk ⟨true,false⟩ Kh (aM2 rfl) ?_
 have rd:∀(s:List Nat) (z:Int),aJ (H.set b (.row g (L++s.map tV++VI z::R) 1 true)) b g=some (L++s.map tV++VI z::R,1,true):=fun s z=>qH hr
 have ad:∀(K:aA) (es:List VV) (i:Nat),aJ K b g=some (es,1,true)→i≤n→bI 1 (.ref b g 0 N N) (VI ((o+i:Nat):Int)) K=some (.ptr b g (o+i) 0):=fun K es i h hi=>by rw[bC h (by omega),aMM]
 simp only[Ew,Cj,eK,VX,Nat.reduceEqDiff,Nat.reduceAdd]
 refine aN (fun(u:Nat×List Nat×Nat) ρ K=>u.1≤n∧K=H.set b (.row g (L++u.2.1.map tV++VI z::R) 1 true)∧u.2.1.length=n∧(∀d∈u.2.1,d<1000000000)∧u.2.2≤1∧val 1000000000 (low.take u.1)+val 1000000000 (vs.take u.1)=val 1000000000 (u.2.1.take u.1)+1000000000^u.1*u.2.2∧(∀j,u.1≤j→u.2.1[j]? = low[j]?) ∧
  ρ 0 = .ref b g 0 N N∧ρ 1=jG vs∧ρ 2=VI o∧ρ 6=VI u.2.2∧ρ 10=jG vs∧ρ 11=VI vs.length∧ρ 12=VI u.1) (fun u=>n-u.1) (0,low,0) ⟨aLI _,(AA hr).symm,hl,hld,by simp,by simp[val],fun _ _=>rfl,by (repeat' apply aMU)<;>first | rfl | trivial⟩ ?_
 rintro⟨i,outs,c⟩ ρ K ⟨hi,rfl,hJ,nF,hc,hv,IU,k0,k1,k2,k6,k10,ZX,K9⟩
 simp only at hi hJ nF hc hv IU k6 K9
 by_cases bX:(i:Int)<(vs.length:Int)
 ·obtain⟨u,hu⟩:∃u,outs[i]? = some u:=⟨_,aLl (by omega)⟩
  have lu:=nF u (aL8 hu)
  have hu':low[i]? = some u:=by rw[←IU i (aLe _)];exact hu
  obtain⟨x,hx⟩:∃x,vs[i]? = some x:=⟨_,aLl (by omega)⟩
  have lx:=Kl x (aL8 hx)
  have e1:bI 1 (jG vs) (VI i) (H.set b (.row g (L++outs.map tV++VI z::R) 1 true))=some (.cS (tV x) 0):=aF (f:=tV) (t := .op) (size:=1) (k := .i64) hx rfl
  have w1:IntKind.i64.wrap ((o:Int)+(i:Int))=((o+i:Nat):Int):=wrapN _ (by omega) (by omega)
  have e2:=ad _ _ i (rd outs z) (by omega)
  have e3:=apB (rd outs z) ho hu
  have e4:∀d:Nat,bM lo 1 (.ptr b g (o+i) 0) (VI (d:Int)) (H.set b (.row g (L++outs.map tV++VI z::R) 1 true))=some (H.set b (.row g (L++(outs.set i d).map tV++VI z::R) 1 true)):=fun d=>by rw[aoF (rd outs z) ho (by omega) eT,oI]
  have w2:IntKind.i64.wrap ((u:Int)+(x:Int))=((u+x:Nat):Int):=wrapN _ (by omega) (by omega)
  have w3:IntKind.i64.wrap (((u+x:Nat):Int)+(c:Int))=((u+x+c:Nat):Int):=wrapN _ (by omega) (by omega)
  have r1:=RI (u+x+c)
  have q1:=RQ (u+x+c) (by omega)
  have wi:IntKind.i64.wrap ((i:Int)+1)=((i+1:Nat):Int):=wrapN (i+1) (by omega) (by omega)
  simp only[uY,k0,k1,k2,k6,k10,ZX,K9,bX,e1,e2,e3,e4,w1,w2,w3,wi,r1,q1,VX,Nat.reduceEqDiff,Nat.reduceAdd]
  refine⟨(i+1,outs.set i ((u+x+c) % 1000000000),(u+x+c) / 1000000000),by simp only;omega,by omega,rfl,by rw[aNt];exact hJ,oD nF (aLG _ (by decide)),by simp only;omega,?_,fun j hj=>by rw[aLD (by omega)];exact IU j (by omega),?_⟩
  ·simp only
   rw[bF hu',bF hx,fI (by omega),aMF]
   exact IQ hv (show c+u+x=u+x+c by omega) (aNz _ _)
  ·try (repeat' apply aMU)<;>first | rfl | trivial
 ·have mZ:i=n:=by omega
  subst mZ
  rw[aL7 (by omega),aL7 (by omega),aL7 (by omega)] at hv
  have w1:IntKind.i64.wrap ((o:Int)+(vs.length:Int))=((o+i:Nat):Int):=wrapN _ (by omega) (by omega)
  have e2:=ad _ _ i (rd outs z) (by omega)
  have e3:=Yi (rd outs z) ho hJ
  have e4:bM lo 1 (.ptr b g (o+i) 0) (VI (z+(c:Int))) (H.set b (.row g (L++outs.map tV++VI z::R) 1 true))=some (H.set b (.row g (L++outs.map tV++VI (z+(c:Int))::R) 1 true)):=by rw[akH (rd outs z) ho hJ eT,oI]
  have w2:IntKind.i64.wrap (z+(c:Int))=z+(c:Int):=wrap64 (by omega) (by omega)
  simp only[uY,k0,k1,k2,k6,k10,ZX,K9,bX,eK,w1,w2,e2,e3,e4,VX,Nat.reduceEqDiff,Nat.reduceAdd]
  exact⟨outs,c,rfl,hJ,nF,hc,hv⟩
end Go.PM