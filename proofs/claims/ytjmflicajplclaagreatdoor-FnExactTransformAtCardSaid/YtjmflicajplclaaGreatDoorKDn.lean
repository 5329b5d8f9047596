/- Texts of a claim, in one: part 14. -/
import Derived.KernelRfl
import Derived.Test.YtjmflicajplclaaGreatDoorKDm
open And renaming intro → aL1
open Bool renaming not_false → aNZ,not_true → aN0
open Int renaming mul_ne_zero → aN3,natAbs_mul → aMX,natAbs_natCast → aMY
open List renaming all_eq_true → aKz,cons_append → aLL,getD_eq_getElem?_getD → aKi,getElem?_append_right → aKD,getElem?_cons_succ → aL5,getElem?_cons_zero → aKF,getElem?_eq_getElem → aKs,length_cons → aKv,length_eq_zero_iff → aNg,length_map → aL2,length_nil → aLY,mapM_cons → aLI,mem_of_getElem? → aLf,nil_append → aLD,prefix_append → aMg,set_append_right → aL0
open Nat renaming add_mul → aKQ,add_sub_cancel_left → aMc,le_of_ble_eq_true → aL9,le_refl → aKl,le_trans → aKm,lt_irrefl → aN1,lt_of_lt_of_le → aKn,lt_or_ge → aKo,mul_comm → aLN,mul_le_mul_right → aKM,mul_lt_mul'' → aNU,not_lt_zero → aLC,pow_le_pow_right → aMp,zero_add → aLT,zero_le → aKP,zero_lt_one → aNA
open Option renaming getD_some → aNx
open Rat renaming intCast_mul → aNV,le_refl → aNR,mul_nonneg → aN4,zero_mul → aN2
set_option linter.unusedSimpArgs false
set_option linter.unusedVariables false
namespace Go.PM
def dA:aE:=(.seq (LS [LM 77 10,LM 78 4,LO 79 (.bin .lss (LT 77) (LT 78))] (.cond (LT 79) .skip (.exit 0))) (.seq (.block 1 (LS [LM 83 0,LO 84 (.chk (LT 83)),LO 85 (LA 1 84),LO 86 (LL 85),LM 87 10,LO 88 (.iaddr 1 (LT 86) (LT 87)),LO 89 (LL 88),LO 90 (.call 57 [(LT 89)]),LM 82 90,LO 91 (LX 82 0),LO 92 (LX 82 1),LM 11 91,LM 12 92] (.seq (LS [LM 93 12,LO 94 (.un .not (LT 93)),LM 95 94,LZ 95 96 (.mv (LT 11)),LZ 95 97 (.len (LT 96)),LZ 95 98 (.mv (LT 4)),LZ 95 99 (.bin .neq (LT 97) (LT 98)),LO 100 (.pick (LT 95) LG (LT 99)),LM 101 100,LZ 101 102 (.mv (LT 11)),LZ 101 103 (.call 58 [(LT 102)]),LZ 101 104 (.un .not (LT 103)),LO 105 (.pick (LT 101) LG (LT 104)),LM 106 105,LZ 106 107 (.mv (LT 11)),LZ 106 108 (.mv (LT 10)),LZ 106 109 (.iaddr 3 (LT 107) (LT 108)),LZ 106 110 (LK 109),LZ 106 111 (.call 59 [(LT 110)]),LZ 106 112 (.un .not (LT 111)),LO 113 (.pick (LT 106) LG (LT 112))] (.cond (LT 113) (LS [LO 114 (LK 5),LN (.store 3 (LT 2) (LT 114)),LO 3 (.mv LF)] .ret) .skip)) (.cV [LO 115 (LA 1 5),LO 116 (LL 115),LM 117 11,LO 118 (.lit [(.slice none 0 0)] 1 [(0,(LT 117))]),LO 119 (.app 1 24 (LT 116) (LT 118)),LO 120 (LA 1 5),LN (.store 1 (LT 120) (LT 119))])))) (.cV [LM 80 10,LO 81 (.bin .add (LT 80) (LI 1)),LM 10 81])))
def dS:aE:=(LS [LO 2 (.new [(.slice none 0 0),(.slice none 0 0),(.slice none 0 0)]),LO 3 (.mv LF)] (LS [LM 13 0,LO 14 (.chk (LT 13)),LO 15 (LA 0 14),LO 16 (LL 15),LO 17 (.len (LT 16)),LM 4 17] (LS [LO 18 (.build [(.slice none 0 0),(.slice none 0 0),(.slice none 0 0)] [(0,1),(1,1),(2,1)] []),LO 5 (.new [(.slice none 0 0),(.slice none 0 0),(.slice none 0 0)]),LN (.store 3 (LT 5) (LT 18))] (.seq (LS [LM 19 4,LO 20 (.bin .lss (LT 19) (LI 1)),LM 21 20,LZ 21 22 (.mv (LT 4)),LZ 21 23 (.bin .gtr (LT 22) (LI 6)),LO 24 (.pick (LT 21) LG (LT 23)),LM 25 24,LZ 25 26 (.mv (LT 0)),LZ 25 27 (.chk (LT 26)),LZ 25 28 (LA 1 27),LZ 25 29 (LL 28),LZ 25 30 (.len (LT 29)),LZ 25 31 (.mv (LT 4)),LZ 25 32 (.bin .neq (LT 30) (LT 31)),LO 33 (.pick (LT 25) LG (LT 32)),LM 34 33,LZ 34 35 (.mv (LT 0)),LZ 34 36 (.chk (LT 35)),LZ 34 37 (LA 2 36),LZ 34 38 (LL 37),LZ 34 39 (.len (LT 38)),LZ 34 40 (.mv (LT 4)),LZ 34 41 (.bin .neq (LT 39) (LT 40)),LO 42 (.pick (LT 34) LG (LT 41))] (.cond (LT 42) (LS [LO 43 (LK 5),LN (.store 3 (LT 2) (LT 43)),LO 3 (.mv LF)] .ret) .skip)) (LS [LM 45 0,LO 46 (.chk (LT 45)),LO 47 (LA 0 46),LO 48 (LL 47),LO 49 (.call 57 [(LT 48)]),LM 44 49,LO 50 (LX 44 0),LO 51 (LX 44 1),LM 6 50,LM 7 51] (LS [LM 53 0,LO 54 (.chk (LT 53)),LO 55 (LA 2 54),LO 56 (LL 55),LO 57 (.call 57 [(LT 56)]),LM 52 57,LO 58 (LX 52 0),LO 59 (LX 52 1),LM 8 58,LM 9 59] (.seq (LS [LM 60 7,LO 61 (.un .not (LT 60)),LM 62 61,LZ 62 63 (.mv (LT 9)),LZ 62 64 (.un .not (LT 63)),LO 65 (.pick (LT 62) LG (LT 64)),LM 66 65,LZ 66 67 (.mv (LT 6)),LZ 66 68 (.call 96 [(LT 67)]),LZ 66 69 (.un .not (LT 68)),LO 70 (.pick (LT 66) LG (LT 69)),LM 71 70,LZ 71 72 (.mv (LT 8)),LZ 71 73 (.call 58 [(LT 72)]),LZ 71 74 (.un .not (LT 73)),LO 75 (.pick (LT 71) LG (LT 74))] (.cond (LT 75) (LS [LO 76 (LK 5),LN (.store 3 (LT 2) (LT 76)),LO 3 (.mv LF)] .ret) .skip)) (.seq (LS [LO 10 (.mv (LI 0))] (.block 0 (.loop dA))) (LS [LM 121 6,LO 122 (LA 0 5),LN (.store 1 (LT 122) (LT 121))] (LS [LM 123 8,LO 124 (LA 2 5),LN (.store 1 (LT 124) (LT 123))] (LS [LO 125 (LK 5),LQ 126 (.call 166 [(LT 5)]),LN (.store 3 (LT 2) (LT 125)),LM 3 126] .ret)))))))))))
def fV:aU:=⟨127,[(.cell 2 true 3),(.tmp 3)],dS⟩
theorem MU:fQ 109=some fV:=by kernel_rfl
def eG:aE:=(.seq (LS [LM 44 7,LM 45 3,LO 46 (.bin .lss (LT 44) (LT 45))] (.cond (LT 46) .skip (.exit 4))) (.seq (.block 5 (.cV [LM 49 4,LM 50 6,LM 51 4,LM 52 6,LO 53 (.iaddr 1 (LT 51) (LT 52)),LO 54 (LL 53),LM 55 54,LZ 55 56 (.mv (LT 4)),LZ 55 57 (.mv (LT 7)),LZ 55 58 (.iaddr 1 (LT 56) (LT 57)),LZ 55 59 (LL 58),LZ 55 60 (.mv (LT 59)),LY 60 61 (.mv (LT 0)),LY 60 62 (.chk (LT 61)),LY 60 63 (LA 1 62),LY 60 64 (LL 63),LY 60 65 (.mv (LT 6)),LY 60 66 (.iaddr 1 (LT 64) (LT 65)),LY 60 67 (LL 66),LY 60 68 (.mv (LT 7)),LY 60 69 (.iaddr 3 (LT 67) (LT 68)),LY 60 70 (LK 69),LY 60 71 (.call 59 [(LT 70)]),LY 60 72 (.un .not (LT 71)),LZ 55 73 (.pick (LT 60) (LT 72) LF),LO 74 (.pick (LT 55) LG (LT 73)),LO 75 (.iaddr 1 (LT 49) (LT 50)),LN (.store 1 (LT 75) (LT 74))])) (.cV [LM 47 7,LO 48 (.bin .add (LT 47) (LI 1)),LM 7 48])))
def iM:aE:=(.seq (LS [LM 21 6,LM 22 3,LO 23 (.bin .lss (LT 21) (LT 22))] (.cond (LT 23) .skip (.exit 2))) (.seq (.block 3 (LS [LM 26 4,LM 27 6,LM 28 4,LM 29 6,LO 30 (.iaddr 1 (LT 28) (LT 29)),LO 31 (LL 30),LM 32 31,LZ 32 33 (.mv (LT 0)),LZ 32 34 (.chk (LT 33)),LZ 32 35 (LA 2 34),LZ 32 36 (LL 35),LZ 32 37 (.mv (LT 6)),LZ 32 38 (.iaddr 3 (LT 36) (LT 37)),LZ 32 39 (LK 38),LZ 32 40 (.call 59 [(LT 39)]),LZ 32 41 (.un .not (LT 40)),LO 42 (.pick (LT 32) LG (LT 41)),LO 43 (.iaddr 1 (LT 26) (LT 27)),LN (.store 1 (LT 43) (LT 42))] (LS [LO 7 (.mv (LI 0))] (.block 4 (.loop eG))))) (.cV [LM 24 6,LO 25 (.bin .add (LT 24) (LI 1)),LM 6 25])))
def tJ:aE:=(.seq (LS [LM 16 5,LM 17 3,LO 18 (.bin .lss (LT 16) (LT 17))] (.cond (LT 18) .skip (.exit 0))) (.seq (.block 1 (LS [LO 6 (.mv (LI 0))] (.block 2 (.loop iM)))) (.cV [LM 19 5,LO 20 (.bin .add (LT 19) (LI 1)),LM 5 20])))
def nO:aE:=(.seq (LS [LM 76 8,LM 77 3,LO 78 (.bin .lss (LT 76) (LT 77))] (.cond (LT 78) .skip (.exit 6))) (.seq (.block 7 (LS [LM 81 4,LM 82 8,LO 83 (.iaddr 1 (LT 81) (LT 82)),LO 84 (LL 83),LO 85 (.un .not (LT 84))] (.cond (LT 85) (LS [LO 2 (.mv LF)] .ret) .skip))) (.cV [LM 79 8,LO 80 (.bin .add (LT 79) (LI 1)),LM 8 80])))
def AM:aE:=(LS [LO 2 (.mv LF)] (LS [LM 9 0,LO 10 (.chk (LT 9)),LO 11 (LA 0 10),LO 12 (LL 11),LO 13 (.len (LT 12)),LM 3 13] (LS [LM 14 3,LO 15 (.make [(.bool false)] 1 (LT 14) (LT 14)),LM 4 15] (.seq (LS [LO 5 (.mv (LI 0))] (.block 0 (.loop tJ))) (.seq (LS [LO 8 (.mv (LI 0))] (.block 6 (.loop nO))) (LS [LO 2 (.mv LG)] .ret))))))
def C9:aU:=⟨86,[(.tmp 2)],AM⟩
theorem Ib:fQ 166=some C9:=by kernel_rfl
def gJ:aE:=(LS [LO 2 (.box (LT 0)),LO 4 (.mv (.const (.string ⟨#[]⟩))),LO 5 (.mv LF)] (LS [LO 11 (.call 109 [(LT 2)]),LM 10 11,LO 12 (LX 10 0),LO 13 (LX 10 1),LO 6 (.new [(.slice none 0 0),(.slice none 0 0),(.slice none 0 0)]),LN (.store 3 (LT 6) (LT 12)),LM 7 13] (LS [LM 15 1,LO 16 (.call 110 [(LT 15)]),LM 14 16,LO 17 (LX 14 0),LO 18 (LX 14 1),LO 8 (.new [(.bool false),(.slice none 0 0),(.slice none 0 0)]),LN (.store 3 (LT 8) (LT 17)),LM 9 18] (.seq (LS [LM 19 7,LO 20 (.un .not (LT 19)),LM 21 20,LZ 21 22 (.mv (LT 9)),LZ 21 23 (.un .not (LT 22)),LO 24 (.pick (LT 21) LG (LT 23)),LM 25 24,LZ 25 26 (LK 8),LZ 25 27 (.call 111 [(LT 26)]),LO 28 (.pick (LT 25) LG (LT 27))] (.cond (LT 28) (LS [LO 4 (.mv (.const (.string ⟨#[]⟩))),LO 5 (.mv LF)] .ret) .skip)) (LS [LO 29 (LK 8),LO 30 (LA 2 6),LO 31 (LL 30),LO 32 (.call 114 [(LT 6),(LT 29),(LT 31)]),LO 33 (.call 113 [(LT 6),(LT 32)]),LO 34 (.call 112 [(LT 33)]),LO 35 (LX 34 0),LO 36 (LX 34 1),LM 4 35,LM 5 36] .ret)))))
def jG:aU:=⟨37,[(.tmp 4),(.tmp 5)],gJ⟩
theorem Ih:fQ 45=some jG:=by kernel_rfl
def xT:aE:=(.seq (LS [LM 8 6,LM 9 1,LO 10 (.len (LT 9)),LO 11 (.bin .lss (LT 8) (LT 10))] (.cond (LT 11) .skip (.exit 0))) (.seq (.block 1 (.cV [LO 14 (LK 5),LM 15 0,LO 16 (.chk (LT 15)),LO 17 (LA 0 16),LO 18 (LL 17),LM 19 6,LO 20 (.iaddr 3 (LT 18) (LT 19)),LO 21 (LK 20),LM 22 1,LM 23 6,LO 24 (.iaddr 3 (LT 22) (LT 23)),LO 25 (LK 24),LQ 26 (.call 125 [(LT 21),(LT 25)]),LQ 27 (.call 79 [(LT 14),(LT 26)]),LN (.store 3 (LT 5) (LT 27))])) (.cV [LM 12 6,LO 13 (.bin .add (LT 12) (LI 1)),LM 6 13])))
def Es:aE:=(LS [LO 4 (.new [(.bool false),(.slice none 0 0),(.slice none 0 0)])] (LS [LO 7 (.call 77 []),LO 5 (.new [(.bool false),(.slice none 0 0),(.slice none 0 0)]),LN (.store 3 (LT 5) (LT 7))] (.seq (LS [LO 6 (.mv (LI 0))] (.block 0 (.loop xT))) (LS [LO 28 (LK 5),LN (.store 3 (LT 4) (LT 28))] .ret))))
def G8:aU:=⟨29,[(.cell 4 true 3)],Es⟩
theorem M5:fQ 113=some G8:=by kernel_rfl
def xR:aE:=(.seq (LS [LM 26 11,LM 27 7,LO 28 (.bin .lss (LT 26) (LT 27))] (.cond (LT 28) .skip (.exit 2))) (.seq (.block 3 (.cV [LM 31 10,LM 32 0,LO 33 (.chk (LT 32)),LO 34 (LA 1 33),LO 35 (LL 34),LM 36 9,LO 37 (.iaddr 1 (LT 35) (LT 36)),LO 38 (LL 37),LM 39 11,LO 40 (.iaddr 3 (LT 38) (LT 39)),LO 41 (LK 40),LO 42 (.call 157 [(LT 41)]),LO 43 (.lit [(.bool false),(.slice none 0 0),(.slice none 0 0)] 1 [(0,(LT 42))]),LO 44 (.app 3 56 (LT 31) (LT 43)),LM 10 44])) (.cV [LM 29 11,LO 30 (.bin .add (LT 29) (LI 1)),LM 11 30])))
def yD:aE:=(.seq (LS [LM 20 9,LM 21 7,LO 22 (.bin .lss (LT 20) (LT 21))] (.cond (LT 22) .skip (.exit 0))) (.seq (.block 1 (LS [LO 25 (.lit [(.bool false),(.slice none 0 0),(.slice none 0 0)] 0 []),LM 10 25] (.seq (LS [LO 11 (.mv (LI 0))] (.block 2 (.loop xR))) (LS [LM 45 10,LM 46 9,LM 47 0,LO 48 (.chk (LT 47)),LO 49 (LA 1 48),LO 50 (LL 49),LM 51 9,LO 52 (.iaddr 1 (LT 50) (LT 51)),LO 53 (LL 52),LQ 54 (.call 60 [(LT 53)]),LM 55 0,LO 56 (.chk (LT 55)),LO 57 (LA 2 56),LO 58 (LL 57),LM 59 9,LO 60 (.iaddr 3 (LT 58) (LT 59)),LO 61 (LK 60),LQ 62 (.call 79 [(LT 54),(LT 61)]),LO 63 (LK 4),LQ 64 (.call 79 [(LT 62),(LT 63)]),LO 65 (.iaddr 3 (LT 45) (LT 46)),LN (.store 3 (LT 65) (LT 64))] (.cV [LM 66 8,LM 67 10,LM 68 2,LM 69 9,LO 70 (.iaddr 3 (LT 68) (LT 69)),LO 71 (LK 70),LO 72 (.lit [(.bool false),(.slice none 0 0),(.slice none 0 0)] 1 [(0,(LT 71))]),LO 73 (.app 3 56 (LT 67) (LT 72)),LO 74 (.lit [(.slice none 0 0)] 1 [(0,(LT 73))]),LO 75 (.app 1 24 (LT 66) (LT 74)),LM 8 75]))))) (.cV [LM 23 9,LO 24 (.bin .add (LT 23) (LI 1)),LM 9 24])))
def En:aE:=(LS [LO 4 (.box (LT 1)),LO 6 (.mv (.const (.slice none 0 0)))] (LS [LM 14 0,LO 15 (.chk (LT 14)),LO 16 (LA 0 15),LO 17 (LL 16),LO 18 (.len (LT 17)),LM 7 18] (LS [LO 19 (.lit [(.slice none 0 0)] 0 []),LM 8 19] (.seq (LS [LO 9 (.mv (LI 0))] (.block 0 (.loop yD))) (LS [LM 77 8,LO 78 (.call 134 [(LT 77)]),LM 76 78,LO 79 (LX 76 0),LO 80 (LX 76 1),LM 12 79,LM 13 80] (LS [LM 81 12,LM 6 81] .ret))))))
def HD:aU:=⟨82,[(.tmp 6)],En⟩
theorem MR:fQ 114=some HD:=by kernel_rfl
end Go.PM
namespace Go.PM
open Go.Lib
def SvS (s:tA) (lo hi:Nat) (H:aA) (v:VV):Prop:=(∃a b c,v = .agg [a,b,c]∧bL a=true∧bL b=true∧bL c=true∧∀n,n≤lo→jS n a=true∧jS n b=true∧jS n c=true)∧Jq (tR s) lo hi H v
theorem SvS.dB {s:tA}:∀ {lo hi H H' v},SvS s lo hi H v→jT lo hi H H'→SvS s lo hi H' v:=fun h hk=>⟨h.1,h.2.dB hk⟩
theorem SvS.wide {s:tA}:∀ {lo hi fZ qM:Nat} {H:aA} {v:VV},SvS s lo hi H v→fZ≤lo→hi≤qM→SvS s fZ qM H v:=fun h hl hh=>by
 obtain⟨⟨a,b,c,h1,h2,h3,h4,h5⟩,h6⟩:=h
 exact⟨⟨a,b,c,h1,h2,h3,h4,fun n hn=>h5 n (by omega)⟩,fun H' hk=>h6 H' (hk.sub hl hh)⟩
theorem SvS.ag {s:tA} {lo hi:Nat} {H:aA} {v:VV} (h:SvS s lo hi H v) (n:Nat) (hn:n≤lo):∃a b c,v = .agg [a,b,c]∧bL a=true∧bL b=true∧bL c=true∧jS n a=true∧jS n b=true∧jS n c=true:=by
 obtain⟨⟨a,b,c,h1,h2,h3,h4,h5⟩,_⟩:=h
 exact⟨a,b,c,h1,h2,h3,h4,h5 n hn⟩
end Go.PM
namespace Go.PM
open Go.Lib
theorem aeI (b:List Rat) (g:List (List Rat)) (e:List Rat):aX (Cr aN b g e)=true:=by
 show aO [aC aN b,aC (aC aN) g,aC aN e]=true
 simp only[aO,rL,aeL,Bool.and_self]
theorem LsO.own {α:Type} {f:α→VV} {e lo hi n:Nat} {H:aA} {v:VV} {o:Option (List α)} (h:LsO f e o lo hi H v) (hn:n≤lo):jS n v=true:=by
 cases o with
 |
  none =>
  have h:v = .tree [] .nil:=h
  subst h
  rfl
 |
  some ys =>
  obtain⟨b,g,c,h1,h2,rfl,h3⟩:=h
  simp[jS];omega
theorem Uy.own {α:Type} {f:α→VV} {e lo hi n:Nat} {H:aA} {v:VV} {cE:List (List α)} (h:Uy f e cE lo hi H v) (hn:n≤lo):jS n v=true:=by
 rcases h with⟨rfl,_⟩ | ⟨b,g,rs,q1,q2,rfl,_⟩
 ·rfl
 ·simp[jS];omega
end Go.PM
namespace Go.PM
open Go.Lib
end Go.PM
namespace Go.PM
open Go.Lib
end Go.PM
namespace Go.PM
open Go.Lib
end Go.PM
namespace Go.PM
open Go.Lib
section
variable {b:List Rat} {g:List (List Rat)} {e row:List Rat} {n i:Nat} {st:List Bool}
abbrev svP (b:List Rat) (g:List (List Rat)) (e:List Rat):VV:=(Cr aN b g e).cF 0
theorem U7 {q:Rat} (h:0≤q):decide (0<q) = !decide (q=0):=by
 by_cases hz:q=0
 ·rw[decide_eq_true hz,hz];rfl
 ·rw[decide_eq_false hz,decide_eq_true (by grind)];rfl
set_option maxHeartbeats 2000000 in
theorem amC (hn:n≤1000000) (hi:i<n) (xA:st.length=n) (lX:row.length=n) (WL:g[i]? = some row) (lR:∀q∈row,0≤q) {r:Int} {ρ:cT} {Q:VQ} (g0:ρ 0=svP b g e) (g3:ρ 3=VI n) (g4:ρ 4 = .ref 0 0 0 n n) (g5:ρ 5=VI r) (g6:ρ 6=VI i) (g7:ρ 7=VI 0)
  (hQ:∀aP,aP 0=svP b g e→aP 3=VI n→aP 4 = .ref 0 0 0 n n→aP 5=VI r→aP 6=VI i→Q .normal aP [tS (Q0 row i st n)]) :
  VW ⟨true,false⟩ 0 (.loop eG) (tI 4 Q) ρ [tS st]:=by
 refine aR (fun(j:Nat) aP H=>j≤n∧H=[tS (Q0 row i st j)]∧aP 0=svP b g e∧aP 3=VI n∧aP 4 = .ref 0 0 0 n n∧aP 5=VI r∧aP 6=VI i∧aP 7=VI j) (fun j=>n-j) 0 ⟨aKP _,rfl,g0,g3,g4,g5,g6,g7⟩ ?_
 clear g0 g3 g4 g5 g6 g7
 rintro j aP H ⟨hj,rfl,g0,g3,g4,g5,g6,g7⟩
 have hl:(Q0 row i st j).length=n:=by rw[TB,xA]
 have Cd:Q0 row i st (j+1)=orJ row i (Q0 row i st j) j:=sB
 generalize hs:Q0 row i st j=s at *
 by_cases bX:(j:Int)<(n:Int)
 ·have EY:j<n:=by omega
  obtain⟨q,hq⟩:∃q,row[j]? = some q:=⟨_,aKs (by omega)⟩
  have wi:IntKind.i64.wrap ((j:Int)+1)=((j+1:Nat):Int):=wrapN (j+1) (by omega) (by omega)
  have e2:=rA q
  have hpz:=U7 (lR q (aLf hq))
  have a1:=fun K=>xS (st:=s) (n:=n) hi K
  have a2:=fun K=>xX (st:=s) (i:=i) (by omega) K
  have a3:=fun K=>xS (st:=s) (n:=n) EY K
  have a4:=fun K=>xX (st:=s) (i:=j) (by omega) K
  have a5:=fun v K=>Dy (st:=s) (i:=i) (by omega) v K
  have a6:=fun H=>aI (f:=aC aN) (t := .op) (H:=H) (size:=1) (k := .i64) WL rfl
  have a7:=fun H=>aI (f:=aN) (t := .op) (H:=H) (size:=3) (k := .i64) hq rfl
  have pU:∀v:Bool,v=(s.getD i false||(decide (0<q)&&s.getD j false))→s.set i v=Q0 row i st (j+1):=by
   intro v hv
   rw[Cd,orJ,hv,aKi (l:=row),hq,aNx]
  cases XO:s.getD i false with
  |
   true =>
   rw[XO] at a2
   simp only[eG,Cr,g0,g3,g4,g6,g7,bX,a1,a2,a5,wi,eH,VX,Nat.reduceEqDiff,Nat.reduceAdd,Nat.reduceLeDiff,Nat.reduceLT,Nat.reduceSub]
   exact⟨j+1,by omega,by omega,by rw[←pU true (by rw[XO];rfl)],by (repeat' apply aL1)<;>first | rfl | trivial | assumption⟩
  |
   false =>
   rw[XO] at a2
   cases hsj:s.getD j false with
   |
    false =>
    rw[hsj] at a4
    simp only[eG,Cr,g0,g3,g4,g6,g7,bX,a1,a2,a3,a4,a5,wi,eH,VX,Nat.reduceEqDiff,Nat.reduceAdd,Nat.reduceLeDiff,Nat.reduceLT,Nat.reduceSub]
    exact⟨j+1,by omega,by omega,by rw[←pU false (by rw[XO,hsj,Bool.and_false];rfl)],by (repeat' apply aL1)<;>first | rfl | trivial | assumption⟩
   |
    true =>
    rw[hsj] at a4
    by_cases hz:q=0
    ·rw[decide_eq_true hz] at e2 hpz
     simp only[eG,Cr,g0,g3,g4,g6,g7,bX,a1,a2,a3,a4,a5,a6,a7,e2,wi,dT,cJ,aLT,aKF,aL5,eH,VX,Nat.reduceEqDiff,Nat.reduceAdd,Nat.reduceLeDiff,Nat.reduceLT,Nat.reduceSub]
     exact⟨j+1,by omega,by omega,by rw[←pU false (by rw[XO,hpz];rfl)],by (repeat' apply aL1)<;>first | rfl | trivial | assumption⟩
    ·rw[decide_eq_false hz] at e2 hpz
     simp only[eG,Cr,g0,g3,g4,g6,g7,bX,a1,a2,a3,a4,a5,a6,a7,e2,wi,dT,cJ,aLT,aKF,aL5,eH,VX,Nat.reduceEqDiff,Nat.reduceAdd,Nat.reduceLeDiff,Nat.reduceLT,Nat.reduceSub]
     exact⟨j+1,by omega,by omega,by rw[←pU true (by rw[XO,hsj,hpz];rfl)],by (repeat' apply aL1)<;>first | rfl | trivial | assumption⟩
 ·have Yp:j=n:=by omega
  subst Yp
  subst hs
  simp only[eG,g3,g7,bX,eH,VX,Nat.reduceEqDiff,Nat.reduceAdd,Nat.reduceLeDiff,Nat.reduceLT,Nat.reduceSub]
  refine hQ _ ?_ ?_ ?_ ?_ ?_<;>first | exact g0 | exact g3 | exact g4 | exact g5 | exact g6 | rfl
set_option maxHeartbeats 2000000 in
theorem ajQ (hn:n≤1000000) (xA:st.length=n) (hg:g.length=n) (WL:∀w∈g,w.length=n∧∀q∈w,0≤q) (he:e.length=n) (hep:∀q∈e,0≤q) {r:Int} {ρ:cT} {Q:VQ} (g0:ρ 0=svP b g e) (g3:ρ 3=VI n) (g4:ρ 4 = .ref 0 0 0 n n) (g5:ρ 5=VI r) (g6:ρ 6=VI 0)
  (hQ:∀aP,aP 0=svP b g e→aP 3=VI n→aP 4 = .ref 0 0 0 n n→aP 5=VI r→Q .normal aP [tS (mH g e n st n)]) :
  VW ⟨true,false⟩ 0 (.loop iM) (tI 2 Q) ρ [tS st]:=by
 refine aR (fun(i:Nat) aP H=>i≤n∧H=[tS (mH g e n st i)]∧aP 0=svP b g e∧aP 3=VI n∧aP 4 = .ref 0 0 0 n n∧aP 5=VI r∧aP 6=VI i) (fun i=>n-i) 0 ⟨aKP _,rfl,g0,g3,g4,g5,g6⟩ ?_
 clear g0 g3 g4 g5 g6
 rintro i aP H ⟨hi,rfl,g0,g3,g4,g5,g6⟩
 have hl:(mH g e n st i).length=n:=by rw[Iq,xA]
 have Cd:mH g e n st (i+1)=Mq g e n (mH g e n st i) i:=sB
 generalize hs:mH g e n st i=s at *
 by_cases bX:(i:Int)<(n:Int)
 ·have EY:i<n:=by omega
  obtain⟨q,hq⟩:∃q,e[i]? = some q:=⟨_,aKs (by omega)⟩
  obtain⟨row,hr⟩:∃row,g[i]? = some row:=⟨_,aKs (by omega)⟩
  have AU:=WL row (aLf hr)
  have wi:IntKind.i64.wrap ((i:Int)+1)=((i+1:Nat):Int):=wrapN (i+1) (by omega) (by omega)
  have e2:=rA q
  have hpz:=U7 (hep q (aLf hq))
  have a1:=fun K=>xS (st:=s) (n:=n) EY K
  have a2:=fun K=>xX (st:=s) (i:=i) (by omega) K
  have a5:=fun v K=>Dy (st:=s) (i:=i) (by omega) v K
  have a7:=fun H=>aI (f:=aN) (t := .op) (H:=H) (size:=3) (k := .i64) hq rfl
  have pU:∀v:Bool,v=(s.getD i false||decide (0<q))→Q0 row i (s.set i v) n=mH g e n st (i+1):=by
   intro v hv
   rw[Cd,Mq,hv,aKi (l:=g),hr,aNx,aKi (l:=e),hq,aNx]
  have post:∀(v:Bool) (tG:cT),v=(s.getD i false||decide (0<q))→tG 0=svP b g e→tG 3=VI n→tG 4 = .ref 0 0 0 n n→tG 5=VI r→tG 6=VI i→tG 7=VI 0 →
    ∀(Q':VQ),(∀wB,wB 0=svP b g e→wB 3=VI n→wB 4 = .ref 0 0 0 n n→wB 5=VI r→wB 6=VI i→Q' .normal wB [tS (mH g e n st (i+1))])→VW ⟨true,false⟩ 0 (.loop eG) (tI 4 Q') tG [tS (s.set i v)]:=by
   intro v tG hv k0 k3 k4 k5 k6 k7 Q' hQ'
   refine amC hn EY (by rw[List.length_set,hl]) AU.1 hr AU.2 k0 k3 k4 k5 k6 k7 fun wB m0 m3 m4 m5 m6 => ?_
   rw[pU v hv]
   exact hQ' wB m0 m3 m4 m5 m6
  cases XO:s.getD i false with
  |
   true =>
   rw[XO] at a2 post
   simp only[iM,Cr,g0,g3,g4,g6,bX,a1,a2,a5,eH,VX,Nat.reduceEqDiff,Nat.reduceAdd,Nat.reduceLeDiff,Nat.reduceLT,Nat.reduceSub]
   refine post true _ (by simp) ?_ ?_ ?_ ?_ ?_ ?_ _ fun wB m0 m3 m4 m5 m6 => ?_
   all_goals first | exact g0 | exact g3 | exact g4 | exact g5 | exact g6 | rfl | skip
   simp only[m6,wi,eH,VX,Nat.reduceEqDiff,Nat.reduceAdd,Nat.reduceLeDiff,Nat.reduceLT,Nat.reduceSub]
   exact⟨i+1,by omega,by omega,by (repeat' apply aL1)<;>first | rfl | trivial | assumption⟩
  |
   false =>
   rw[XO] at a2 post
   by_cases hz:q=0
   ·rw[decide_eq_true hz] at e2 hpz
    simp only[iM,Cr,g0,g3,g4,g6,bX,a1,a2,a5,a7,e2,dT,cJ,aLT,aKF,aL5,eH,VX,Nat.reduceEqDiff,Nat.reduceAdd,Nat.reduceLeDiff,Nat.reduceLT,Nat.reduceSub]
    refine post false _ (by rw[hpz];rfl) ?_ ?_ ?_ ?_ ?_ ?_ _ fun wB m0 m3 m4 m5 m6 => ?_
    all_goals first | exact g0 | exact g3 | exact g4 | exact g5 | exact g6 | rfl | skip
    simp only[m6,wi,eH,VX,Nat.reduceEqDiff,Nat.reduceAdd,Nat.reduceLeDiff,Nat.reduceLT,Nat.reduceSub]
    exact⟨i+1,by omega,by omega,by (repeat' apply aL1)<;>first | rfl | trivial | assumption⟩
   ·rw[decide_eq_false hz] at e2 hpz
    simp only[iM,Cr,g0,g3,g4,g6,bX,a1,a2,a5,a7,e2,dT,cJ,aLT,aKF,aL5,eH,VX,Nat.reduceEqDiff,Nat.reduceAdd,Nat.reduceLeDiff,Nat.reduceLT,Nat.reduceSub]
    refine post true _ (by rw[hpz];rfl) ?_ ?_ ?_ ?_ ?_ ?_ _ fun wB m0 m3 m4 m5 m6 => ?_
    all_goals first | exact g0 | exact g3 | exact g4 | exact g5 | exact g6 | rfl | skip
    simp only[m6,wi,eH,VX,Nat.reduceEqDiff,Nat.reduceAdd,Nat.reduceLeDiff,Nat.reduceLT,Nat.reduceSub]
    exact⟨i+1,by omega,by omega,by (repeat' apply aL1)<;>first | rfl | trivial | assumption⟩
 ·have nC:i=n:=by omega
  subst nC
  subst hs
  simp only[iM,g3,g6,bX,eH,VX,Nat.reduceEqDiff,Nat.reduceAdd,Nat.reduceLeDiff,Nat.reduceLT,Nat.reduceSub]
  refine hQ _ ?_ ?_ ?_ ?_<;>first | exact g0 | exact g3 | exact g4 | exact g5 | rfl
theorem Vt (b:List Rat) (g:List (List Rat)) (e:List Rat):aX (svP b g e)=true:=aeI b g e
set_option maxHeartbeats 1000000 in
theorem H9 (hn:n≤1000000) (hb:b.length=n) (hg:g.length=n) (WL:∀w∈g,w.length=n∧∀q∈w,0≤q) (he:e.length=n) (hep:∀q∈e,0≤q):TC 166 [svP b g e] (VB ((qG g e n n).all id)):=by
 refine TC.walk ⟨true,false⟩ Ib rfl (aL9 rfl) (FR (Vt b g e)) rfl ?_
 have e0:∀H,Bc [.bool false] 1 (VI n) (VI n) H=some (.ref H.length 0 0 n n,H++[tS (List.replicate n false)]):=fun H=>oG (f:=fun b=>VB b) rfl (by omega) (by omega)
 have xD:((b.length:Nat):Int)=(n:Int):=by omega
 simp only[C9,AM,Cr,xD,e0,dT,aLT,aKF,aL5,aLD,aLY,eH,VX,Nat.reduceEqDiff,Nat.reduceAdd,Nat.reduceLeDiff,Nat.reduceLT,Nat.reduceSub]
 refine aR (fun(i:Nat) aP H=>i≤n∧H=[tS (qG g e n i)]∧aP 0=svP b g e∧aP 3=VI n∧aP 4 = .ref 0 0 0 n n∧aP 5=VI i) (fun i=>n-i) 0 ⟨aKP _,rfl,rfl,rfl,rfl,rfl⟩ ?_
 rintro i aP H ⟨hi,rfl,g0,g3,g4,g5⟩
 have hl:=D7 g e n i
 have Cd:qG g e n (i+1)=mH g e n (qG g e n i) n:=sB
 by_cases bX:(i:Int)<(n:Int)
 ·have wi:IntKind.i64.wrap ((i:Int)+1)=((i+1:Nat):Int):=wrapN (i+1) (by omega) (by omega)
  simp only[tJ,g3,g5,bX,eH,VX,Nat.reduceEqDiff,Nat.reduceAdd,Nat.reduceLeDiff,Nat.reduceLT,Nat.reduceSub]
  refine ajQ (r:=(i:Int)) (b:=b) hn hl hg WL he hep ?_ ?_ ?_ ?_ ?_ fun wB m0 m3 m4 m5 => ?_
  all_goals first | exact g0 | exact g3 | exact g4 | exact g5 | rfl | skip
  simp only[m5,wi,eH,VX,Nat.reduceEqDiff,Nat.reduceAdd,Nat.reduceLeDiff,Nat.reduceLT,Nat.reduceSub]
  exact⟨i+1,by omega,by omega,by rw[Cd],by (repeat' apply aL1)<;>first | rfl | trivial | assumption⟩
 ·have nC:i=n:=by omega
  subst nC
  simp only[tJ,g3,g5,bX,eH,VX,Nat.reduceEqDiff,Nat.reduceAdd,Nat.reduceLeDiff,Nat.reduceLT,Nat.reduceSub]
  generalize qG g e i i=s at *
  refine aR (fun(j:Nat) aP H=>j≤i∧H=[tS s]∧(∀x∈s.take j,x=true)∧aP 3=VI i∧aP 4 = .ref 0 0 0 i i∧aP 8=VI j) (fun j=>i-j) 0 ⟨aKP _,rfl,by simp,by simp only[eH,VX,Nat.reduceEqDiff,Nat.reduceAdd,Nat.reduceLeDiff,Nat.reduceLT,Nat.reduceSub];exact g3,by simp only[eH,VX,Nat.reduceEqDiff,Nat.reduceAdd,Nat.reduceLeDiff,Nat.reduceLT,Nat.reduceSub];exact g4,rfl⟩ ?_
  clear g0 g3 g4 g5 bX
  rintro j aP H ⟨hj,rfl,ht,g3,g4,g8⟩
  by_cases bX:(j:Int)<(i:Int)
  ·have DV:j<i:=by omega
   have wj:IntKind.i64.wrap ((j:Int)+1)=((j+1:Nat):Int):=wrapN (j+1) (by omega) (by omega)
   have a3:=fun K=>xS (st:=s) (n:=i) DV K
   have a4:=fun K=>xX (st:=s) (i:=j) (by omega) K
   obtain⟨x,hx⟩:∃x,s[j]? = some x:=⟨_,aKs (by omega)⟩
   have hxd:s.getD j false=x:=by rw[aKi,hx];rfl
   rw[hxd] at a4
   cases x with
   |
    false =>
    have:s.all id=false:=by
     cases h:s.all id with
     | false=>rfl
     | true=>exact absurd (aKz.1 h false (aLf hx)) (by decide)
    rw[this]
    simp only[nO,g3,g4,g8,bX,a3,a4,aNZ,eH,VX,Nat.reduceEqDiff,Nat.reduceAdd,Nat.reduceLeDiff,Nat.reduceLT,Nat.reduceSub]
    exact aH rfl
   |
    true =>
    simp only[nO,g3,g4,g8,bX,a3,a4,wj,aN0,eH,VX,Nat.reduceEqDiff,Nat.reduceAdd,Nat.reduceLeDiff,Nat.reduceLT,Nat.reduceSub]
    refine⟨j+1,by omega,by omega,fun y hy => ?_,by (repeat' apply aL1)<;>first | rfl | trivial | assumption⟩
    rw[sG hx] at hy
    rcases List.mem_append.1 hy with h | h
    ·exact ht y h
    ·rw[List.mem_singleton] at h
     exact h
  ·have Yp:j=i:=by omega
   subst Yp
   have:s.all id=true:=by
    rw[List.take_of_length_le (by omega)] at ht
    exact aKz.2 ht
   rw[this]
   simp only[nO,g3,g8,bX,eH,VX,Nat.reduceEqDiff,Nat.reduceAdd,Nat.reduceLeDiff,Nat.reduceLT,Nat.reduceSub]
   exact aH rfl
end
def CR (c:List (List ByteArray)):Nat→List (List Rat)
 | 0=>[]
 |
  i+1=>match iR c i,iE c.length i (c.getD i []) with
  | some out,some r=>out++[r]
  | some out,none=>out
  | none,_=>CR c i
theorem UH {c:List (List ByteArray)} {i:Nat} {out:List (List Rat)} (h:iR c i=some out) (hr:iE c.length i (c.getD i [])=none):∀j,i+1≤j→CR c j=out:=by
 have hn:iR c (i+1)=none:=by rw[iR,h,hr]
 intro j hj
 induction j with
 | zero=>omega
 |
  succ j ih =>
  by_cases he:i=j
  ·subst he
   rw[CR,h,hr]
  ·rw[CR,DR hn j (by omega)]
   exact ih (by omega)
def MQ (s:tA):List (List Rat):=if (1≤s.b.length∧s.b.length≤6)∧s.g.length=s.b.length∧s.e.length=s.b.length then
  match mR s.b,sY s.e with
  | some _,some r=>if (r.any fun q=>decide (q<0))=false then CR s.g s.b.length else []
  | _,_=>[]
 else []
def Nc (s:tA):VV:=match eI s with
 | some x => .dU [Cr aN x.1 x.2.1 x.2.2,VB (BR x)]
 | none => .dU [.agg [.tree [] .op,aC (aC aN) (MQ s),.tree [] .op],VB false]
theorem Ul (b:List Rat) (g:List (List Rat)) (e:List Rat):gW (Cr aN b g e)=true:=by
 show sO [aC aN b,aC (aC aN) g,aC aN e]=true
 simp only[sO,Gi,ajK,Bool.and_self]
theorem alY (s:tA):gW (Nc s)=true:=by
 unfold Nc
 split
 ·exact zK (Ul _ _ _) rfl
 ·exact zK (Ul [] _ []) rfl
end Go.PM
namespace Go.PM
open Go.Lib
theorem Nf {out:List (List Rat)} (h:out.length=0) (K:aA):PM.fz 6 K (.tree [] .nil)=some (aC (aC aN) out):=by
 have ho:out=[]:=aNg.1 h
 subst ho
 exact BX
theorem Ni {out:List (List Rat)} {i:Nat} {X Y:fK} (h:out.length=i+1):PM.fz 6 [X,Y,.row i (out.map (aC aN)) 1 true] (.ref 2 i 0 (i+1) (i+1))=some (aC (aC aN) out):=by
 have:=Gn (d:=4) (c:=i+1) (b:=2) (g:=i) (e:=1) (w:=true) (H:=[X,Y,.row i (out.map (aC aN)) 1 true]) (rL ·) (by rw[dZ,dZ,aT]) (by omega)
 rw[h] at this
 exact this
def XZ (i:Nat) (out:List (List Rat)):aA:=match i with
 | 0=>[kS,kS]
 | i+1=>[kS,.row 0 [.agg [.tree [] .nil,.ref 2 i 0 (i+1) (i+1),.tree [] .nil]] 3 true,.row i (out.map (aC aN)) 1 true]
theorem Wr {H:aA} {u v:VV} (h:PM.fz 6 H u=some v):PM.fz depth H (.dU [.agg [.tree [] .nil,u,.tree [] .nil],VB false])=some (.dU [.agg [.tree [] .op,v,.tree [] .op],VB false]):=by
 refine bO (d:=6) (Gh (d:=5) ?_) (aL (v:=VB false) rfl)
 rw[aLI,BX,aLI,h,aLI,BX]
 rfl
set_option maxHeartbeats 4000000 in
set_option maxRecDepth 20000 in
theorem MH (s:tA) (hb:N5 s):TC 109 [(tR s).cF 0] (Nc s):=by
 refine TC.walk ⟨true,false⟩ MU rfl (aL9 rfl) (FR (show aX (tR s)=true from mT _)) (alY _) ?_
 have yW:=hb.b4
 have hel:=hb.e4
 have bad:eI s=none→MQ s=[]→∀K,PM.fz depth K (.dU [.agg [.tree [] .nil,.tree [] .nil,.tree [] .nil],VB false])=some (Nc s):=fun h hp K=>by
  have:Nc s = .dU [.agg [.tree [] .op,.tree [] .op,.tree [] .op],VB false]:=by unfold Nc;rw[h,hp];rfl
  rw[this]
  exact Wr BX
 have st1:bK 0 3 (.ptr 1 0 0 0) (.agg [.tree [] .nil,.tree [] .nil,.tree [] .nil]) [kS,kS]=some [kS,kS]:=by
  rw[bR (e:=3) (g:=0) (j:=0) (dZ.trans aT) (by exact aNA) (by omega) rfl rfl]
  rfl
 have IM:bK 0 3 (.ptr 0 0 0 0) (.agg [.tree [] .nil,.tree [] .nil,.tree [] .nil]) [kS,kS]=some [kS,kS]:=by
  rw[bR (e:=3) (g:=0) (j:=0) aT (by exact aNA) (aKl _) rfl rfl]
  rfl
 have Sm:bI true 3 (.ptr 0 0 0 0) [kS,kS]=some (.agg [.tree [] .nil,.tree [] .nil,.tree [] .nil]):=rfl
 have ld1:bI true 3 (.ptr 1 0 0 0) [kS,kS]=some (.agg [.tree [] .nil,.tree [] .nil,.tree [] .nil]):=rfl
 by_cases h1:(s.b.length:Int)<1
 ·have bad:=bad (by unfold eI;exact if_neg (by omega)) (by unfold MQ;exact if_neg (by omega))
  simp only[fV,dS,tR,h1,IM,st1,Sm,ld1,dT,aKF,aL5,aLT,aLD,aLY,aLL,aKv,eH,VX,Nat.reduceEqDiff,Nat.reduceAdd,Nat.reduceLeDiff,Nat.reduceLT,Nat.reduceSub]
  exact bad _
 by_cases h6:(6:Int)<(s.b.length:Int)
 ·have bad:=bad (by unfold eI;exact if_neg (by omega)) (by unfold MQ;exact if_neg (by omega))
  simp only[fV,dS,tR,h1,h6,IM,st1,Sm,ld1,dT,aKF,aL5,aLT,aLD,aLY,aLL,aKv,eH,VX,Nat.reduceEqDiff,Nat.reduceAdd,Nat.reduceLeDiff,Nat.reduceLT,Nat.reduceSub]
  exact bad _
 by_cases hg:(s.g.length:Int)=(s.b.length:Int)
 case neg =>
  have bad:=bad (by unfold eI;exact if_neg (by omega)) (by unfold MQ;exact if_neg (by omega))
  simp only[fV,dS,tR,h1,h6,hg,IM,st1,Sm,ld1,dT,aKF,aL5,aLT,aLD,aLY,aLL,aKv,ne_eq,not_false_eq_true,decide_true,eH,VX,Nat.reduceEqDiff,Nat.reduceAdd,Nat.reduceLeDiff,Nat.reduceLT,Nat.reduceSub]
  exact bad _
 by_cases he:(s.e.length:Int)=(s.b.length:Int)
 case neg =>
  have bad:=bad (by unfold eI;exact if_neg (by omega)) (by unfold MQ;exact if_neg (by omega))
  simp only[fV,dS,tR,h1,h6,hg,he,IM,st1,Sm,ld1,dT,aKF,aL5,aLT,aLD,aLY,aLL,aKv,ne_eq,not_false_eq_true,not_true_eq_false,decide_true,decide_false,eH,VX,Nat.reduceEqDiff,Nat.reduceAdd,Nat.reduceLeDiff,Nat.reduceLT,Nat.reduceSub]
  exact bad _
 have uW:(1≤s.b.length∧s.b.length≤6)∧s.g.length=s.b.length∧s.e.length=s.b.length:=by omega
 have e1:=By s.b (by omega) hb.bs
 have e2:=By s.e (by omega) hb.es
 cases hwr:sY s.b with
 |
  none =>
  rw[hwr,Ee] at e1
  have hw:=Mi hwr
  have bad:=bad (by unfold eI;rw[if_pos uW,hw]) (by unfold MQ;rw[if_pos uW,hw])
  cases hr:sY s.e with
  |
   none =>
   rw[hr,Ee] at e2
   simp only[fV,dS,tR,h1,h6,hg,he,e1,e2,IM,st1,Sm,ld1,dT,aKF,aL5,aLT,aLD,aLY,aLL,aKv,ne_eq,not_true_eq_false,decide_false,eH,VX,Nat.reduceEqDiff,Nat.reduceAdd,Nat.reduceLeDiff,Nat.reduceLT,Nat.reduceSub]
   exact bad _
  |
   some r =>
   rw[hr,DE] at e2
   simp only[fV,dS,tR,h1,h6,hg,he,e1,e2,IM,st1,Sm,ld1,dT,aKF,aL5,aLT,aLD,aLY,aLL,aKv,ne_eq,not_true_eq_false,decide_false,eH,VX,Nat.reduceEqDiff,Nat.reduceAdd,Nat.reduceLeDiff,Nat.reduceLT,Nat.reduceSub]
   exact bad _
 |
  some w =>
  rw[hwr,DE] at e1
  obtain⟨hwb,hwl,_⟩:=nD hwr
  have QW:=Kb w hwb hwl
  cases hr:sY s.e with
  |
   none =>
   rw[hr,Ee] at e2
   have bad:=bad (by unfold eI;rw[if_pos uW,hr];cases mR s.b<;>rfl) (by unfold MQ;rw[if_pos uW,hr];cases mR s.b<;>rfl)
   simp only[fV,dS,tR,h1,h6,hg,he,e1,e2,IM,st1,Sm,ld1,dT,aKF,aL5,aLT,aLD,aLY,aLL,aKv,ne_eq,not_true_eq_false,decide_false,eH,VX,Nat.reduceEqDiff,Nat.reduceAdd,Nat.reduceLeDiff,Nat.reduceLT,Nat.reduceSub]
   exact bad _
  |
   some r =>
   rw[hr,DE] at e2
   obtain⟨AX,AU,aeA⟩:=nD hr
   cases hww:kG w with
   |
    false =>
    rw[hww] at QW
    have hw:mR s.b=none:=by rw[Ft hwr,if_neg (by simp[hww])]
    have bad:=bad (by unfold eI;rw[if_pos uW,hw]) (by unfold MQ;rw[if_pos uW,hw])
    simp only[fV,dS,tR,h1,h6,hg,he,e1,QW,e2,IM,st1,Sm,ld1,dT,aKF,aL5,aLT,aLD,aLY,aLL,aKv,ne_eq,not_true_eq_false,decide_false,eH,VX,Nat.reduceEqDiff,Nat.reduceAdd,Nat.reduceLeDiff,Nat.reduceLT,Nat.reduceSub]
    exact bad _
   |
    true =>
    rw[hww] at QW
    have hw:mR s.b=some w:=by rw[Ft hwr,if_pos hww]
    have e3:=uN r (by omega)
    cases Ad:r.any (fun q=>decide (q<0)) with
    |
     true =>
     rw[Ad] at e3
     have bad:=bad (by unfold eI;rw[if_pos uW,hw,hr];exact if_neg (by rw[Ad];decide)) (by unfold MQ;rw[if_pos uW,hw,hr];exact if_neg (by rw[Ad];decide))
     simp only[fV,dS,tR,h1,h6,hg,he,e1,QW,e2,e3,IM,st1,Sm,ld1,dT,aKF,aL5,aLT,aLD,aLY,aLL,aKv,aN0,ne_eq,not_true_eq_false,decide_false,eH,VX,Nat.reduceEqDiff,Nat.reduceAdd,Nat.reduceLeDiff,Nat.reduceLT,Nat.reduceSub]
     exact bad _
    |
     false =>
     rw[Ad] at e3
     have EX:eI s=(iR s.g s.b.length).map fun m=>(w,m,r):=by unfold eI;rw[if_pos uW,hw,hr];exact if_pos Ad
     have Dc:MQ s=CR s.g s.b.length:=by unfold MQ;rw[if_pos uW,hw,hr];exact if_pos Ad
     clear bad
     simp only[fV,dS,tR,h1,h6,hg,he,e1,QW,e2,e3,st1,dT,aKF,aL5,aLT,aLD,aLY,aLL,aKv,aNZ,aN0,ne_eq,not_true_eq_false,decide_false,eH,VX,Nat.reduceEqDiff,Nat.reduceAdd,Nat.reduceLeDiff,Nat.reduceLT,Nat.reduceSub]
     refine aR (fun(i:Nat) ρ H=>i≤s.b.length∧(∃out,iR s.g i=some out∧H=XZ i out)∧ρ 0=(tR s).cF 0∧ρ 2 = .ptr 0 0 0 0∧ρ 4=VI s.b.length∧ρ 5 = .ptr 1 0 0 0∧ρ 6=aC aN w∧ρ 8=aC aN r∧ρ 10=VI i) (fun i=>s.b.length-i) 0
      ⟨aKP _,⟨[],rfl,rfl⟩,by (repeat' apply aL1)<;>first | rfl | trivial | assumption⟩ ?_
     rintro i ρ H ⟨hi,⟨out,wQ,rfl⟩,g0,g2,g4,g5,g6,g8,g10⟩
     obtain⟨iA,hof⟩:=tW wQ
     by_cases bX:(i:Int)<(s.b.length:Int)
     ·obtain⟨x,hx⟩:∃x,s.g[i]? = some x:=⟨_,aKs (by omega)⟩
      have hxm:=aLf hx
      have hgd:s.g.getD i []=x:=by rw[aKi,hx];rfl
      have a1:=fun H=>aI (f:=gB) (t := .op) (H:=H) (size:=1) (k := .i64) hx rfl
      have wi:IntKind.i64.wrap ((i:Int)+1)=((i+1:Nat):Int):=wrapN (i+1) (by omega) (by omega)
      have e4:=By x (hb.g9.2 x hxm) (hb.gs x hxm)
      have xA:iR s.g (i+1)=match iE s.g.length i x with | some q=>some (out++[q]) | none=>none:=by
       rw[iR,wQ,hgd]
       cases iE s.g.length i x<;>rfl
      have bad:iE s.g.length i x=none→∀(u:VV) (K:aA),PM.fz 6 K u=some (aC (aC aN) out)→PM.fz depth K (.dU [.agg [.tree [] .nil,u,.tree [] .nil],VB false])=some (Nc s):=fun h u K hK=>by
       have hp:Nc s = .dU [.agg [.tree [] .op,aC (aC aN) out,.tree [] .op],VB false]:=by
        have h1:eI s=none:=by
         rw[h] at xA
         rw[EX,DR xA s.b.length (by omega)]
         rfl
        unfold Nc
        rw[h1,Dc,UH wQ (by rw[hgd];exact h) s.b.length (by omega)]
       rw[hp]
       exact Wr hK
      cases Hm:sY x with
      |
       none =>
       rw[Hm,Ee] at e4
       have bd:=bad (by unfold iE;rw[Hm])
       cases i with
       |
        zero =>
        simp only[dA,XZ,tR,g0,g2,g4,g5,g10,bX,a1,e4,dT,fT,Nat.reduceLeDiff,Nat.reduceLT,Nat.reduceSub,nH,cB,cN,gO,lQ,pT,bne_iff_ne,ne_eq,not_false_eq_true,not_true_eq_false,VX,Nat.reduceEqDiff,Nat.reduceAdd]
        exact bd _ _ (Nf iA _)
       |
        succ i =>
        simp only[dA,XZ,tR,g0,g2,g4,g5,g10,bX,a1,e4,dT,fT,Nat.reduceLeDiff,Nat.reduceLT,Nat.reduceSub,nH,cB,cN,gO,lQ,pT,bne_iff_ne,ne_eq,not_false_eq_true,not_true_eq_false,VX,Nat.reduceEqDiff,Nat.reduceAdd]
        exact bd _ _ (Ni iA)
      |
       some y =>
       rw[Hm,DE] at e4
       obtain⟨hyb,hyl,_⟩:=nD Hm
       by_cases hl:(y.length:Int)=(s.b.length:Int)
       case neg =>
        have bd:=bad (by unfold iE;rw[Hm];exact if_neg (fun h=>hl (by omega)))
        cases i with
        |
         zero =>
         simp only[dA,XZ,tR,g0,g2,g4,g5,g10,bX,a1,e4,hl,dT,ne_eq,not_false_eq_true,decide_true,fT,Nat.reduceLeDiff,Nat.reduceLT,Nat.reduceSub,nH,cB,cN,gO,lQ,pT,bne_iff_ne,ne_eq,not_false_eq_true,not_true_eq_false,VX,Nat.reduceEqDiff,Nat.reduceAdd]
         exact bd _ _ (Nf iA _)
        |
         succ i =>
         simp only[dA,XZ,tR,g0,g2,g4,g5,g10,bX,a1,e4,hl,dT,ne_eq,not_false_eq_true,decide_true,fT,Nat.reduceLeDiff,Nat.reduceLT,Nat.reduceSub,nH,cB,cN,gO,lQ,pT,bne_iff_ne,ne_eq,not_false_eq_true,not_true_eq_false,VX,Nat.reduceEqDiff,Nat.reduceAdd]
         exact bd _ _ (Ni iA)
       have e5:=uN y (by omega)
       cases Jk:y.any (fun q=>decide (q<0)) with
       |
        true =>
        rw[Jk] at e5
        have bd:=bad (by unfold iE;rw[Hm];exact if_neg (fun h=>by rw[Jk] at h;cases h.2.1))
        cases i with
        |
         zero =>
         simp only[dA,XZ,tR,g0,g2,g4,g5,g10,bX,a1,e4,e5,hl,dT,aN0,ne_eq,not_true_eq_false,decide_false,fT,Nat.reduceLeDiff,Nat.reduceLT,Nat.reduceSub,nH,cB,cN,gO,lQ,pT,bne_iff_ne,ne_eq,not_false_eq_true,not_true_eq_false,VX,Nat.reduceEqDiff,Nat.reduceAdd]
         exact bd _ _ (Nf iA _)
        |
         succ i =>
         simp only[dA,XZ,tR,g0,g2,g4,g5,g10,bX,a1,e4,e5,hl,dT,aN0,ne_eq,not_true_eq_false,decide_false,fT,Nat.reduceLeDiff,Nat.reduceLT,Nat.reduceSub,nH,cB,cN,gO,lQ,pT,bne_iff_ne,ne_eq,not_false_eq_true,not_true_eq_false,VX,Nat.reduceEqDiff,Nat.reduceAdd]
         exact bd _ _ (Ni iA)
       |
        false =>
        rw[Jk] at e5
        obtain⟨q,hq⟩:∃q,y[i]? = some q:=⟨_,aKs (by omega)⟩
        have hqd:y.getD i 0=q:=by rw[aKi,hq];rfl
        have a2:=fun H=>aI (f:=aN) (t := .op) (H:=H) (size:=3) (k := .i64) hq rfl
        have e6:=rA q
        by_cases hz:q=0
        case neg =>
         rw[decide_eq_false hz] at e6
         have bd:=bad (by unfold iE;rw[Hm];exact if_neg (fun h=>hz (by rw[←hqd];exact h.2.2)))
         cases i with
         |
          zero =>
          simp only[dA,XZ,tR,g0,g2,g4,g5,g10,bX,a1,a2,e4,e5,e6,hl,dT,cJ,aNZ,ne_eq,not_true_eq_false,decide_false,fT,Nat.reduceLeDiff,Nat.reduceLT,Nat.reduceSub,nH,cB,cN,gO,lQ,pT,bne_iff_ne,ne_eq,not_false_eq_true,not_true_eq_false,VX,Nat.reduceEqDiff,Nat.reduceAdd]
          exact bd _ _ (Nf iA _)
         |
          succ i =>
          simp only[dA,XZ,tR,g0,g2,g4,g5,g10,bX,a1,a2,e4,e5,e6,hl,dT,cJ,aNZ,ne_eq,not_true_eq_false,decide_false,fT,Nat.reduceLeDiff,Nat.reduceLT,Nat.reduceSub,nH,cB,cN,gO,lQ,pT,bne_iff_ne,ne_eq,not_false_eq_true,not_true_eq_false,VX,Nat.reduceEqDiff,Nat.reduceAdd]
          exact bd _ _ (Ni iA)
        rw[decide_eq_true hz] at e6
        have lX:iE s.g.length i x=some y:=by unfold iE;rw[Hm];exact if_pos ⟨by omega,Jk,by rw[hqd,hz]⟩
        rw[lX] at xA
        have eL:∀K,oD false [.slice none 0 0] 1 [(0,aC aN y)] K=some (.tree [aC aN y] (.cl 1),K):=fun K=>lS rfl rfl rfl
        have eS:∀K,dF 1 (.tree [aC aN y] (.cl 1)) K=some [aC aN y]:=fun K=>gS rfl rfl
        cases i with
        |
         zero =>
         have ho:out=[]:=aNg.1 iA
         subst ho
         have eP:∀K:aA,dI 0 1 24 (.tree [] .nil) [aC aN y] K=some (.ref K.length 0 0 1 1,K++[.row 0 [aC aN y] 1 true]):=fun K=>by simp[dI]
         simp only[dA,XZ,tR,g0,g2,g4,g5,g10,bX,a1,a2,e4,e5,e6,hl,eL,eS,eP,wi,dT,cJ,aNZ,aN0,ne_eq,not_true_eq_false,decide_false,aKv,aLY,aLL,aLD,fT,Nat.reduceLeDiff,Nat.reduceLT,Nat.reduceSub,nH,cB,cN,gO,lQ,pT,bne_iff_ne,ne_eq,not_false_eq_true,not_true_eq_false,VX,Nat.reduceEqDiff,Nat.reduceAdd]
         exact⟨1,by omega,by omega,⟨[y],xA,rfl⟩,by (repeat' apply aL1)<;>first | rfl | trivial | assumption⟩
        |
         succ i =>
         have eP:dI 0 1 24 (.ref 2 i 0 (i+1) (i+1)) [aC aN y] (XZ (i+1) out)=some (.ref 2 (i+1) 0 (i+2) (i+2),[kS,.row 0 [.agg [.tree [] .nil,.ref 2 i 0 (i+1) (i+1),.tree [] .nil]] 3 true,.row (i+1) ((out++[y]).map (aC aN)) 1 true]):=by
          rw[XZ,jU (f:=aC aN) (xs:=out) (by rw[dZ,dZ,aT]) iA.symm (aKP _) (by decide) (by decide) (by omega)]
          rfl
         simp only[XZ] at eP
         simp only[dA,XZ,tR,g0,g2,g4,g5,g10,bX,a1,a2,e4,e5,e6,hl,eL,eS,eP,wi,dT,cJ,aNZ,aN0,ne_eq,not_true_eq_false,decide_false,fT,Nat.reduceLeDiff,Nat.reduceLT,Nat.reduceSub,nH,cB,cN,gO,lQ,pT,bne_iff_ne,ne_eq,not_false_eq_true,not_true_eq_false,VX,Nat.reduceEqDiff,Nat.reduceAdd]
         exact⟨i+2,by omega,by omega,⟨out++[y],xA,rfl⟩,by (repeat' apply aL1)<;>first | rfl | trivial | assumption⟩
     ·have nC:i=s.b.length:=by omega
      rw[nC] at wQ iA
      obtain⟨k,hk⟩:∃k,s.b.length=k+1:=⟨s.b.length-1,by omega⟩
      have Wp:i=k+1:=by omega
      subst Wp
      have aA3:r.length=s.b.length:=by omega
      have aFV:w.length=s.b.length:=(nD hwr).2.2
      have amA:Nc s = .dU [Cr aN w out r,VB (BR (w,out,r))]:=by unfold Nc;rw[EX,wQ];rfl
      rw[amA]
      have aAH:∀q∈r,0≤q:=fun q hq=>Rat.not_lt.1 (by have:=List.any_eq_false.1 Ad q hq;simpa using this)
      have hF:=H9 (b:=w) (g:=out) (e:=r) (n:=r.length) (by omega) (by omega) (by omega) (fun z hz=>⟨by have:=(hof z hz).1;omega,fun q hq=>((hof z hz).2 q hq).1⟩) rfl aAH
      have Ra:∀Y X:fK,aG [Y,X,.row k (out.map (aC aN)) 1 true] 2 k=some (out.map (aC aN),1,true):=fun Y X=>by rw[dZ,dZ,aT]
      have ajL:=fun Y X=>Gn (d:=4) (c:=k+1) (rL ·) (Ra Y X) (by omega)
      rw[hk] at iA
      rw[iA] at ajL
      have hfa:∀Y X,PM.fz 7 [Y,X,.row k (out.map (aC aN)) 1 true] (.agg [aC aN w,.ref 2 k 0 (k+1) (k+1),aC aN r])=some (Cr aN w out r):=fun Y X=>by
       refine Gh (d:=5) ?_
       rw[aLI,aL (rL w),aLI,ajL,aLI,aL (rL r)]
       rfl
      have hp1:PM.fz depth [kS,.row 0 [.agg [aC aN w,.ref 2 k 0 (k+1) (k+1),aC aN r]] 3 true,.row k (out.map (aC aN)) 1 true] (.ptr 1 0 0 0)=some (svP w out r):=axU (o:=0) (b:=1) (g:=0) (j:=0) (es:=[.agg [aC aN w,.ref 2 k 0 (k+1) (k+1),aC aN r]]) (x := .agg [aC aN w,.ref 2 k 0 (k+1) (k+1),aC aN r]) (x':=Cr aN w out r) (dZ.trans aT) rfl (hfa _ _)
      have hE2:=fun lo K=>TC.flat (args:=[.ptr 1 0 0 0]) (mB:=[svP w out r]) hF rfl (FR (Vt _ _ _)) (fz1 hp1) rfl lo K
      simp only[dA,XZ,g2,g4,g5,g6,g8,g10,bX,hE2,dT,fT,Nat.reduceLeDiff,Nat.reduceLT,Nat.reduceSub,nH,cB,cN,gO,lQ,pT,bne_iff_ne,ne_eq,not_false_eq_true,not_true_eq_false,VX,Nat.reduceEqDiff,Nat.reduceAdd]
      exact bO (d:=6) (hfa _ _) (aL (v:=VB _) rfl)
end Go.PM
namespace Go.PM
end Go.PM
namespace Go.PM
theorem pP (q:Rat):(aB (aN q)).all bL=true:=rfl
theorem agZ {lo k:Nat} {H K:aA} {x:VV} {q:Rat} (h:lo≤H.length) (hK:K[k]? = some (.row 0 [x] 3 true)):bK lo 3 (.ptr (H.length+k) 0 0 0) (aN q) (H++K)=some (H++K.set k (.row 0 [aN q] 3 true)):=by
 have hr:aG (H++K) (H.length+k) 0=some ([x],3,true):=by
  rw[cH,aKD (by omega),aMc]
  exact hK
 rw[bR (e:=3) hr (by exact aNA) (by omega) (iL q) (pP q),aL0 _ _ (by omega),aMc]
 rfl
theorem avD {H:aA} {b:Nat} {q:Rat} (h:aG H b 0=some ([aN q],3,true)):bI true 3 (.ptr b 0 0 0) H=some (aN q):=by
 rw[bS,h]
 exact cJ q
end Go.PM
namespace Go.PM
open Go.Lib
section
variable {lo fZ hi N b g c:Nat} {H:aA} {L:List PV}
structure Tq (f:Rat→VV) (lo hi N b g:Nat) (L:List PV) (H:aA):Prop where
 t:Tb f lo hi N N b g (iU L) H
 b:∀t∈L,aM t.2.2≤1331
 l:L.length≤400
theorem Tq.bits {f:Rat→VV} (h:Tq f lo hi N b g L H) (i j:Nat):aM (iU L i j)≤1000000:=by
 have h1:=O0 h.b i j
 have h2:L.length*(1331+1)≤400*(1331+1):=aKM _ h.l
 omega
theorem Tq.dB {f:Rat→VV} {H':aA} (h:Tq f lo hi N b g L H) (hk:jT lo hi H H'):Tq f lo hi N b g L H':=⟨h.t.dB hk,h.b,h.l⟩
theorem Tq.pre {f:Rat→VV} {H':aA} (h:Tq f lo hi N b g L H) (hh:H <+: H'):Tq f lo hi N b g L H':=h.dB (jT.pre hh)
theorem Tq.snoc {f:Rat→VV} {H':aA} {i j:Nat} {q:Rat} (h:Tq f lo hi N b g L H) (hT:Tb f lo hi N N b g (iU (L++[(i,j,q)])) H') (hq:aM q≤1331) (hl:L.length<400):Tq f lo hi N b g (L++[(i,j,q)]) H' :=
 ⟨hT,fun t ht=>by
  rcases List.mem_append.1 ht with ht | ht
  ·exact h.b t ht
  ·rw[List.mem_singleton] at ht
   subst ht
   exact hq,by rw[List.length_append];exact hl⟩
theorem Tq.same {f:Rat→VV} {i:Nat} {q:Rat} (h:Tq f lo hi N b g L H) (hq:aM q≤1331) (hl:L.length<400):Tq f lo hi N b g (L++[(i,i,q)]) H:=h.snoc (by rw[Xt];exact h.t) hq hl
end
theorem awK {H:aA} {es:List VV} {k:Nat} (hp:aO es=true):PM.fz depth H (.tree es (.cl k))=some (.tree es .op):=by
 have h0:aX (.tree es (.cl k))=false:=by simp[aX]
 show PM.fz (7+1) H _=_
 unfold PM.fz
 simp only[h0,Bool.false_eq_true,if_false]
 rw[mapM_pure (n:=6) hp]
 rfl
theorem aeB {H:aA} {es:List VV} {k:Nat} (hp:aO es=true):iX depth H (.tree es (.cl k))=[]:=by
 have h0:aX (.tree es (.cl k))=false:=by simp[aX]
 show iX (7+1) H _=_
 unfold iX
 simp only[h0,Bool.false_eq_true,if_false]
 exact AB hp
theorem TC.cl {f lo k:Nat} {H:aA} {es:List VV} {r:VV} {K:VV→aA→Prop} (h:TC f [.tree es .op] r) (hr:Fm.contains f=false) (hp:aO es=true) (BJ:aX (.tree es .op)=true):dH f [.tree es (.cl k)] lo H K=K r H:=by
 have h0:aX (.tree es (.cl k))=false:=by simp[aX]
 rw[h.Dg (H:=H) (lo:=lo) (k:=K) hr (FR BJ) (fz1 (awK hp)) (by simp[aO,h0]),List.flatMap_cons,aeB hp]
 split<;>rfl
theorem TabIs.fz {f:Rat→VV} {m:List (List Rat)} {lo hi:Nat} {H:aA} {v:VV} (h:TabIs f 3 m lo hi H v) (hpu:∀x,aX (f x)=true):PM.fz depth H v=some (aC (aC f) m):=by
 obtain⟨b,g,c,rs,rfl,k1,hM,hrs⟩:=h
 have AU:rs.length=m.length:=by rw[←hrs,aL2]
 have hfz:=hM.fz (d:=5) (c:=c) (by omega) hpu
 rw[hrs,AU] at hfz
 exact hfz
theorem wN {x:Int} (k:Nat) (h:x=k) (hk:k≤1000000000):IntKind.i64.wrap x=(k:Int):=by
 subst h
 exact wrapN k (by omega) (by omega)
theorem QOk.told {p:Nat×List PV} (hp:QOk p):(Uz (OC p)).length≤1000000∧∀r∈Uz (OC p),r.length≤1000000∧∀q∈r,aM q≤1099511627776:=by
 have hn:=hp.n
 obtain⟨el,eb⟩:=abU Xo (B:=600000) hp.rows (by omega) (by omega)
 exact⟨by omega,fun r hr=>⟨by have:=(eb r hr).1;omega,fun q hq=>by have:=(eb r hr).2 q hq;omega⟩⟩
end Go.PM
namespace Go.PM
structure aaM (s:tA):Prop where
 b:s.b.length≤100
 g:s.g.length≤100
 r:∀x∈s.g,x.length≤100
 e:s.e.length≤100
theorem DQ {β:Type}:∀ {xs:List (List β)} {n:Nat},(∀x∈xs,x.length≤n)→Ip xs≤xs.length*n
 | [],n,_=>by simp[Ip]
 |
  x::xs,n,h=>by
  have h1:=h x List.mem_cons_self
  have h2:=DQ (xs:=xs) (n:=n) fun y hy=>h y (List.mem_cons_of_mem _ hy)
  have e:Ip (x::xs)=x.length+Ip xs:=by simp[Ip]
  rw[e,aKv,aKQ,Nat.one_mul]
  omega
theorem aaM.n {s:tA} (h:aaM s):svN s≤10200:=by
 have h1:=DQ h.r
 have h2:s.g.length*100≤100*100:=aKM _ h.g
 have h3:=h.b
 have h4:=h.e
 unfold svN
 omega
end Go.PM
namespace Go.PM
open Go.Lib
theorem LsO.wide {α:Type} {f:α→VV} {e:Nat} {o:Option (List α)}:∀ {lo hi fZ qM:Nat} {H:aA} {v:VV},LsO f e o lo hi H v→fZ≤lo→hi≤qM→LsO f e o fZ qM H v:=by
 intro lo hi fZ qM H v h hl hh
 cases o with
 | none=>exact h
 |
  some ys =>
  obtain⟨b,g,c,h1,h2,h3⟩:=h
  exact⟨b,g,c,by omega,by omega,h3⟩
end Go.PM
namespace Go.PM
structure ZA (s:List (List ByteArray)):Prop where
 g:s.length≤100
 r:∀x∈s,x.length≤100
theorem ZA.n {s:List (List ByteArray)} (h:ZA s):Ip s≤10000:=by
 have h1:=DQ h.r
 have h2:s.length*100≤100*100:=aKM _ h.g
 omega
end Go.PM
namespace Go.PM
end Go.PM
namespace Go.PM
open Go.Lib
end Go.PM
namespace Go.PM
open Go.Lib
def HJ (A:Nat→Nat→Rat) (b:Nat→Rat) (n i j:Nat):Rat:=if j<n then A i j else b i
def jnA (i:Nat) (A:Nat→Nat→Rat) (b:Nat→Rat) (n:Nat):Nat→Nat→Rat:=HJ (G4 (cDg i A) i A) (TF (cDg i A) i b) n
def jnR (i:Nat) (A:Nat→Nat→Rat) (b:Nat→Rat) (n r a c:Nat):Rat:=if a<r then jnA i A b n a c else HJ A b n a c
def jnC (i:Nat) (A:Nat→Nat→Rat) (b:Nat→Rat) (n r j a c:Nat):Rat:=if a=r∧c<j then jnA i A b n r c else jnR i A b n r a c
section
variable {i n r:Nat} {A:Nat→Nat→Rat} {b:Nat→Rat}
theorem Is {a c:Nat} (h:c<n):HJ A b n a c=A a c:=if_pos h
theorem YQ {a:Nat}:HJ A b n a n=b a:=if_neg (aN1 _)
theorem XA {a c:Nat}:jnA i A b n a c=HJ A b n a c-cDg i A a*HJ A b n i c:=by
 unfold jnA HJ G4 TF
 split<;>rfl
theorem Zk {c:Nat}:jnA i A b n i c=HJ A b n i c:=by
 rw[XA,show cDg i A i=0 from if_pos rfl,aN2]
 grind
theorem anG (h:A r i=0) {c:Nat}:jnA i A b n r c=HJ A b n r c:=by
 rw[XA]
 have:cDg i A r=0:=by
  unfold cDg
  split
  ·rfl
  ·rw[h,Rat.div_def,aN2]
 rw[this,aN2]
 grind
theorem akF (h:r≠i) {c:Nat}:jnA i A b n r c=HJ A b n r c-A r i / A i i*HJ A b n i c:=by
 rw[XA,show cDg i A r=A r i / A i i from if_neg h]
theorem SF {c:Nat}:jnR i A b n r r c=HJ A b n r c:=if_neg (aN1 _)
theorem YU {c:Nat}:jnR i A b n r i c=HJ A b n i c:=by
 unfold jnR
 split
 ·exact Zk
 ·rfl
theorem UJ (h:r=i∨A r i=0) {a c:Nat}:jnR i A b n r a c=jnR i A b n (r+1) a c:=by
 unfold jnR
 by_cases h1:a<r
 ·rw[if_pos h1,if_pos (by omega)]
 ·rw[if_neg h1]
  by_cases h2:a=r
  ·subst h2
   rw[if_pos (by omega)]
   rcases h with h | h
   ·subst h;exact Zk.symm
   ·exact(anG h).symm
  ·rw[if_neg (by omega)]
theorem adM (hz:∀c,c<i→A i c=0) (bX:i<n) (h:r≠i) {a c:Nat}:jnR i A b n r a c=jnC i A b n r i a c:=by
 unfold jnC
 by_cases h1:a=r∧c<i
 ·obtain⟨rfl,h2⟩:=h1
  rw[if_pos ⟨rfl,h2⟩,SF,akF h,Is (by omega:c<n),Is (by omega:c<n),hz c h2]
  grind
 ·rw[if_neg h1]
theorem asB {j:Nat}:jnC i A b n r j r j=HJ A b n r j:=by
 unfold jnC
 rw[if_neg (by omega),SF]
theorem asS {j c:Nat} (h:r≠i):jnC i A b n r j i c=HJ A b n i c:=by
 unfold jnC
 rw[if_neg (by omega),YU]
theorem anE {j a c:Nat}:Pt (jnC i A b n r j) r j (jnA i A b n r j) a c=jnC i A b n r (j+1) a c:=by
 unfold Pt jnC
 by_cases h1:a=r∧c=j
 ·obtain⟨rfl,rfl⟩:=h1
  rw[if_pos ⟨rfl,rfl⟩,if_pos ⟨rfl,by omega⟩]
 ·rw[if_neg h1]
  by_cases h2:a=r∧c<j
  ·rw[if_pos h2,if_pos ⟨h2.1,by omega⟩]
  ·rw[if_neg h2,if_neg (by omega)]
theorem aqI {a c:Nat} (hc:c<n+1):jnC i A b n r (n+1) a c=jnR i A b n (r+1) a c:=by
 unfold jnC
 by_cases h1:a=r∧c<n+1
 ·obtain⟨rfl,_⟩:=h1
  rw[if_pos ⟨rfl,hc⟩]
  unfold jnR
  rw[if_pos (by omega)]
 ·rw[if_neg h1]
  unfold jnR
  by_cases h2:a<r
  ·rw[if_pos h2,if_pos (by omega)]
  ·rw[if_neg h2,if_neg (by omega)]
theorem aqH {k m a c:Nat}:swp k m (HJ A b n) a c=HJ (swp k m A) (swp k m b) n a c:=by
 unfold swp HJ
 by_cases h1:a=k
 ·simp only[h1,if_true]
 ·simp only[h1,if_false]
  by_cases h2:a=m
  ·simp only[h2,if_true]
  ·simp only[h2,if_false]
end
theorem NS {lo fZ hi N M b g c:Nat} {F:Nat→Nat→Rat} {H:aA} {k m:Nat} (h:Tb aN fZ hi N M b g F H) (hk:k<N) (hm:m<N) (dQ:lo≤fZ) :
  jA 179 [.ref b g 0 N c,VI k,VI m] lo H fun _ H'=>Qn fZ hi H H'∧Tb aN fZ hi N M b g (swp k m F) H':=by
 refine jA.walk ⟨true,false⟩ OS (aL9 rfl) ?_
 obtain⟨u,v,e1,e2,e3⟩:=h.swap hk hm
 obtain⟨Ha,Hb,e4,e5,e6,e7,e8,e9⟩:=e3 lo dQ
 have a1:=h.addr (c:=c) hk
 have a2:=h.addr (c:=c) hm
 simp only[JV,FB,a1,a2,e1,e2,e4,e5,e6,eH,VX,Nat.reduceEqDiff,Nat.reduceAdd,Nat.reduceLeDiff,Nat.reduceLT,Nat.reduceSub]
 exact⟨e8,e9⟩
set_option maxHeartbeats 16000000 in
set_option maxRecDepth 30000 in
theorem MT {lo fZ hi n b g c G η:Nat} {H:aA} {A0:Nat→Nat→Rat} {b0 X:Nat→Rat} (hT:Tb aN fZ hi n (n+1) b g (HJ A0 b0 n) H) (hU:DgS n 0 G A0 b0 X) (hX:cU η n X) (hn:n≤12) (hG:2^n*(G+1)≤68719476736) (hη:η≤274877906944) (dQ:lo≤fZ) (hlH:lo≤H.length) (hhi:hi≤H.length) :
  jA 134 [.ref b g 0 n c] lo H fun r H'=>∃v,r = .dU [v,VB true]∧H.length≤H'.length∧Jx aN 3 (vec n X) H.length H'.length H' v∧∀b' g' x,(b'<fZ∨hi≤b')→aG H b' g'=some x→aG H' b' g'=some x:=by
 refine jA.walk ⟨true,false⟩ MM (aL9 rfl) ?_
 have el:=hT.len (c:=c)
 simp only[HL,Ep,el,eH,VX,Nat.reduceEqDiff,Nat.reduceAdd,Nat.reduceLeDiff,Nat.reduceLT,Nat.reduceSub]
 have hgk:∀k,k≤n→gk G k≤68719476736:=fun k hk=>aKm (avB hk) hG
 have wn:∀k:Nat,k≤n+1→IntKind.i64.wrap ((k:Int)+1)=((k+1:Nat):Int):=fun k hk=>wN _ (by omega) (by omega)
 have trB:∀ {lo hi:Nat} {H H' Vr:aA},(H.length≤H'.length∧∀b' g' x,(b'<lo∨hi≤b')→aG H b' g'=some x→aG H' b' g'=some x)→(H'.length≤Vr.length∧∀b' g' x,(b'<lo∨hi≤b')→aG H' b' g'=some x→aG Vr b' g'=some x)→H.length≤Vr.length∧∀b' g' x,(b'<lo∨hi≤b')→aG H b' g'=some x→aG Vr b' g'=some x:=fun h h'=>⟨aKm h.1 h'.1,fun b g x k1 k2=>h'.2 b g x k1 (h.2 b g x k1 k2)⟩
 have ofR:∀ {lo hi:Nat} {H H':aA},Qn lo hi H H'→(H.length≤H'.length∧∀b' g' x,(b'<lo∨hi≤b')→aG H b' g'=some x→aG H' b' g'=some x):=fun h=>⟨Nat.le_of_eq h.1.symm,h.2⟩
 have ofA:∀ {lo hi:Nat} {H L:aA},(H.length≤(H++L).length∧∀b' g' x,(b'<lo∨hi≤b')→aG H b' g'=some x→aG (H++L) b' g'=some x):=fun {_ _ H L}=>⟨by simp,fun _ _ _ _ h=>gP h⟩
 refine aR (fun(k:Nat) ρ H1=>k≤n∧(∃A bb,DgS n k (gk G k) A bb X∧Tb aN fZ hi n (n+1) b g (HJ A bb n) H1)∧(H.length≤H1.length∧∀b' g' x,(b'<fZ∨hi≤b')→aG H b' g'=some x→aG H1 b' g'=some x)∧ρ 0 = .ref b g 0 n c∧ρ 4=VI n∧ρ 5=VI k) (fun k=>n-k) 0
  ⟨aKP _,⟨A0,b0,hU,hT⟩,⟨aKl _,fun _ _ _ _ h=>h⟩,by (repeat' apply aL1)<;>first | rfl | trivial | assumption⟩ ?_
 rintro k ρ H1 ⟨hk,⟨A,bb,UC,hT1⟩,hO1,g0,g4,g5⟩
 by_cases TH:(k:Int)<(n:Int)
 ·have oJ:k<n:=by omega
  obtain⟨pm,hp1,hp2,hp3⟩:=UC.f.aiT oJ UC.u.upper
  simp only[xO,g0,g4,g5,TH,eH,VX,Nat.reduceEqDiff,Nat.reduceAdd,Nat.reduceLeDiff,Nat.reduceLT,Nat.reduceSub]
  refine aR (fun(m:Nat) aP H2=>H2=H1∧k≤m∧m≤n∧(∀r,k≤r→r<m→A r k=0)∧aP 0 = .ref b g 0 n c∧aP 4=VI n∧aP 5=VI k∧aP 6=VI m) (fun m=>n-m) k
   ⟨rfl,aKl _,hk,fun r h1 h2=>by omega,by (repeat' apply aL1)<;>first | rfl | trivial | assumption⟩ ?_
  clear g0 g4 g5
  rintro m ρ H2 ⟨rfl,hkm,hmn,hzero,g0,g4,g5,g6⟩
  have hm:m<n:=by
   rcases aKo m n with h | h
   ·exact h
   ·exact absurd (hzero pm hp1 (by omega)) hp3
  have agP:(m:Int)<(n:Int):=by omega
  have a1:=hT1.addr (c:=c) hm
  obtain⟨rb1,rg1,rc1,c1,c2,c3,_⟩:=hT1.spot (i:=m) (j:=k) hm (by omega) iL pP
  have c3:=(c3 true).trans (cJ _)
  rw[Is oJ] at c3
  have es:=rA (A m k)
  by_cases Ch:A m k=0
  ·rw[decide_eq_true Ch] at es
   simp only[yI,g0,g4,g5,g6,agP,a1,c1,c2,c3,es,wn m (by omega),eH,VX,Nat.reduceEqDiff,Nat.reduceAdd,Nat.reduceLeDiff,Nat.reduceLT,Nat.reduceSub]
   exact⟨m+1,by omega,by omega,by omega,fun r h1 h2=>by
    rcases aKo r m with h | h
    ·exact hzero r h1 h
    ·rw[show r=m by omega]
     exact Ch,by (repeat' apply aL1)<;>first | rfl | trivial | assumption⟩
  ·rw[decide_eq_false Ch] at es
   have gD:¬(m:Int)=(n:Int):=by omega
   have W4:=UC.swp hkm hm
   have Su:swp k m A k k≠0:=by unfold Go.PM.swp;rw[if_pos rfl];exact Ch
   simp only[yI,g0,g4,g5,g6,agP,a1,c1,c2,c3,es,gD,eH,VX,Nat.reduceEqDiff,Nat.reduceAdd,Nat.reduceLeDiff,Nat.reduceLT,Nat.reduceSub]
   refine fS rfl ((NS (c:=c) hT1 oJ hm dQ).mono ?_)
   rintro _ Hs ⟨hOs,hTs⟩
   have hTs:=hTs.congr fun a c _ _=>aqH
   have hOs:=trB hO1 (ofR hOs)
   generalize hA':Go.PM.swp k m A=A' at *
   generalize xD:Go.PM.swp k m bb=IF at *
   simp only[g0,g4,g5,eH,VX,Nat.reduceEqDiff,Nat.reduceAdd,Nat.reduceLeDiff,Nat.reduceLT,Nat.reduceSub]
   refine aR (fun(i:Nat) aP H2=>i≤n∧Tb aN fZ hi n (n+1) b g (jnR k A' IF n i) H2∧(H.length≤H2.length∧∀b' g' x,(b'<fZ∨hi≤b')→aG H b' g'=some x→aG H2 b' g'=some x)∧aP 0 = .ref b g 0 n c∧aP 4=VI n∧aP 5=VI k∧aP 7=VI i) (fun i=>n-i) 0
    ⟨aKP _,hTs.congr fun a c _ _=>(if_neg (aLC a)).symm,hOs,by (repeat' apply aL1)<;>first | rfl | trivial | assumption⟩ ?_
   clear g0 g4 g5 g6 hTs hOs
   rintro i ρ H2 ⟨bX,RW,QH,g0,g4,g5,g7⟩
   have hg:=hgk k hk
   have bits:∀a c,a<n→c<n+1→aM (HJ A' IF n a c)≤343597383684:=fun a c ha hc=>by
    rcases aKo c n with h | h
    ·rw[Is h]
     have:=W4.z.bits ha h
     omega
    ·rw[show c=n by omega,YQ]
     have:=W4.right hX (by omega) ha
     omega
   by_cases T2:(i:Int)<(n:Int)
   ·have uU:i<n:=by omega
    by_cases Wp:(i:Int)=(k:Int)
    ·obtain rfl:k=i:=by omega
     simp only[nS,g0,g4,g5,g7,T2,wn k (by omega),eq_self,decide_true,eH,VX,Nat.reduceEqDiff,Nat.reduceAdd,Nat.reduceLeDiff,Nat.reduceLT,Nat.reduceSub]
     exact⟨k+1,by omega,by omega,RW.congr fun _ _ _ _=>UJ (.inl rfl),QH,by (repeat' apply aL1)<;>first | rfl | trivial | assumption⟩
    ·have avL:i≠k:=by omega
     have a2:=RW.addr (c:=c) uU
     obtain⟨rb2,rg2,rc2,d1,d2,d3,_⟩:=RW.spot (i:=i) (j:=k) uU (by omega) iL pP
     have d3:=(d3 true).trans (cJ _)
     rw[SF,Is oJ] at d3
     have SB:=rA (A' i k)
     by_cases Nq:A' i k=0
     ·rw[decide_eq_true Nq] at SB
      simp only[nS,g0,g4,g5,g7,T2,Wp,a2,d1,d2,d3,SB,wn i (by omega),eH,VX,Nat.reduceEqDiff,Nat.reduceAdd,Nat.reduceLeDiff,Nat.reduceLT,Nat.reduceSub]
      exact⟨i+1,by omega,by omega,RW.congr fun _ _ _ _=>UJ (.inr Nq),QH,by (repeat' apply aL1)<;>first | rfl | trivial | assumption⟩
     ·rw[decide_eq_false Nq] at SB
      have a3:=RW.addr (c:=c) oJ
      obtain⟨rb3,rg3,rc3,d4,d5,d6,_⟩:=RW.spot (i:=k) (j:=k) oJ (by omega) iL pP
      have d6:=(d6 true).trans (cJ _)
      rw[YU,Is oJ] at d6
      have bik:=W4.z.bits uU oJ
      have bkk:=W4.z.bits oJ oJ
      have ef:=Fg (A' i k) (A' k k) Su (by omega) (by omega)
      have bf:=GH (A' i k) (A' k k)
      have s1:=Rq (lo:=lo) (H:=H2) (q:=A' i k / A' k k) (by have:=QH.1;omega)
      have rf:=(kD (H:=H2) (g:=0) (es:=[aN (A' i k / A' k k)]) (e:=3) (w:=true))
      have hT3:=RW.pre (aMg H2 [.row 0 [aN (A' i k / A' k k)] 3 true])
      have hO3:=trB QH (ofA (L:=[.row 0 [aN (A' i k / A' k k)] 3 true]))
      have hH2:hi≤H2.length:=aKm hhi QH.1
      simp only[nS,g0,g4,g5,g7,T2,Wp,a2,a3,d1,d2,d3,d4,d5,d6,SB,ef,s1,eH,VX,Nat.reduceEqDiff,Nat.reduceAdd,Nat.reduceLeDiff,Nat.reduceLT,Nat.reduceSub]
      have hel:∀j,HJ A' IF n i j-A' i k / A' k k*HJ A' IF n k j=jnA k A' IF n i j:=fun j=>(akF avL).symm
      generalize hfq:A' i k / A' k k=fq at *
      refine aR (fun(j:Nat) aP H4=>k≤j∧j≤n+1∧Tb aN fZ hi n (n+1) b g (jnC k A' IF n i j) H4∧(H.length≤H4.length∧∀b' g' x,(b'<fZ∨hi≤b')→aG H b' g'=some x→aG H4 b' g'=some x)∧aG H4 H2.length 0=some ([aN fq],3,true)∧aP 0 = .ref b g 0 n c∧aP 4=VI n∧aP 5=VI k∧aP 7=VI i∧aP 8 = .ptr H2.length 0 0 0∧aP 9=VI j) (fun j=>n+1-j) k
       ⟨aKl _,by omega,hT3.congr fun _ _ _ _=>adM (fun c hc=>W4.u.1 k c oJ hc (by omega)) oJ avL,hO3,rf,by (repeat' apply aL1)<;>first | rfl | trivial | assumption⟩ ?_
      clear g0 g4 g5 g7 hT3 hO3 rf
      rintro j ρ H4 ⟨hkj,EY,hT4,hO4,rf,g0,g4,g5,g7,g8,g9⟩
      have lf:=avD rf
      by_cases ajX:(j:Int)≤(n:Int)
      ·have GU:j<n+1:=by omega
       have a4:=hT4.addr (c:=c) uU
       have a5:=hT4.addr (c:=c) oJ
       obtain⟨rb4,rg4,rc4,t1,t2,t3,t4⟩:=hT4.spot (i:=i) (j:=j) uU GU iL pP
       obtain⟨rb5,rg5,rc5,t5,t6,t7,_⟩:=hT4.spot (i:=k) (j:=j) oJ GU iL pP
       have t3:=(t3 true).trans (cJ _)
       have t7:=(t7 true).trans (cJ _)
       rw[asB] at t3
       rw[asS avL] at t7
       have bij:=bits i j uU GU
       have bkj:=bits k j oJ GU
       have em:=EH fq (HJ A' IF n k j) (by omega) (by omega)
       have bm:=qB fq (HJ A' IF n k j)
       have eS:=Nd (HJ A' IF n i j) (fq*HJ A' IF n k j) (by omega) (by omega)
       rw[hel] at eS
       obtain⟨H5,t8,t9,hT5,_⟩:=t4 lo (jnA k A' IF n i j) dQ
       have hT5:=hT5.congr fun _ _ _ _=>anE
       have rf5:=t9.2 _ _ _ (by omega) rf
       simp only[yG,g0,g4,g5,g7,g8,g9,ajX,a4,a5,t1,t2,t3,t5,t6,t7,t8,lf,em,eS,wn j (by omega),eH,VX,Nat.reduceEqDiff,Nat.reduceAdd,Nat.reduceLeDiff,Nat.reduceLT,Nat.reduceSub]
       exact⟨j+1,by omega,by omega,by omega,hT5,trB hO4 (ofR t9),rf5,by (repeat' apply aL1)<;>first | rfl | trivial | assumption⟩
      ·have Yp:j=n+1:=by omega
       subst Yp
       simp only[yG,g4,g7,g9,ajX,wn i (by omega),eH,VX,Nat.reduceEqDiff,Nat.reduceAdd,Nat.reduceLeDiff,Nat.reduceLT,Nat.reduceSub]
       exact⟨i+1,by omega,by omega,hT4.congr fun _ _ _ hc=>aqI hc,hO4,by (repeat' apply aL1)<;>first | rfl | trivial | assumption⟩
   ·have nC:i=n:=by omega
    subst nC
    have hU3:=W4.step Su oJ
    simp only[nS,g4,g5,g7,T2,wn k (by omega),eH,VX,Nat.reduceEqDiff,Nat.reduceAdd,Nat.reduceLeDiff,Nat.reduceLT,Nat.reduceSub]
    exact⟨k+1,by omega,by omega,⟨_,_,hU3,RW.congr fun a _ ha _=>if_pos ha⟩,QH,by (repeat' apply aL1)<;>first | rfl | trivial | assumption⟩
 ·have hke:k=n:=by omega
  subst hke
  have hg:=hgk k hk
  have e0:∀K,oD false [.bool false,.slice none 0 0,.slice none 0 0] 0 [] K=some (.ref K.length 0 0 0 0,K++[.row 0 [] 3 true]):=fun K=>mO rfl
  simp only[xO,g0,g4,g5,TH,e0,eH,VX,Nat.reduceEqDiff,Nat.reduceAdd,Nat.reduceLeDiff,Nat.reduceLT,Nat.reduceSub]
  have aDc:=trB hO1 (ofA (L:=[.row 0 [] 3 true]))
  refine aR (fun(i:Nat) aP H2=>i≤k∧Tb aN fZ hi k (k+1) b g (HJ A bb k) H2∧(H.length≤H2.length∧∀b' g' x,(b'<fZ∨hi≤b')→aG H b' g'=some x→aG H2 b' g'=some x)∧aG H2 H1.length i=some ((vec i X).map aN,3,true)∧aP 0 = .ref b g 0 k c∧aP 4=VI k∧aP 10 = .ref H1.length i 0 i i∧aP 11=VI i) (fun i=>k-i) 0
   ⟨aKP _,hT1.pre (aMg _ _),aDc,kD,by (repeat' apply aL1)<;>first | rfl | trivial | assumption⟩ ?_
  clear g0 g4 g5
  rintro i ρ H2 ⟨qM,RW,QH,wQ,g0,g4,g10,g11⟩
  have hb:=RW.lt
  have aIm:hi≤H1.length:=aKm hhi hO1.1
  by_cases bX:(i:Int)<(k:Int)
  ·have uU:i<k:=by omega
   have a2:=RW.addr (c:=c) uU
   obtain⟨rb2,rg2,rc2,d1,d2,d3,_⟩:=RW.spot (i:=i) (j:=k) uU (by omega) iL pP
   obtain⟨rb3,rg3,rc3,d4,d5,d6,_⟩:=RW.spot (i:=i) (j:=i) uU (by omega) iL pP
   have d3:=(d3 true).trans (cJ _)
   have d6:=(d6 true).trans (cJ _)
   rw[YQ] at d3
   rw[Is uU] at d6
   have Ry:=Option.some.inj (d1.symm.trans d4)
   injection Ry with h1 h2 _ _ h5
   subst h1 h2 h5
   have bii:=UC.z.bits uU uU
   have bbi:=UC.right hX (by omega) uU
   have ed:=Fg (bb i) (A i i) (UC.u.2 i uU) (by omega) (by omega)
   rw[←UC.done uU] at ed
   have eL:∀H,oD false [.bool false,.slice none 0 0,.slice none 0 0] 1 [(0,aN (X i))] H=some (.tree [aN (X i)] (.cl 3),H):=fun H=>lS rfl rfl rfl
   have eS:∀H,dF 3 (.tree [aN (X i)] (.cl 3)) H=some [aN (X i)]:=fun H=>gS rfl rfl
   have eP:=OV (lo:=lo) (bytes:=56) (x:=X i) wQ (by rw[nM]) (by have:=hO1.1;omega) (by decide) (by decide) (by omega)
   simp only[yF,g0,g4,g10,g11,bX,a2,d1,d2,d3,d4,d5,d6,ed,eL,eS,eP,wn i (by omega),eH,VX,Nat.reduceEqDiff,Nat.reduceAdd,Nat.reduceLeDiff,Nat.reduceLT,Nat.reduceSub]
   refine⟨i+1,by omega,by omega,RW.dB (jT.set (by omega)),⟨by rw[List.length_set];exact QH.1,fun b' g' x xD hx=>bC (by have:=kW hx;have:=hO1.1;omega) (QH.2 b' g' x xD hx)⟩,by rw[Jo];exact cA wQ,by (repeat' apply aL1)<;>first | rfl | trivial | assumption⟩
  ·have nC:i=k:=by omega
   subst nC
   simp only[yF,g4,g10,g11,bX,eH,VX,Nat.reduceEqDiff,Nat.reduceAdd,Nat.reduceLeDiff,Nat.reduceLT,Nat.reduceSub]
   exact⟨_,rfl,QH.1,⟨H1.length,i,i,hO1.1,kW wQ,by rw[nM],by rw[nM];exact aKl _,wQ⟩,QH.2⟩
end Go.PM
namespace Go.PM
open Go.Lib
def ZL (k:Nat) (A:Nat→Nat→Rat) (i a c:Nat):Rat:=if a<i then G4 (M3 k A) k A a c else A a c
def elC (k:Nat) (A:Nat→Nat→Rat) (i j a c:Nat):Rat:=if a=i∧c<j then G4 (M3 k A) k A i c else ZL k A i a c
def Zv (k:Nat) (A:Nat→Nat→Rat) (b:Nat→Rat) (i a:Nat):Rat:=if a<i then TF (M3 k A) k b a else b a
def bkR (A:Nat→Nat→Rat) (b X:Nat→Rat) (s i:Nat):Rat:=if s≤i then X i else b i
theorem R5 {k:Nat} {A:Nat→Nat→Rat} {a c:Nat} (h:a≤k):G4 (M3 k A) k A a c=A a c:=by
 unfold G4 M3
 rw[if_neg (by omega),aN2]
 grind
theorem RP {k:Nat} {A:Nat→Nat→Rat} {b:Nat→Rat} {a:Nat} (h:a≤k):TF (M3 k A) k b a=b a:=by
 unfold TF M3
 rw[if_neg (by omega),aN2]
 grind
theorem adA {k:Nat} {A:Nat→Nat→Rat} {a c:Nat}:A a c=ZL k A (k+1) a c:=by
 unfold ZL
 split
 ·exact(R5 (by omega)).symm
 ·rfl
theorem acX {k:Nat} {A:Nat→Nat→Rat} {b:Nat→Rat} {a:Nat}:b a=Zv k A b (k+1) a:=by
 unfold Zv
 split
 ·exact(RP (by omega)).symm
 ·rfl
section
variable {k i:Nat} {A:Nat→Nat→Rat} {b:Nat→Rat}
theorem Si {c:Nat}:ZL k A i i c=A i c:=if_neg (aN1 _)
theorem Y4 {c:Nat} (h:k<i):ZL k A i k c=A k c:=by
 unfold ZL
 rw[if_pos h,R5 (aKl _)]
theorem atN:Zv k A b i i=b i:=if_neg (aN1 _)
theorem arU (h:k<i):Zv k A b i k=b k:=by
 unfold Zv
 rw[if_pos h,RP (aKl _)]
theorem ajM (h:A i k=0) {c:Nat}:G4 (M3 k A) k A i c=A i c:=by
 unfold G4 M3
 split
 ·rw[h,Rat.div_def,aN2,aN2];grind
 ·rw[aN2];grind
theorem ahO (h:A i k=0):TF (M3 k A) k b i=b i:=by
 unfold TF M3
 split
 ·rw[h,Rat.div_def,aN2,aN2];grind
 ·rw[aN2];grind
theorem ahQ (h:A i k=0) {a c:Nat}:ZL k A i a c=ZL k A (i+1) a c:=by
 unfold ZL
 by_cases h1:a<i
 ·rw[if_pos h1,if_pos (by omega)]
 ·rw[if_neg h1]
  by_cases h2:a=i
  ·subst h2
   rw[if_pos (by omega),ajM h]
  ·rw[if_neg (by omega)]
theorem ahW (h:A i k=0) {a:Nat}:Zv k A b i a=Zv k A b (i+1) a:=by
 unfold Zv
 by_cases h1:a<i
 ·rw[if_pos h1,if_pos (by omega)]
 ·rw[if_neg h1]
  by_cases h2:a=i
  ·subst h2
   rw[if_pos (by omega),ahO h]
  ·rw[if_neg (by omega)]
theorem alO (h:k<i) {c:Nat}:G4 (M3 k A) k A i c=A i c-A i k / A k k*A k c:=by
 unfold G4 M3
 rw[if_pos h]
theorem avY (h:k<i):TF (M3 k A) k b i=b i-A i k / A k k*b k:=by
 unfold TF M3
 rw[if_pos h]
theorem aeQ (hz:∀c,c<k→A k c=0) (h:k<i) {a c:Nat}:ZL k A i a c=elC k A i k a c:=by
 unfold elC
 by_cases h1:a=i∧c<k
 ·obtain⟨rfl,h2⟩:=h1
  rw[if_pos ⟨rfl,h2⟩,Si,alO h,hz c h2]
  grind
 ·rw[if_neg h1]
theorem ajH {j a c:Nat}:Pt (elC k A i j) i j (G4 (M3 k A) k A i j) a c=elC k A i (j+1) a c:=by
 unfold Pt elC
 by_cases h1:a=i∧c=j
 ·obtain⟨rfl,rfl⟩:=h1
  rw[if_pos ⟨rfl,rfl⟩,if_pos ⟨rfl,by omega⟩]
 ·rw[if_neg h1]
  by_cases h2:a=i∧c<j
  ·rw[if_pos h2,if_pos ⟨h2.1,by omega⟩]
  ·rw[if_neg h2,if_neg (by omega)]
theorem apK {n a c:Nat} (hc:c<n):elC k A i n a c=ZL k A (i+1) a c:=by
 unfold elC
 by_cases h1:a=i∧c<n
 ·obtain⟨rfl,_⟩:=h1
  rw[if_pos ⟨rfl,hc⟩]
  unfold ZL
  rw[if_pos (by omega)]
 ·rw[if_neg h1]
  unfold ZL
  by_cases h2:a<i
  ·rw[if_pos h2,if_pos (by omega)]
  ·rw[if_neg h2,if_neg (by omega)]
theorem asF {j:Nat}:elC k A i j i j=A i j:=by
 unfold elC
 rw[if_neg (by omega),Si]
theorem asR {j c:Nat} (h:k<i):elC k A i j k c=A k c:=by
 unfold elC
 rw[if_neg (by omega),Y4 h]
theorem alG {a:Nat}:zQ (Zv k A b i) i (TF (M3 k A) k b i) a=Zv k A b (i+1) a:=by
 unfold zQ Zv
 by_cases h1:a=i
 ·subst h1
  rw[if_pos rfl,if_pos (by omega)]
 ·rw[if_neg h1]
  by_cases h2:a<i
  ·rw[if_pos h2,if_pos (by omega)]
  ·rw[if_neg h2,if_neg (by omega)]
theorem aEl {m:Nat} {a:Nat}:zQ (zQ b k (b m)) m (b k) a=swp k m b a:=by
 unfold zQ swp
 by_cases h1:a=m
 ·subst h1
  rw[if_pos rfl]
  by_cases h2:a=k
  ·subst h2;rw[if_pos rfl]
  ·rw[if_neg h2,if_pos rfl]
 ·rw[if_neg h1]
  by_cases h2:a=k
  ·rw[if_pos h2,if_pos h2]
  ·rw[if_neg h2,if_neg h2,if_neg h1]
end
set_option maxHeartbeats 16000000 in
set_option maxRecDepth 30000 in
theorem S3 {lo fZ hi n b g c rb rg rc G η:Nat} {H:aA} {A0:Nat→Nat→Rat} {b0 X:Nat→Rat} (hS:Sy aF fZ hi n b g rb rg A0 b0 H) (hU:XC n 0 G A0 b0 X) (hX:cU η n X) (hn:n≤12) (hG:2^n*(G+1)≤68719476736) (hη:η≤274877906944) (dQ:lo≤fZ) (AX:lo≤rb) (hlH:lo≤H.length) (hhi:hi≤H.length) (AU:rb<H.length) :
  jA 118 [.ref b g 0 n c,.ref rb rg 0 n rc] lo H fun r H'=>r = .dU [.ref rb rg 0 n rc,VB true]∧C5 fZ hi rb H H'∧Rw aF rb rg n X H':=by
 refine jA.walk ⟨true,false⟩ Td (aL9 rfl) ?_
 have el:=hS.t.len (c:=c)
 simp only[PR,Ka,el,eH,VX,Nat.reduceEqDiff,Nat.reduceAdd,Nat.reduceLeDiff,Nat.reduceLT,Nat.reduceSub]
 have hgk:∀k,k≤n→gk G k≤68719476736:=fun k hk=>aKm (avB hk) hG
 have wn:∀k:Nat,k≤n→IntKind.i64.wrap ((k:Int)+1)=((k+1:Nat):Int):=fun k hk=>wN _ (by omega) (by omega)
 refine aR (fun(k:Nat) ρ H1=>k≤n∧(∃A bb,XC n k (gk G k) A bb X∧Sy aF fZ hi n b g rb rg A bb H1)∧C5 fZ hi rb H H1∧ρ 0 = .ref b g 0 n c∧ρ 1 = .ref rb rg 0 n rc∧ρ 6=VI n∧ρ 16=VI n∧ρ 17=VI k) (fun k=>n-k) 0
  ⟨aKP _,⟨A0,b0,hU,hS⟩,C5.refl,by (repeat' apply aL1)<;>first | rfl | trivial | assumption⟩ ?_
 rintro k ρ H1 ⟨hk,⟨A,bb,UC,hS1⟩,hO1,g0,g1,g6,g16,g17⟩
 by_cases TH:(k:Int)<(n:Int)
 ·
  have oJ:k<n:=by omega
  obtain⟨pm,hp1,hp2,hp3⟩:=UC.f.aiT oJ UC.u
  simp only[Cw,g0,g1,g6,g16,g17,TH,eH,VX,Nat.reduceEqDiff,Nat.reduceAdd,Nat.reduceLeDiff,Nat.reduceLT,Nat.reduceSub]
  refine aR (fun(m:Nat) aP H2=>H2=H1∧k≤m∧m≤n∧(∀r,k≤r→r<m→A r k=0)∧aP 0 = .ref b g 0 n c∧aP 1 = .ref rb rg 0 n rc∧aP 6=VI n∧aP 7=VI k∧aP 8=VI m∧aP 16=VI n∧aP 17=VI k) (fun m=>n-m) k
   ⟨rfl,aKl _,hk,fun r h1 h2=>by omega,by (repeat' apply aL1)<;>first | rfl | trivial | assumption⟩ ?_
  clear g0 g1 g6 g16 g17
  rintro m ρ H2 ⟨rfl,hkm,hmn,hzero,g0,g1,g6,g7,g8,g16,g17⟩
  have hm:m<n:=by
   rcases aKo m n with h | h
   ·exact h
   ·exact absurd (hzero pm hp1 (by omega)) hp3
  have agP:(m:Int)<(n:Int):=by omega
  have a1:=hS1.t.addr (c:=c) hm
  obtain⟨p1,q1,c1,c2,c3,_⟩:=hS1.spot hm oJ cW fL
  have c3:=(c3 true).trans (bH _)
  have es:=dD (A m k)
  by_cases hz:iY (A m k)=0
  ·have Ch:=zG.1 hz
   simp only[CA,g0,g6,g7,g8,agP,a1,c1,c2,c3,es,hz,wn m hmn,eH,VX,Nat.reduceEqDiff,Nat.reduceAdd,Nat.reduceLeDiff,Nat.reduceLT,Nat.reduceSub]
   exact⟨m+1,by omega,by omega,by omega,fun r h1 h2=>by
    rcases aKo r m with h | h
    ·exact hzero r h1 h
    ·rw[show r=m by omega]
     exact Ch,by (repeat' apply aL1)<;>first | rfl | trivial | assumption⟩
  ·have hmk:A m k≠0:=fun h=>hz (zG.2 h)
   have gD:¬(m:Int)=(n:Int):=by omega
   have W4:=UC.swp hkm hm
   have Su:swp k m A k k≠0:=by unfold Go.PM.swp;rw[if_pos rfl];exact hmk
   obtain⟨u,v,e1,e2,e3⟩:=hS1.t.swap oJ hm
   obtain rfl:p1=v:=Option.some.inj (c1.symm.trans e2)
   obtain⟨Ha,Hb,e4,e5,e6,e7,e8,e9⟩:=e3 lo dQ
   have ak:=hS1.t.addr (c:=c) oJ
   have r1:=hS1.r.addr (c:=rc) hm
   have r2:=(hS1.r.get hm true).trans (bH _)
   have r3:=hS1.r.addr (c:=rc) oJ
   have r4:=(hS1.r.get oJ true).trans (bH _)
   have hSb:Sy aF fZ hi n b g rb rg (Go.PM.swp k m A) bb Hb:=⟨e9,e8.2 _ _ _ hS1.d hS1.r,hS1.d⟩
   have r5:=hSb.r.addr (c:=rc) oJ
   obtain⟨Hc,f1,f2,hSc⟩:=hSb.put oJ AX cW fL (bb m)
   have r6:=hSc.r.addr (c:=rc) hm
   obtain⟨Hd,f3,f4,hSd⟩:=hSc.put hm AX cW fL (bb k)
   have hSd:=hSd.congr (fun _ _ _ _=>rfl) fun a _=>aEl (k:=k) (m:=m) (b:=bb)
   have hOd:C5 fZ hi rb H Hd:=((hO1.trans e8.aBy).trans f2).trans f4
   generalize hA':Go.PM.swp k m A=A' at *
   generalize xD:Go.PM.swp k m bb=IF at *
   simp only[CA,g0,g1,g6,g7,g8,agP,a1,c1,c2,c3,es,hz,gD,e1,e2,e4,e5,e6,ak,r1,r2,r3,r4,r5,r6,f1,f3,wn k hk,bH,eH,VX,Nat.reduceEqDiff,Nat.reduceAdd,Nat.reduceLeDiff,Nat.reduceLT,Nat.reduceSub]
   refine aR (fun(i:Nat) aP H2=>k+1≤i∧i≤n∧Sy aF fZ hi n b g rb rg (ZL k A' i) (Zv k A' IF i) H2∧C5 fZ hi rb H H2∧aP 0 = .ref b g 0 n c∧aP 1 = .ref rb rg 0 n rc∧aP 6=VI n∧aP 7=VI k∧aP 9=VI i∧aP 16=VI n∧aP 17=VI k) (fun i=>n-i) (k+1)
    ⟨aKl _,by omega,hSd.congr (fun _ _ _ _=>adA) fun _ _=>acX,hOd,by (repeat' apply aL1)<;>first | rfl | trivial | assumption⟩ ?_
   clear g0 g1 g6 g7 g8 g16 g17 hSd hOd f3 f4 r6 hSc f1 f2 r5 hSb
   rintro i ρ H2 ⟨hki,bX,hS2,QH,g0,g1,g6,g7,g9,g16,g17⟩
   have hg:=hgk k hk
   by_cases T2:(i:Int)<(n:Int)
   ·have uU:i<n:=by omega
    have a2:=hS2.t.addr (c:=c) uU
    obtain⟨p2,q2,d1,d2,d3,_⟩:=hS2.spot uU oJ cW fL
    have d3:=(d3 true).trans (bH _)
    rw[Si] at d3
    have SB:=dD (A' i k)
    by_cases Nq:iY (A' i k)=0
    ·have Ch:=zG.1 Nq
     simp only[yR,g0,g1,g6,g7,g9,T2,a2,d1,d2,d3,SB,Nq,wn i bX,eH,VX,Nat.reduceEqDiff,Nat.reduceAdd,Nat.reduceLeDiff,Nat.reduceLT,Nat.reduceSub]
     exact⟨i+1,by omega,by omega,by omega,hS2.congr (fun _ _ _ _=>ahQ Ch) fun _ _=>ahW Ch,QH,by (repeat' apply aL1)<;>first | rfl | trivial | assumption⟩
    ·have a3:=hS2.t.addr (c:=c) oJ
     obtain⟨p3,q3,d4,d5,d6,_⟩:=hS2.spot oJ oJ cW fL
     have d6:=(d6 true).trans (bH _)
     rw[Y4 (by omega)] at d6
     have bik:=W4.z.bits uU oJ
     have bkk:=W4.z.bits oJ oJ
     have ef:=Ej (A' i k) (A' k k) Su (by omega) (by omega)
     have bf:=GH (A' i k) (A' k k)
     have aeA:rb<H2.length:=kW (x:=((vec n (Zv k A' IF i)).map aF,3,true)) hS2.r
     have s1:=J0 (lo:=lo) (H:=H2) (q:=A' i k / A' k k) (by have:=QH.1;omega)
     have rf:=(kD (H:=H2) (g:=0) (es:=[aF (A' i k / A' k k)]) (e:=3) (w:=true))
     have Xn:=hS2.app (L:=[.row 0 [aF (A' i k / A' k k)] 3 true])
     have hO3:=QH.trans (C5.app (L:=[.row 0 [aF (A' i k / A' k k)] 3 true]))
     have hH2:hi≤H2.length:=aKm hhi QH.1
     simp only[yR,g0,g1,g6,g7,g9,T2,a2,a3,d1,d2,d3,d4,d5,d6,SB,Nq,ef,s1,eH,VX,Nat.reduceEqDiff,Nat.reduceAdd,Nat.reduceLeDiff,Nat.reduceLT,Nat.reduceSub]
     generalize hfq:A' i k / A' k k=fq at *
     refine aR (fun(j:Nat) aP H4=>k≤j∧j≤n∧Sy aF fZ hi n b g rb rg (elC k A' i j) (Zv k A' IF i) H4∧C5 fZ hi rb H H4∧aG H4 H2.length 0=some ([aF fq],3,true)∧aP 0 = .ref b g 0 n c∧aP 1 = .ref rb rg 0 n rc∧aP 6=VI n∧aP 7=VI k∧aP 9=VI i∧aP 10 = .ptr H2.length 0 0 0∧aP 11=VI j∧aP 16=VI n∧aP 17=VI k) (fun j=>n-j) k
      ⟨aKl _,hk,Xn.congr (fun _ _ _ _=>aeQ (fun c hc=>W4.u.1 k c oJ hc hc) (by omega)) fun _ _=>rfl,hO3,rf,by (repeat' apply aL1)<;>first | rfl | trivial | assumption⟩ ?_
     clear g0 g1 g6 g7 g9 g16 g17 Xn hO3 rf
     rintro j ρ H4 ⟨hkj,EY,hS4,hO4,rf,g0,g1,g6,g7,g9,g10,g11,g16,g17⟩
     have lf:bI true 3 (.ptr H2.length 0 0 0) H4=some (aF fq):=by rw[bS,rf];exact bH _
     by_cases ajX:(j:Int)<(n:Int)
     ·have GU:j<n:=by omega
      have a4:=hS4.t.addr (c:=c) uU
      have a5:=hS4.t.addr (c:=c) oJ
      obtain⟨p4,q4,t1,t2,t3,t4⟩:=hS4.spot uU GU cW fL
      obtain⟨p5,q5,t5,t6,t7,_⟩:=hS4.spot oJ GU cW fL
      have t3:=(t3 true).trans (bH _)
      have t7:=(t7 true).trans (bH _)
      rw[asF] at t3
      rw[asR (by omega)] at t7
      have bij:=W4.z.bits uU GU
      have bkj:=W4.z.bits oJ GU
      have em:=rW fq (A' k j) (by omega) (by omega)
      have bm:=qB fq (A' k j)
      have eS:=BE (A' i j) (fq*A' k j) (by omega) (by omega)
      have hel:A' i j-fq*A' k j=G4 (M3 k A') k A' i j:=by rw[alO (by omega),hfq]
      rw[hel] at eS
      obtain⟨H5,t8,t9,Yw⟩:=t4 lo (G4 (M3 k A') k A' i j) dQ
      have Yw:=Yw.congr (fun _ _ _ _=>ajH) fun _ _=>rfl
      have rf5:=t9.2 _ _ _ (by omega) (by omega) rf
      simp only[Co,g0,g6,g7,g9,g10,g11,ajX,a4,a5,t1,t2,t3,t5,t6,t7,t8,lf,em,eS,wn j EY,eH,VX,Nat.reduceEqDiff,Nat.reduceAdd,Nat.reduceLeDiff,Nat.reduceLT,Nat.reduceSub]
      exact⟨j+1,by omega,by omega,by omega,Yw,hO4.trans t9,rf5,by (repeat' apply aL1)<;>first | rfl | trivial | assumption⟩
     ·have Yp:j=n:=by omega
      subst Yp
      have hS4:=hS4.congr (fun _ c _ hc=>apK hc) fun _ _=>rfl
      have r7:=hS4.r.addr (c:=rc) uU
      have r8:=(hS4.r.get uU true).trans (bH _)
      have r9:=hS4.r.addr (c:=rc) oJ
      have r10:=(hS4.r.get oJ true).trans (bH _)
      rw[atN] at r8
      rw[arU (by omega)] at r10
      have bbi:=W4.right hX (by omega) uU
      have bbk:=W4.right hX (by omega) oJ
      have em:=rW fq (IF k) (by omega) (by omega)
      have bm:=qB fq (IF k)
      have eS:=BE (IF i) (fq*IF k) (by omega) (by omega)
      have hel:IF i-fq*IF k=TF (M3 k A') k IF i:=by rw[avY (by omega),hfq]
      rw[hel] at eS
      obtain⟨H5,t8,t9,Yw⟩:=hS4.put uU AX cW fL (TF (M3 k A') k IF i)
      have Yw:=Yw.congr (fun _ _ _ _=>rfl) fun _ _=>alG
      simp only[Co,g0,g1,g6,g7,g9,g10,g11,ajX,r7,r8,r9,r10,lf,em,eS,t8,wn i bX,eH,VX,Nat.reduceEqDiff,Nat.reduceAdd,Nat.reduceLeDiff,Nat.reduceLT,Nat.reduceSub]
      exact⟨i+1,by omega,by omega,by omega,Yw,hO4.trans t9,by (repeat' apply aL1)<;>first | rfl | trivial | assumption⟩
   ·have nC:i=n:=by omega
    subst nC
    have hU3:=W4.step Su oJ
    simp only[yR,g6,g9,g17,T2,wn k hk,eH,VX,Nat.reduceEqDiff,Nat.reduceAdd,Nat.reduceLeDiff,Nat.reduceLT,Nat.reduceSub]
    exact⟨k+1,by omega,by omega,⟨_,_,hU3,hS2.congr (fun a _ ha _=>if_pos ha) fun a ha=>if_pos ha⟩,QH,by (repeat' apply aL1)<;>first | rfl | trivial | assumption⟩
 ·have hke:k=n:=by omega
  subst hke
  have hg:=hgk k hk
  have w0:IntKind.i64.wrap ((k:Int)-1)=(k:Int)-1:=wrap64 (by omega) (by omega)
  simp only[Cw,g0,g1,g6,g16,g17,TH,w0,eH,VX,Nat.reduceEqDiff,Nat.reduceAdd,Nat.reduceLeDiff,Nat.reduceLT,Nat.reduceSub]
  refine aR (fun(s:Nat) aP H2=>s≤k∧Sy aF fZ hi k b g rb rg A (bkR A bb X s) H2∧C5 fZ hi rb H H2∧aP 0 = .ref b g 0 k c∧aP 1 = .ref rb rg 0 k rc∧aP 6=VI k∧aP 12=VI ((s:Int)-1)) (fun s=>s) k
   ⟨aKl _,hS1.congr (fun _ _ _ _=>rfl) fun a ha=>(if_neg (by omega)).symm,hO1,by (repeat' apply aL1)<;>first | rfl | trivial | assumption⟩ ?_
  clear g0 g1 g6 g16 g17
  rintro s ρ H2 ⟨hs,hS2,QH,g0,g1,g6,g12⟩
  by_cases hs0:(0:Int)≤(s:Int)-1
  ·obtain⟨t,rfl⟩:∃t,s=t+1:=⟨s-1,by omega⟩
   have hx:((t+1:Nat):Int)-1=(t:Int):=by omega
   rw[hx] at g12 hs0
   have QI:t<k:=by omega
   have hts:(0:Int)≤(t:Int):=by omega
   simp only[Cq,g0,g1,g6,g12,hts,wn t (by omega),eH,VX,Nat.reduceEqDiff,Nat.reduceAdd,Nat.reduceLeDiff,Nat.reduceLT,Nat.reduceSub]
   refine aR (fun(j:Nat) aP H3=>t+1≤j∧j≤k∧Sy aF fZ hi k b g rb rg A (zQ (bkR A bb X (t+1)) t (bk A bb X t j)) H3∧C5 fZ hi rb H H3∧aP 0 = .ref b g 0 k c∧aP 1 = .ref rb rg 0 k rc∧aP 6=VI k∧aP 12=VI t∧aP 13=VI j) (fun j=>k-j) (t+1)
    ⟨aKl _,by omega,hS2.congr (fun _ _ _ _=>rfl) fun a ha=>by
     unfold zQ
     by_cases h:a=t
     ·subst h
      rw[if_pos rfl,ahN]
      unfold bkR
      exact if_neg (by omega)
     ·rw[if_neg h],QH,by (repeat' apply aL1)<;>first | rfl | trivial | assumption⟩ ?_
   clear g0 g1 g6 g12
   rintro j ρ H3 ⟨htj,WM,Xn,hO3,g0,g1,g6,g12,g13⟩
   by_cases EY:(j:Int)<(k:Int)
   ·have GU:j<k:=by omega
    have r7:=Xn.r.addr (c:=rc) QI
    have r8:=(Xn.r.get QI true).trans (bH _)
    have r9:=Xn.r.addr (c:=rc) GU
    have r10:=(Xn.r.get GU true).trans (bH _)
    rw[show zQ (bkR A bb X (t+1)) t (bk A bb X t j) t=bk A bb X t j from if_pos rfl] at r8
    rw[show zQ (bkR A bb X (t+1)) t (bk A bb X t j) j=X j by unfold zQ bkR;rw[if_neg (by omega),if_pos (by omega)]] at r10
    have a4:=Xn.t.addr (c:=c) QI
    obtain⟨p4,q4,t1,t2,t3,_⟩:=Xn.spot QI GU cW fL
    have t3:=(t3 true).trans (bH _)
    have btj:=UC.z.bits QI GU
    have bxj:=hX.bits GU
    have bp:=UC.part hX (by omega) QI htj WM
    have em:=rW (A t j) (X j) (by omega) (by omega)
    have bm:=qB (A t j) (X j)
    have eS:=BE (bk A bb X t j) (A t j*X j) (by omega) (by omega)
    rw[←asG] at eS
    obtain⟨H5,t8,t9,Yw⟩:=Xn.put QI AX cW fL (bk A bb X t (j+1))
    have Yw:=Yw.congr (fun _ _ _ _=>rfl) (IF:=zQ (bkR A bb X (t+1)) t (bk A bb X t (j+1))) fun a _=>by
     unfold zQ
     by_cases h:a=t
     ·rw[if_pos h,if_pos h]
     ·rw[if_neg h,if_neg h,if_neg h]
    simp only[Cu,g0,g1,g6,g12,g13,EY,r7,r8,r9,r10,a4,t1,t2,t3,em,eS,t8,wn j WM,eH,VX,Nat.reduceEqDiff,Nat.reduceAdd,Nat.reduceLeDiff,Nat.reduceLT,Nat.reduceSub]
    exact⟨j+1,by omega,by omega,by omega,Yw,hO3.trans t9,by (repeat' apply aL1)<;>first | rfl | trivial | assumption⟩
   ·have Yp:j=k:=by omega
    subst Yp
    have r7:=Xn.r.addr (c:=rc) QI
    have r8:=(Xn.r.get QI true).trans (bH _)
    rw[show zQ (bkR A bb X (t+1)) t (bk A bb X t j) t=bk A bb X t j from if_pos rfl] at r8
    have a4:=Xn.t.addr (c:=c) QI
    obtain⟨p4,q4,t1,t2,t3,_⟩:=Xn.spot QI QI cW fL
    have t3:=(t3 true).trans (bH _)
    have btt:=UC.z.bits QI QI
    have bp:=UC.part hX (by omega) QI htj (aKl _)
    have ed:=Ej (bk A bb X t j) (A t t) (UC.u.2 t QI) (by omega) (by omega)
    rw[←UC.back QI] at ed
    obtain⟨H5,t8,t9,Yw⟩:=Xn.put QI AX cW fL (X t)
    have Yw:=Yw.congr (fun _ _ _ _=>rfl) (IF:=bkR A bb X t) fun a _=>by
     unfold zQ bkR
     by_cases h:a=t
     ·subst h;rw[if_pos rfl,if_pos (aKl _)]
     ·rw[if_neg h,if_neg h]
      by_cases h2:t+1≤a
      ·rw[if_pos h2,if_pos (by omega)]
      ·rw[if_neg h2,if_neg (by omega)]
    have wt:IntKind.i64.wrap ((t:Int)-1)=(t:Int)-1:=wrap64 (by omega) (by omega)
    simp only[Cu,g0,g1,g6,g12,g13,EY,r7,r8,a4,t1,t2,t3,ed,t8,wt,eH,VX,Nat.reduceEqDiff,Nat.reduceAdd,Nat.reduceLeDiff,Nat.reduceLT,Nat.reduceSub]
    exact⟨t,by omega,by omega,Yw,hO3.trans t9,by (repeat' apply aL1)<;>first | rfl | trivial | assumption⟩
  ·have hse:s=0:=by omega
   subst hse
   simp only[Cq,g1,g12,hs0,eH,VX,Nat.reduceEqDiff,Nat.reduceAdd,Nat.reduceLeDiff,Nat.reduceLT,Nat.reduceSub]
   exact⟨QH,hS2.r.congr fun a _=>if_pos (aKP _)⟩
end Go.PM
namespace Go.PM
theorem Zg (q:Rat):q*((q.den:Int):Rat)=((q.num:Int):Rat):=by
 have h1:mkRat q.num q.den=q:=Rat.mkRat_self q
 rw[Rat.mkRat_eq_div] at h1
 have h2:((q.den:Nat):Rat)≠0:=by
  have:=q.den_nz
  exact_mod_cast this
 rw[Rat.intCast_natCast]
 grind
theorem common {β:Nat} {f:Nat→Rat}:∀ {K:Nat},(∀k,k<K→aM (f k)≤β)→∃s:Int,s≠0∧s.natAbs<2^(K*β+1)∧∀k,k<K→CW s (K*β+1) (f k)
 | 0,_=>⟨1,by decide,by simp,fun k hk=>absurd hk (aLC _)⟩
 |
  K+1,h=>by
  obtain⟨s,h1,h2,h3⟩:=common (K:=K) fun k hk=>h k (by omega)
  have hK:=h K (by omega)
  have hd:(f K).den<2^β:=aKn (HC _) (aMp (by decide) (aKm oE hK))
  have hn:(f K).num.natAbs<2^β:=aKn (HC _) (aMp (by decide) (aKm pV hK))
  have e:2^((K+1)*β+1)=2^(K*β+1)*2^β:=by rw[←Nat.pow_add];congr 1;rw[aKQ];omega
  have azI:((f K).den:Int)≠0:=by have:=(f K).den_nz;omega
  refine⟨s*((f K).den:Int),aN3 h1 azI,?_,fun k hk => ?_⟩
  ·rw[aMX,e,aMY]
   exact aNU h2 hd
  ·by_cases hkK:k=K
   ·subst hkK
    refine⟨(f k).num*s,?_,?_⟩
    ·have hm:f k*(((f k).den:Int):Rat)=(((f k).num:Int):Rat):=Zg (f k)
     rw[aNV,aNV,←hm]
     grind
    ·rw[aMX,e,aLN]
     exact aNU h2 hn
   ·obtain⟨M,m1,m2⟩:=h3 k (by omega)
    refine⟨M*((f K).den:Int),?_,?_⟩
    ·rw[aNV,aNV,←m1]
     grind
    ·rw[aMX,e,aMY]
     exact aNU m2 hd
theorem cU.of {β n:Nat} {f:Nat→Rat} (h:∀k,k<n→aM (f k)≤β):cU (n*β+1) n f:=by
 obtain⟨s,h1,h2,h3⟩:=common h
 exact⟨s,h1,h2,h3⟩
theorem cU.wide {g h n:Nat} {f:Nat→Rat} (hf:cU g n f) (hg:g≤h):cU h n f:=by
 obtain⟨s,h1,h2,h3⟩:=hf
 exact⟨s,h1,aKn h2 (aMp (by decide) hg),fun i hi=>(h3 i hi).wide hg⟩
theorem cU.times {g h n:Nat} {f:Nat→Rat} {q:Rat} (hf:cU g n f) (hq:aM q≤h):cU (g+h) n fun i=>q*f i:=by
 obtain⟨s,h1,h2,h3⟩:=hf
 have hd:q.den<2^h:=aKn (HC _) (aMp (by decide) (aKm oE hq))
 have hn:q.num.natAbs<2^h:=aKn (HC _) (aMp (by decide) (aKm pV hq))
 have azI:(q.den:Int)≠0:=by have:=q.den_nz;omega
 have hm:q*((q.den:Int):Rat)=((q.num:Int):Rat):=Zg q
 have Ob:CW (q.den:Int) h q:=⟨q.num,hm,hn⟩
 refine⟨s*(q.den:Int),aN3 h1 azI,?_,fun i hi => ?_⟩
 ·rw[aMX,aMY,Nat.pow_add]
  exact aNU h2 hd
 ·have:=(h3 i hi).mul Ob
  rwa [Rat.mul_comm] at this
theorem apP {n β:Nat} {F:Nat→Nat→Rat} (h:∀i j,i<n→j<n→aM (F i j)≤β):∃s:Int,s≠0∧s.natAbs<2^(n*n*β+1)∧∀i j,i<n→j<n→CW s (n*n*β+1) (F i j):=by
 obtain⟨s,h1,h2,h3⟩:=common (K:=n*n) (f:=fun k=>F (k / n) (k % n)) fun k hk=>by
  have hn:0<n:=by
   cases n with
   | zero=>omega
   | succ n=>omega
  exact h _ _ (Nat.div_lt_of_lt_mul hk) (Nat.mod_lt _ hn)
 refine⟨s,h1,h2,fun i j hi hj => ?_⟩
 have hk:i*n+j<n*n:=by
  have:(i+1)*n≤n*n:=aKM _ hi
  rw[aKQ] at this
  omega
 have h4:=h3 (i*n+j) hk
 have e1:(i*n+j) / n=i:=by rw[aLN,Nat.mul_add_div (by omega),Nat.div_eq_of_lt hj,Nat.add_zero]
 have e2:(i*n+j) % n=j:=by rw[aLN,Nat.mul_add_mod,Nat.mod_eq_of_lt hj]
 simp only[e1,e2] at h4
 exact h4
theorem BM.arM {n g:Nat} {A:Nat→Nat→Rat} (hF:BM n A) (hS:qE g n n A) (hn:n≤16):∀(b:Nat→Rat) (h:Nat),cU h n b→∃X,fJ n A b X∧cU (h+(n*n*(2*(2^n*(g+1)))+5)) n X:=by
 have aAY:∀j,∃X,fJ n A (fun i=>if i=j then 1 else 0) X∧∀i,i<n→aM (X i)≤2*(2^n*(g+1)):=fun j=>by
  have hF':BM n (fun a c=>if c<n then A a c else if a=j then 1 else 0):=fun x hx=>hF x fun i hi=>by
   rw[←hx i hi]
   exact iT fun c hc=>by simp only[hc,if_true]
  have hS':qE g n (n+1) (fun a c=>if c<n then A a c else if a=j then 1 else 0):=by
   obtain⟨s,h1,h2,h3⟩:=hS
   refine⟨s,h1,h2,fun a c ha hc => ?_⟩
   by_cases hcn:c<n
   ·simp only[hcn,if_true]
    exact h3 a c ha hcn
   ·simp only[hcn,if_false]
    by_cases haj:a=j
    ·simp only[haj,if_true]
     exact⟨s,by rw[Rat.one_mul],h2⟩
    ·simp only[haj,if_false]
     exact CW.zero
  obtain⟨X,x1,x2⟩:=hF'.anB hS'
  refine⟨X,fun i hi => ?_,x2⟩
  have h:=x1 i hi
  have e:Sg (fun c=>(if c<n then A i c else if i=j then 1 else 0)*X c) n=Sg (fun c=>A i c*X c) n:=iT fun c hc=>by simp only[hc,if_true]
  rw[e] at h
  rw[h]
  simp[rhs]
 obtain⟨C,hC⟩:∃C:Nat→Nat→Rat,∀j,fJ n A (fun i=>if i=j then 1 else 0) (C j)∧∀i,i<n→aM (C j i)≤2*(2^n*(g+1)):=⟨fun j=>Classical.choose (aAY j),fun j=>Classical.choose_spec (aAY j)⟩
 obtain⟨s,s1,s2,s3⟩:=apP (n:=n) (F:=fun i j=>C j i) fun i j hi hj=>(hC j).2 i hi
 intro b h hb
 obtain⟨t,t1,t2,t3⟩:=hb
 refine⟨fun i=>Sg (fun j=>C j i*b j) n,fun i hi => ?_,s*t,aN3 s1 t1,?_,fun i hi => ?_⟩
 ·have e:Sg (fun i'=>A i i'*Sg (fun j=>C j i'*b j) n) n=Sg (fun j=>b j*Sg (fun i'=>A i i'*C j i') n) n:=by
   have e1:Sg (fun i'=>A i i'*Sg (fun j=>C j i'*b j) n) n=Sg (fun i'=>Sg (fun j=>A i i'*(C j i'*b j)) n) n:=iT fun i' _=>(Ll _ _ _).symm
   rw[e1,arF]
   refine iT fun j _ => ?_
   rw[←Ll]
   exact iT fun i' _=>by grind
  rw[e,NT (k:=i) hi fun j hj DV=>by rw[(hC j).1 i hi];simp only[];rw[if_neg (by omega)];grind,(hC i).1 i hi]
  simp only[if_true]
  grind
 ·rw[aMX]
  have h2:s.natAbs*t.natAbs<2^(n*n*(2*(2^n*(g+1)))+1)*2^h:=aNU s2 t2
  rw[←Nat.pow_add] at h2
  exact aKn h2 (aMp (by decide) (by omega))
 ·exact(CW.aiO hn fun j hj=>(s3 i j hi hj).mul (t3 j hj)).wide (by omega)
theorem aAU {f:Nat→Rat} {n:Nat} (h:∀i,i<n→0≤f i) {j:Nat} (hj:j<n):f j≤Sg f n:=by
 induction n with
 | zero=>omega
 |
  succ n ih =>
  have h0:=Rs fun i (hi:i<n)=>h i (by omega)
  have hn:=h n (by omega)
  rw[Sg]
  by_cases EY:j=n
  ·subst EY;grind
  ·have:=ih (fun i hi=>h i (by omega)) (by omega)
   grind
theorem aiM (x:Nat→Rat):∀n,1≤n→∃m,m<n∧∀j,j<n→x j≤x m
 |
  n+1,_=>by
  by_cases hn:n=0
  ·subst hn
   exact⟨0,by decide,fun j hj=>by rw[show j=0 by omega];exact aNR⟩
  ·obtain⟨m,h1,h2⟩:=aiM x n (by omega)
   by_cases h:x m≤x n
   ·exact⟨n,by omega,fun j hj=>by
     by_cases EY:j=n
     ·subst EY;exact aNR
     ·exact Rat.le_trans (h2 j (by omega)) h⟩
   ·exact⟨m,by omega,fun j hj=>by
     by_cases EY:j=n
     ·subst EY
      have:=Rat.not_le.1 h
      grind
     ·exact h2 j (by omega)⟩
def svA (n:Nat) (G:Nat→Nat→Rat) (E:Nat→Rat) (r:Rat) (i j:Nat):Rat:=(if j=i then Sg (G i) n+E i+r else 0)-G i j
theorem aqT {n:Nat} {G:Nat→Nat→Rat} {E x:Nat→Rat} {r:Rat} {i:Nat} (hi:i<n):Sg (fun j=>svA n G E r i j*x j) n=(Sg (G i) n+E i+r)*x i-Sg (fun j=>G i j*x j) n:=by
 have e:Sg (fun j=>svA n G E r i j*x j) n=Sg (fun j=>if j=i then (Sg (G i) n+E i+r)*x i else 0) n-Sg (fun j=>G i j*x j) n:=by
  rw[←SQ]
  refine iT fun j _ => ?_
  unfold svA
  by_cases h:j=i
  ·subst h
   rw[if_pos rfl,if_pos rfl]
   grind
  ·rw[if_neg h,if_neg h]
   grind
 rw[e,NT (k:=i) hi fun j _ hj=>if_neg hj,if_pos rfl]
theorem Rc {n:Nat} {G:Nat→Nat→Rat} {E x:Nat→Rat} {r M:Rat} (hG:∀i j,0≤G i j) (hE:∀i,0≤E i) (hr:0≤r) (hx:fJ n (svA n G E r) (fun _=>0) x) (hM:0<M) (hle:∀j,j<n→x j≤M) {i:Nat} (hi:i<n) (hxi:x i=M) :
  E i=0∧∀j,j<n→0<G i j→x j=M:=by
 have h1:=hx i hi
 rw[aqT hi,hxi] at h1
 have h2:Sg (fun j=>G i j*(M-x j)) n+(E i+r)*M=0:=by
  have e:Sg (fun j=>G i j*(M-x j)) n=M*Sg (G i) n-Sg (fun j=>G i j*x j) n:=by
   rw[←Ll,←SQ]
   exact iT fun j _=>by grind
  rw[e]
  grind
 have h3:∀j,j<n→0≤G i j*(M-x j):=fun j hj=>aN4 (hG i j) (by have:=hle j hj;grind)
 have h4:=Rs h3
 have hEi:=hE i
 have h5:0≤E i*M:=aN4 hEi (Rat.le_of_lt hM)
 have h6:0≤r*M:=aN4 hr (Rat.le_of_lt hM)
 refine⟨?_,fun j hj hg => ?_⟩
 ·have h7:E i*M=0:=by grind
  rcases Rat.mul_eq_zero.1 h7 with h | h
  ·exact h
  ·grind
 ·have h7:=aAU h3 hj
  have h8:G i j*(M-x j)=0:=by have:=h3 j hj;grind
  rcases Rat.mul_eq_zero.1 h8 with h | h
  ·grind
  ·grind
theorem apL {n:Nat} {A:Nat→Nat→Rat} {x:Nat→Rat} (hx:fJ n A (fun _=>0) x):fJ n A (fun _=>0) fun i => -x i:=fun i hi=>by
 have e:Sg (fun j=>A i j * -x j) n=(-1)*Sg (fun j=>A i j*x j) n:=by
  rw[←Ll]
  exact iT fun j _=>by grind
 rw[e,hx i hi]
 grind
theorem anL {n:Nat} {G:Nat→Nat→Rat} {E:Nat→Rat} {r:Rat} (hG:∀i j,0≤G i j) (hE:∀i,0≤E i) (hr:0≤r)
  (wQ:∀S:Nat→Prop,(∀i j,i<n→j<n→S i→0<G i j→S j)→(∀i,i<n→S i→E i=0)→∀i,i<n→¬S i):BM n (svA n G E r):=by
 have half:∀x,fJ n (svA n G E r) (fun _=>0) x→∀j,j<n→x j≤0:=fun x hx j hj=>by
  obtain⟨m,m1,m2⟩:=aiM x n (by omega)
  refine Rat.not_lt.1 fun lR => ?_
  have hM:0<x m:=by have:=m2 j hj;grind
  refine wQ (fun i=>x i=x m) (fun i k hi hk hS hg=>(Rc hG hE hr hx hM m2 hi hS).2 k hk hg) (fun i hi hS=>(Rc hG hE hr hx hM m2 hi hS).1) m m1 rfl
 intro x hx j hj
 have h1:=half x hx j hj
 have h2 : -x j≤0:=half _ (apL hx) j hj
 grind
section
variable {g:List (List Rat)} {e:List Rat} {n:Nat} {S:Nat→Prop}
def noS (S:Nat→Prop) (st:List Bool):Prop:=∀i,S i→st.getD i false=false
theorem Zt {st:List Bool} {i:Nat} {v:Bool} (h:noS S st) (hv:S i→v=false):noS S (st.set i v):=fun k hk=>by
 rw[aKi,List.getElem?_set]
 by_cases Wp:i=k
 ·subst Wp
  rw[if_pos rfl]
  by_cases hl:i<st.length
  ·rw[if_pos hl];exact hv hk
  ·rw[if_neg hl];rfl
 ·rw[if_neg Wp]
  have:=h k hk
  rwa [aKi] at this
theorem J9 {f:List Bool→Nat→List Bool} {st:List Bool} (h:noS S st):∀m,(∀st j,j<m→noS S st→noS S (f st j))→noS S ((List.range m).foldl f st)
 | 0,_=>h
 |
  m+1,hf=>by
  rw[sB]
  exact hf _ m (by omega) (J9 h m fun st j hj=>hf st j (by omega))
theorem ahD (mM:∀i j,S i→j<n→0<(g.getD i []).getD j 0→S j) (he:∀i,S i→¬0<e.getD i 0) (m:Nat):noS S (qG g e n m):=by
 refine J9 (fun i _ => ?_) m fun st _ _ h => ?_
 ·rw[aKi,List.getElem?_replicate]
  split<;>rfl
 ·refine J9 h n fun st i _ h => ?_
  unfold Mq Q0
  refine J9 (Zt h fun hi => ?_) n fun st j hj h => ?_
  ·rw[h i hi,decide_eq_false (he i hi)]
   rfl
  ·refine Zt h fun hi => ?_
   rw[h i hi,Bool.false_or]
   by_cases hg:0<(g.getD i []).getD j 0
   ·rw[h j (mM i j hi hj hg),Bool.and_false]
   ·rw[decide_eq_false hg]
    rfl
end
end Go.PM
namespace Go.PM
theorem CW.add {s:Int} {g:Nat} {a b:Rat} (ha:CW s g a) (hb:CW s g b):CW s (g+1) (a+b):=by
 obtain⟨M,m1,m2⟩:=ha
 obtain⟨N,n1,n2⟩:=hb
 refine⟨M+N,by rw[Rat.add_mul,m1,n1,Rat.intCast_add],?_⟩
 have:=Int.natAbs_add_le M N
 rw[Nat.pow_succ]
 omega
theorem CW.neg {s:Int} {g:Nat} {a:Rat} (ha:CW s g a):CW s g (-a):=by
 obtain⟨M,m1,m2⟩:=ha
 exact⟨-M,by rw[Rat.neg_mul,m1,Rat.intCast_neg],by rw[Int.natAbs_neg];exact m2⟩
theorem cU.congr {h n:Nat} {X Y:Nat→Rat} (hX:cU h n X) (he:∀i,i<n→X i=Y i):cU h n Y:=by
 obtain⟨t,h1,h2,h3⟩:=hX
 exact⟨t,h1,h2,fun i hi=>by rw[←he i hi];exact h3 i hi⟩
abbrev F9:=List Rat×List (List Rat)×List Rat
def gE (g:List (List Rat)) (i j:Nat):Rat:=(g.getD i []).getD j 0
def eE (e:List Rat) (i:Nat):Rat:=e.getD i 0
def Lw (x:F9) (r:Rat):Nat→Nat→Rat:=svA x.1.length (gE x.2.1) (eE x.2.2) r
structure tH (x:F9):Prop where
 n:1≤x.1.length∧x.1.length≤6
 g:x.2.1.length=x.1.length
 e:x.2.2.length=x.1.length
 w:kG x.1=true
 wb:∀q∈x.1,aM q≤665
 gr:∀r∈x.2.1,r.length=x.1.length∧∀q∈r,0≤q∧aM q≤665
 er:∀q∈x.2.2,0≤q∧aM q≤665
 gd:∀i,gE x.2.1 i i=0
 ok:BR x=true
theorem Dd {P:Rat→Prop} {u:List Rat} (h:∀q∈u,P q) (h0:P 0) (i:Nat):P (u.getD i 0):=by
 rw[aKi]
 cases hu:u[i]? with
 | none=>exact h0
 | some q=>exact h q (aLf hu)
section
variable {x:F9} (hx:tH x)
include hx
theorem tH.XB {P:Rat→Prop} (h:∀q,0≤q∧aM q≤665→P q) (i j:Nat):P (gE x.2.1 i j):=by
 refine h _ ?_
 unfold gE
 have h0:(0:Rat)≤0∧aM 0≤665:=⟨aNR,by rw[vB];decide⟩
 rw[aKi (l:=x.2.1)]
 cases hr:x.2.1[i]? with
 | none=>exact Dd (P:=fun q=>0≤q∧aM q≤665) (u:=[]) (fun q hq=>by cases hq) h0 j
 | some r=>exact Dd (P:=fun q=>0≤q∧aM q≤665) (hx.gr r (aLf hr)).2 h0 j
theorem tH.Tn {P:Rat→Prop} (h:∀q,0≤q∧aM q≤665→P q) (i:Nat):P (eE x.2.2 i) :=
 h _ (Dd (P:=fun q=>0≤q∧aM q≤665) hx.er ⟨aNR,by rw[vB];decide⟩ i)
theorem tH.aqK {r:Rat} (hr:0≤r):BM x.1.length (Lw x r):=by
 refine anL (hx.XB fun q h=>h.1) (hx.Tn fun q h=>h.1) hr fun S h1 h2 i hi hS => ?_
 have hno:=ahD (g:=x.2.1) (e:=x.2.2) (n:=x.2.2.length) (S:=fun i=>i<x.1.length∧S i) (fun i j hi hj hg=>⟨by rw[←hx.e];exact hj,h1 i j hi.1 (by rw[←hx.e];exact hj) hi.2 hg⟩) (fun i hi h=>by
  have:=h2 i hi.1 hi.2
  unfold eE at this
  rw[this] at h
  exact absurd h (by decide)) x.2.2.length i ⟨hi,hS⟩
 have jN:=aKz.1 hx.ok
 have hlen:=D7 x.2.1 x.2.2 x.2.2.length x.2.2.length
 obtain⟨v,xU⟩:∃v,(qG x.2.1 x.2.2 x.2.2.length x.2.2.length)[i]? = some v:=⟨_,aKs (by rw[hlen,hx.e];exact hi)⟩
 rw[aKi,xU,aNx] at hno
 have:=jN _ (aLf xU)
 rw[hno] at this
 cases this
theorem tH.scaled {r:Rat} {K:Nat} (hK:K=43) (hr:aM r≤665):qE (K*665+9) x.1.length x.1.length (Lw x r):=by
 obtain⟨s,h1,h2,h3⟩:=common (β:=665) (K:=K) (f:=fun k=>if k<36 then gE x.2.1 (k / 6) (k % 6) else if k<42 then eE x.2.2 (k-36) else r) fun k hk=>by
  split
  ·exact hx.XB (fun q h=>h.2) _ _
  ·split
   ·exact hx.Tn (fun q h=>h.2) _
   ·exact hr
 have hn:=hx.n
 have kg:∀i j,i<6→j<6→CW s (K*665+1) (gE x.2.1 i j):=fun i j hi hj=>by
  have h:=h3 (i*6+j) (by omega)
  rw[if_pos (by omega)] at h
  have e1:(i*6+j) / 6=i:=by omega
  have e2:(i*6+j) % 6=j:=by omega
  rw[e1,e2] at h
  exact h
 have ke:∀i,i<6→CW s (K*665+1) (eE x.2.2 i):=fun i hi=>by
  have h:=h3 (36+i) (by omega)
  rw[if_neg (by omega),if_pos (by omega),show 36+i-36=i by omega] at h
  exact h
 have kr:CW s (K*665+1) r:=by
  have h:=h3 42 (by omega)
  rw[if_neg (by omega),if_neg (by omega)] at h
  exact h
 refine⟨s,h1,aKn h2 (aMp (by decide) (by omega)),fun i j hi hj => ?_⟩
 unfold Lw svA
 have e:∀a b:Rat,a-b=a + -b:=fun a b=>Rat.sub_eq_add_neg a b
 rw[e]
 have Yt:CW s (K*665+5) (Sg (gE x.2.1 i) x.1.length):=CW.aiO (by omega) fun j hj=>kg i j (by omega) (by omega)
 have hd:CW s (K*665+8) (if j=i then Sg (gE x.2.1 i) x.1.length+eE x.2.2 i+r else 0):=by
  split
  ·exact((Yt.add ((ke i (by omega)).wide (by omega))).add (kr.wide (by omega))).wide (by omega)
  ·exact CW.zero
 exact(hd.add ((kg i j (by omega) (by omega)).neg.wide (by omega)))
theorem tH.step {γ:Nat} (hγ:γ=132000000) {r:Rat} (h0:0≤r) (hr:aM r≤665) {b:Nat→Rat} {h:Nat} (hb:cU h x.1.length b):∃X,fJ x.1.length (Lw x r) b X∧cU (h+γ) x.1.length X:=by
 have hn:=hx.n
 obtain⟨K,hK⟩:∃K,K=43:=⟨43,rfl⟩
 obtain⟨X,h1,h2⟩:=(hx.aqK h0).arM (hx.scaled hK hr) (by omega) b h hb
 refine⟨X,h1,h2.wide ?_⟩
 have e1:2^x.1.length≤2^6:=aMp (by decide) hn.2
 have e2:2^x.1.length*(K*665+9+1)≤2^6*(K*665+9+1):=aKM _ e1
 have e3:x.1.length*x.1.length≤6*6:=Nat.mul_le_mul hn.2 hn.2
 have e4:x.1.length*x.1.length*(2*(2^x.1.length*(K*665+9+1)))≤6*6*(2*(2^6*(K*665+9+1))):=Nat.mul_le_mul e3 (Nat.mul_le_mul_left _ e2)
 have e5:6*6*(2*(2^6*(K*665+9+1)))=4608*(K*665+10):=by rw[show (2:Nat)^6=64 by decide];omega
 omega
omit hx in
end
open Classical in
noncomputable def P8 (n:Nat) (A:Nat→Nat→Rat) (b:Nat→Rat):Nat→Rat:=if h:∃X,fJ n A b X then Classical.choose h else fun _=>0
theorem Un {n:Nat} {A:Nat→Nat→Rat} {b:Nat→Rat} (h:∃X,fJ n A b X):fJ n A b (P8 n A b):=by
 unfold P8
 rw[dif_pos h]
 exact Classical.choose_spec h
def tM (b:List Rat) (X:Nat→Rat) (n:Nat):Rat:=Sg (fun i=>b.getD i 0*X i) n
theorem tH.sol {γ:Nat} (hγ:γ=132000000) {x:F9} (hx:tH x) {r:Rat} (h0:0≤r) (hr:aM r≤665) {b:Nat→Rat} {h:Nat} (hb:cU h x.1.length b):fJ x.1.length (Lw x r) b (P8 x.1.length (Lw x r) b)∧cU (h+γ) x.1.length (P8 x.1.length (Lw x r) b):=by
 obtain⟨X,h1,h2⟩:=hx.step hγ h0 hr hb
 have h3:=Un ⟨X,h1⟩
 exact⟨h3,h2.congr fun i hi=>(hx.aqK h0).uniq h1 h3 i hi⟩
theorem rz0:aM (0:Rat)≤665:=by rw[vB];decide
theorem Vf {f:Nat→Rat} {B n:Nat} (h:∀i,i<n→aM (f i)≤B):∀m,m≤n→aM (Sg f m)≤m*(B+1)+1
 | 0,_=>by show aM 0≤_;rw[vB];omega
 |
  m+1,hm=>by
  have h1:=Vf h m (by omega)
  have h2:=yE (Sg f m) (f m)
  have h3:=h m (by omega)
  rw[Sg,aKQ]
  omega
theorem tH.begun {x:F9} (hx:tH x) {X:Nat→Rat} {h:Nat} (hX:cU h x.1.length X):∀m,m≤x.1.length→aM (tM x.1 X m)≤6*(h+666)+1:=fun m hm=>by
 have h1:=Vf (f:=fun i=>x.1.getD i 0*X i) (B:=665+h) (n:=x.1.length) (fun i hi=>by
  have h2:=qB (x.1.getD i 0) (X i)
  have h3:=hX.bits hi
  have h4:aM (x.1.getD i 0)≤665:=Dd (P:=fun q=>aM q≤665) hx.wb rz0 i
  omega) m hm
 have hn:=hx.n
 have h2:m*(665+h+1)≤6*(665+h+1):=aKM _ (by omega)
 unfold tM
 omega
end Go.PM
namespace Go.PM
open Go.Lib
theorem aaG {qs:List Rat}:dO qs=Sg (fun i=>qs.getD i 0) qs.length:=by
 have key:∀(n:Nat) (f:Nat→Rat),dO (vec n f)=Sg f n:=fun n f=>by
  induction n with
  | zero=>rfl
  |
   succ n ih =>
   rw[Jo,Sg,←ih]
   unfold dO
   rw[List.foldl_append]
   rfl
 rw[←key,←XM]
theorem WY {g:List (List Rat)} {i:Nat} (hi:i<g.length):∃r,g[i]? = some r∧∀j,gE g i j=r.getD j 0:=by
 refine⟨g[i],aKs hi,fun j => ?_⟩
 unfold gE
 rw[aKi (l:=g),aKs hi]
 rfl
abbrev I5 (x:F9):VV:=Cr aF x.1 x.2.1 x.2.2
section
variable {x:F9} (hx:tH x)
include hx
theorem HT (i:Nat) (hi:i<x.1.length):TC 136 [I5 x,VI i] (aF (Sg (gE x.2.1 i) x.1.length+eE x.2.2 i)):=by
 refine TC.walk ⟨true,false⟩ FP rfl (aL9 rfl) (vL (RC _ _ _) rfl) (rS _) ?_
 obtain⟨r,hr,hg⟩:=WY (g:=x.2.1) (i:=i) (by rw[hx.g];exact hi)
 have MB:=hx.gr r (aLf hr)
 obtain⟨q,hq⟩:∃q,x.2.2[i]? = some q:=⟨_,aKs (by rw[hx.e];exact hi)⟩
 have hqm:=hx.er q (aLf hq)
 have hn:=hx.n
 have he:eE x.2.2 i=q:=by unfold eE;rw[aKi,hq];rfl
 have hs:Sg (gE x.2.1 i) x.1.length=dO r:=by
  rw[aaG,MB.1]
  exact iT fun j _=>hg j
 rw[he,hs]
 have a1:=fun H=>aI (f:=aC aF) (t := .op) (H:=H) (size:=1) (k := .i64) hr rfl
 have a2:=fun H=>aI (f:=aF) (t := .op) (H:=H) (size:=3) (k := .i64) hq rfl
 have l1:∀K,bI false 1 (.cF (I5 x) 1) K=some (aC (aC aF) x.2.1):=fun K=>rfl
 have l2:∀K,bI false 1 (.cF (I5 x) 2) K=some (aC aF x.2.2):=fun K=>rfl
 have l3:∀K,bI false 1 (.cF (aC aF r) 0) K=some (aC aF r):=fun K=>rfl
 have jN:(aB (I5 x)).all bL=true:=rfl
 have hsb:=DT (B:=665) (n:=6) (fun q hq=>(MB.2 q hq).2) (by omega)
 have e1:=oB (dO r) q (by omega) (by omega)
 simp only[Bp,zF,jN,if_true,l1,l2,l3,a1,a2,eH,VX,Nat.reduceEqDiff,Nat.reduceAdd,Nat.reduceLeDiff,Nat.reduceLT,Nat.reduceSub]
 refine rR rfl (OR (v:=aC aF r) r (B:=665) (Rd.tree cW) (aKl _) (fun q hq=>(MB.2 q hq).2) (by omega) (by decide) (by omega)) fun y L hy => ?_
 subst hy
 have s1:bK 0 3 (.ptr 0 0 0 0) (aF (dO r+q)) ([cell0]++L)=some ([.row 0 [aF (dO r+q)] 3 true]++L):=by
  have Kd:aG ([cell0]++L) 0 0=some ([VV.agg [VB false,.tree [] .nil,.tree [] .nil]],3,true):=rfl
  rw[bR (e:=3) Kd (by exact aNA) (aKl _) (cW _) (fL _)]
  rfl
 have l4:bI true 3 (.ptr 0 0 0 0) ([.row 0 [aF (dO r+q)] 3 true]++L)=some (aF (dO r+q)):=by
  have Kd:aG ([fK.row 0 [aF (dO r+q)] 3 true]++L) 0 0=some ([aF (dO r+q)],3,true):=rfl
  rw[bS,Kd]
  exact bH _
 simp only[l2,a2,bH,e1,s1,l4,eH,VX,Nat.reduceEqDiff,Nat.reduceAdd,Nat.reduceLeDiff,Nat.reduceLT,Nat.reduceSub]
 exact aH (dW _)
end
def mP (G:Nat→Nat→Rat) (i j a c:Nat):Rat:=if a<i∨(a=i∧c<j) then -G a c else 0
def mD (n:Nat) (G:Nat→Nat→Rat) (E:Nat→Rat) (r:Rat) (i a c:Nat):Rat:=if a=c∧a<i then svA n G E r a c else -G a c
section
variable {n:Nat} {G:Nat→Nat→Rat} {E:Nat→Rat} {r:Rat}
theorem apZ {a c:Nat}:(0:Rat)=mP G 0 0 a c:=by unfold mP;rw[if_neg (by omega)]
theorem ayT {i j a c:Nat}:Pt (mP G i j) i j (-G i j) a c=mP G i (j+1) a c:=by
 unfold Pt mP
 by_cases h:a=i∧c=j
 ·obtain⟨rfl,rfl⟩:=h
  rw[if_pos ⟨rfl,rfl⟩,if_pos (by omega)]
 ·rw[if_neg h]
  by_cases h2:a<i∨(a=i∧c<j)
  ·rw[if_pos h2,if_pos (by omega)]
  ·rw[if_neg h2,if_neg (by omega)]
theorem azM {i a c:Nat} (hc:c<n):mP G i n a c=mP G (i+1) 0 a c:=by
 unfold mP
 by_cases h2:a<i∨(a=i∧c<n)
 ·rw[if_pos h2,if_pos (by omega)]
 ·rw[if_neg h2,if_neg (by omega)]
theorem azR {a c:Nat} (ha:a<n):mP G n 0 a c=mD n G E r 0 a c:=by
 unfold mP mD
 rw[if_pos (by omega),if_neg (by omega)]
theorem axJ {i:Nat}:mD n G E r i i i = -G i i:=by
 unfold mD
 rw[if_neg (by omega)]
theorem axL {i a c:Nat}:Pt (mD n G E r i) i i (-G i i+(Sg (G i) n+E i)+r) a c=mD n G E r (i+1) a c:=by
 unfold Pt mD
 by_cases h:a=i∧c=i
 ·obtain⟨rfl,rfl⟩:=h
  rw[if_pos ⟨rfl,rfl⟩,if_pos ⟨rfl,by omega⟩]
  unfold svA
  rw[if_pos rfl]
  grind
 ·rw[if_neg h]
  by_cases h2:a=c∧a<i
  ·rw[if_pos h2,if_pos ⟨h2.1,by omega⟩]
  ·rw[if_neg h2,if_neg (by omega)]
theorem axE {a c:Nat} (ha:a<n):mD n G E r n a c=svA n G E r a c:=by
 unfold mD
 by_cases h:a=c
 ·rw[if_pos ⟨h,ha⟩]
 ·rw[if_neg (by omega)]
  unfold svA
  rw[if_neg (by omega)]
  grind
end
def YB (P:Nat→Nat→aA→VV→Prop) (H:aA) (r:VV) (H':aA):Prop:=H.length≤H'.length∧(∀b g x,aG H b g=some x→aG H' b g=some x)∧P H.length H'.length H' r
theorem L6 {F lo:Nat} {args:List VV} {P:Nat→Nat→aA→VV→Prop} {H:aA} {K:VV→aA→Prop} (Ci:Fm.contains F=true) (h:jA F args lo H (YB P H)) (hk:∀r H',H.length≤H'.length→(∀b g x,aG H b g=some x→aG H' b g=some x)→P H.length H'.length H' r→K r H'):dH F args lo H K :=
 fS Ci (h.mono fun r H' ⟨h1,h2,h3⟩=>hk r H' h1 h2 h3)
set_option maxHeartbeats 8000000 in
set_option maxRecDepth 20000 in
theorem EO {x:F9} (hx:tH x) {lo:Nat} {H:aA} (r:Rat) (hr:aM r≤665) (dQ:lo≤H.length) :
  jA 119 [I5 x,aF r,VB false] lo H (YB (TabIs aF 3 (P7 x.1.length x.1.length (Lw x r))) H):=by
 refine jA.walk ⟨true,false⟩ CU (aL9 rfl) ?_
 have hn:=hx.n
 have jN:(aB (I5 x)).all bL=true:=rfl
 have l0:∀K,bI false 1 (.cF (I5 x) 0) K=some (aC aF x.1):=fun K=>rfl
 have l1:∀K,bI false 1 (.cF (I5 x) 1) K=some (aC (aC aF) x.2.1):=fun K=>rfl
 have ls:∀K,bI true 3 (.cF (I5 x) 0) K=some (I5 x):=fun K=>rfl
 have lr:∀K,bI true 3 (.cF (aF r) 0) K=some (aF r):=fun K=>bH r
 simp only[xC,vE,jN,fL,if_true,l0,aL2,eH,VX,Nat.reduceEqDiff,Nat.reduceAdd,Nat.reduceLeDiff,Nat.reduceLT,Nat.reduceSub]
 refine rR rfl (Tj x.1.length (by omega) dQ) fun z L hz => ?_
 rw[aiR] at hz
 obtain⟨b,g,c,rfl,hc,hT⟩:=hz.tb
 have hhi:H.length≤(H++L).length:=(aMg H L).length_le
 have hO:(H++L).length≤(H++L).length∧∀b g x,aG H b g=some x→aG (H++L) b g=some x:=⟨aKl _,fun _ _ _ h=>gP h⟩
 generalize hHz:H++L=Hz at *
 have tr:∀ {K K':aA},(Hz.length≤K.length∧∀b g x,aG H b g=some x→aG K b g=some x)→Qn H.length Hz.length K K'→(Hz.length≤K'.length∧∀b g x,aG H b g=some x→aG K' b g=some x):=fun h o=>⟨by rw[o.1];exact h.1,fun b g x hx=>o.2 b g x (.inl (kW hx)) (h.2 b g x hx)⟩
 have hlen:=hT.len (c:=c)
 simp only[hlen,eH,VX,Nat.reduceEqDiff,Nat.reduceAdd,Nat.reduceLeDiff,Nat.reduceLT,Nat.reduceSub]
 generalize hG:gE x.2.1=G at *
 generalize hE:eE x.2.2=E at *
 generalize hnn:x.1.length=n at *
 have bG:∀i j,aM (G i j)≤665:=fun i j=>by rw[←hG];exact hx.XB (P:=fun q=>aM q≤665) (fun q h=>h.2) i j
 have wn:∀k:Nat,k≤n→IntKind.i64.wrap ((k:Int)+1)=((k+1:Nat):Int):=fun k hk=>wN _ (by omega) (by omega)
 refine aR (fun(i:Nat) ρ H1=>i≤n∧Tb aF H.length Hz.length n n b g (mP G i 0) H1∧(Hz.length≤H1.length∧∀b g x,aG H b g=some x→aG H1 b g=some x)∧ρ 2=VB false∧ρ 3 = .cF (I5 x) 0∧ρ 4 = .cF (aF r) 0∧ρ 7 = .ref b g 0 n c∧ρ 16=VI n∧ρ 17=VI i) (fun i=>n-i) 0
  ⟨aKP _,hT.congr fun _ _ _ _=>apZ,hO,by (repeat' apply aL1)<;>first | rfl | trivial | assumption⟩ ?_
 clear hT hO hlen
 rintro i ρ H1 ⟨hi,hT,hO,g2,g3,g4,g7,g16,g17⟩
 have hlen:=hT.len (c:=c)
 by_cases bX:(i:Int)<(n:Int)
 ·have uU:i<n:=by omega
  simp only[mZ,g2,g3,g4,g7,g16,g17,bX,hlen,eH,VX,Nat.reduceEqDiff,Nat.reduceAdd,Nat.reduceLeDiff,Nat.reduceLT,Nat.reduceSub]
  refine aR (fun(j:Nat) ρ H2=>j≤n∧Tb aF H.length Hz.length n n b g (mP G i j) H2∧(Hz.length≤H2.length∧∀b g x,aG H b g=some x→aG H2 b g=some x)∧ρ 2=VB false∧ρ 3 = .cF (I5 x) 0∧ρ 4 = .cF (aF r) 0∧ρ 7 = .ref b g 0 n c∧ρ 8=VI i∧ρ 16=VI n∧ρ 17=VI i∧ρ 21=VI n∧ρ 22=VI j) (fun j=>n-j) 0
   ⟨aKP _,hT,hO,by (repeat' apply aL1)<;>first | rfl | trivial | assumption⟩ ?_
  clear g2 g3 g4 g7 g16 g17 hT hO hlen
  rintro j ρ H2 ⟨hj,hT,hO,g2,g3,g4,g7,g8,g16,g17,g21,g22⟩
  by_cases EY:(j:Int)<(n:Int)
  ·have GU:j<n:=by omega
   obtain⟨row,lX,WL⟩:=WY (g:=x.2.1) (i:=i) (by rw[hx.g,hnn];exact uU)
   have MB:=hx.gr row (aLf lX)
   obtain⟨q,hq⟩:∃q,row[j]? = some q:=⟨_,aKs (by rw[MB.1,hnn];exact GU)⟩
   have hGq:G i j=q:=by rw[←hG,WL,aKi,hq];rfl
   have a1:=fun H=>aI (f:=aC aF) (t := .op) (H:=H) (size:=1) (k := .i64) lX rfl
   have a2:=fun H=>aI (f:=aF) (t := .op) (H:=H) (size:=3) (k := .i64) hq rfl
   have apW:∀K,bI false 1 (.cF (aC aF row) 0) K=some (aC aF row):=fun K=>rfl
   have a3:=hT.addr (c:=c) uU
   obtain⟨rb1,rg1,rc1,c1,c2,_,c4⟩:=hT.spot (i:=i) (j:=j) uU GU cW fL
   obtain⟨H3,c5,c6,hT3,_⟩:=c4 lo (-q) dQ
   have em:=C7 q
   simp only[nE,g2,g3,g7,g8,g21,g22,EY,l1,a1,a2,apW,a3,c1,c2,c5,em,bH,wn j hj,eH,VX,Nat.reduceEqDiff,Nat.reduceAdd,Nat.reduceLeDiff,Nat.reduceLT,Nat.reduceSub]
   exact⟨j+1,by omega,by omega,hT3.congr fun _ _ _ _=>by rw[←hGq];exact ayT,tr hO c6,by (repeat' apply aL1)<;>first | rfl | trivial | assumption⟩
  ·have Yp:j=n:=by omega
   subst Yp
   simp only[nE,g17,g21,g22,EY,wn i hi,eH,VX,Nat.reduceEqDiff,Nat.reduceAdd,Nat.reduceLeDiff,Nat.reduceLT,Nat.reduceSub]
   exact⟨i+1,by omega,by omega,hT.congr fun _ _ _ hc=>azM hc,hO,by (repeat' apply aL1)<;>first | rfl | trivial | assumption⟩
 ·have nC:i=n:=by omega
  subst nC
  simp only[mZ,g3,g4,g7,g16,g17,bX,hlen,eH,VX,Nat.reduceEqDiff,Nat.reduceAdd,Nat.reduceLeDiff,Nat.reduceLT,Nat.reduceSub]
  refine aR (fun(k:Nat) ρ H1=>k≤i∧Tb aF H.length Hz.length i i b g (mD i G E r k) H1∧(Hz.length≤H1.length∧∀b g x,aG H b g=some x→aG H1 b g=some x)∧ρ 3 = .cF (I5 x) 0∧ρ 4 = .cF (aF r) 0∧ρ 7 = .ref b g 0 i c∧ρ 59=VI i∧ρ 60=VI k) (fun k=>i-k) 0
   ⟨aKP _,hT.congr fun _ _ ha _=>azR ha,hO,by (repeat' apply aL1)<;>first | rfl | trivial | assumption⟩ ?_
  clear g2 g3 g4 g7 g16 g17 hT hO hlen
  rintro k ρ H2 ⟨hk,hT,hO,g3,g4,g7,g59,g60⟩
  by_cases TH:(k:Int)<(i:Int)
  ·have Zd:k<i:=by omega
   have a3:=hT.addr (c:=c) Zd
   obtain⟨rb1,rg1,rc1,c1,c2,c3,c4⟩:=hT.spot (i:=k) (j:=k) Zd Zd cW fL
   have c3:=(c3 true).trans (bH _)
   rw[axJ] at c3
   obtain⟨H3,c5,c6,hT3,_⟩:=c4 lo (-G k k+(Sg (G k) i+E k)+r) dQ
   have eo:=HT hx k (by rw[hnn];exact Zd)
   rw[hG,hE,hnn] at eo
   have b1:=bG k k
   have b2:aM (-G k k)≤665:=by rw[Gc];exact b1
   have b3:=Vf (f:=G k) (B:=665) (n:=i) (fun j _=>bG k j) i (aKl _)
   have b4:aM (E k)≤665:=by rw[←hE];exact hx.Tn (P:=fun q=>aM q≤665) (fun q h=>h.2) k
   have b5:=yE (Sg (G k) i) (E k)
   have b6:=yE (-G k k) (Sg (G k) i+E k)
   have b7:i*(665+1)≤6*(665+1):=aKM _ (by omega)
   have e1:=oB (-G k k) (Sg (G k) i+E k) (by omega) (by omega)
   have e2:=oB (-G k k+(Sg (G k) i+E k)) r (by omega) (by omega)
   simp only[nF,g3,g4,g7,g59,g60,TH,ls,lr,a3,c1,c2,c3,c5,eo,e1,e2,wn k hk,eH,VX,Nat.reduceEqDiff,Nat.reduceAdd,Nat.reduceLeDiff,Nat.reduceLT,Nat.reduceSub]
   exact⟨k+1,by omega,by omega,hT3.congr fun _ _ _ _=>axL,tr hO c6,by (repeat' apply aL1)<;>first | rfl | trivial | assumption⟩
  ·have hke:k=i:=by omega
   subst hke
   simp only[nF,g7,g59,g60,TH,eH,VX,Nat.reduceEqDiff,Nat.reduceAdd,Nat.reduceLeDiff,Nat.reduceLT,Nat.reduceSub]
   have hT:=hT.congr fun a c ha _=>axE ha
   obtain⟨rs,h1,h2⟩:=hT
   refine⟨aKm hhi hO.1,hO.2,b,g,c,rs,by rw[BZ],by rw[BZ];exact hc,h1.wide (aKl _) hO.1,?_⟩
   rw[h2]
   unfold Lw
   rw[hnn,hG,hE]
end Go.PM
namespace Go.PM
open Go.Lib
section
variable {x:F9} (hx:tH x)
include hx
theorem tH.ups {K:Nat} (hK:K=43) {r:Rat} (h0:0≤r) (hr:aM r≤665) {b X:Nat→Rat} (hs:fJ x.1.length (Lw x r) b X):XC x.1.length 0 (K*665+9) (Lw x r) b X :=
 ⟨hx.aqK h0,⟨fun _ _ _ h _=>absurd h (aLC _),fun _ h=>absurd h (aLC _)⟩,hs,hx.scaled hK hr⟩
theorem tH.dgs {K:Nat} (hK:K=43) {r:Rat} (h0:0≤r) (hr:aM r≤665) {b X:Nat→Rat} (hs:fJ x.1.length (Lw x r) b X):DgS x.1.length 0 (K*665+9) (Lw x r) b X :=
 ⟨hx.aqK h0,⟨fun _ _ _ h _=>absurd h (aLC _),fun _ h=>absurd h (aLC _)⟩,hs,hx.scaled hK hr⟩
theorem tH.small {K:Nat} (hK:K=43):2^x.1.length*(K*665+9+1)≤68719476736:=by
 have hn:=hx.n
 have e1:2^x.1.length≤2^6:=aMp (by decide) hn.2
 have e2:2^x.1.length*(K*665+9+1)≤2^6*(K*665+9+1):=aKM _ e1
 have e3:(2:Nat)^6=64:=by decide
 omega
set_option maxHeartbeats 4000000 in
set_option maxRecDepth 20000 in
theorem FA {lo B:Nat} {H:aA} {v:VV} {X:Nat→Rat} (hv:Rd aF 3 (vec x.1.length X) H v) (hX:∀i,i<x.1.length→aM (X i)≤B) (hB:B≤10000000000) (dQ:lo≤H.length) :
  jA 121 [I5 x,v] lo H (Rr (fun _ _ _ r=>r=aF (tM x.1 X x.1.length)) H):=by
 refine jA.walk ⟨true,false⟩ D8 (aL9 rfl) ?_
 have hn:=hx.n
 have jN:(aB (I5 x)).all bL=true:=rfl
 have l0:∀K,bI false 1 (.cF (I5 x) 0) K=some (aC aF x.1):=fun K=>rfl
 have e1:TC 64 [VI 0] (aF 0):=wA 0 (by decide) (by decide)
 have s0:bK lo 3 (.ptr (H.length+1) 0 0 0) (aF 0) (H++[cell0,cell0])=some (H++[cell0,.row 0 [aF 0] 3 true]):=by
  have hr:aG (H++[cell0,cell0]) (H.length+1) 0=some ([VV.agg [VB false,.tree [] .nil,.tree [] .nil]],3,true):=by
   rw[cH,aKD (by omega),aMc]
   rfl
  rw[bR (e:=3) hr (by exact aNA) (by omega) (cW _) (fL _),aL0 _ _ (by omega),aMc]
  rfl
 have r4:aG (H++[cell0,.row 0 [aF 0] 3 true]) H.length 0=some ([VV.agg [VB false,.tree [] .nil,.tree [] .nil]],3,true):=by
  rw[cH,aKD (by omega),Nat.sub_self]
  rfl
 have r5:aG (H++[cell0,.row 0 [aF 0] 3 true]) (H.length+1) 0=some ([aF 0],3,true):=by
  rw[cH,aKD (by omega),aMc]
  rfl
 simp only[zS,wU,jN,if_true,l0,e1,s0,aL2,List.append_assoc,aLL,aLD,List.length_append,aKv,aLY,aLT,eH,VX,Nat.reduceEqDiff,Nat.reduceAdd,Nat.reduceLeDiff,Nat.reduceLT,Nat.reduceSub]
 refine aR (fun(i:Nat) ρ H1=>i≤x.1.length∧H <+: H1∧aG H1 H.length 0=some ([VV.agg [VB false,.tree [] .nil,.tree [] .nil]],3,true)∧aG H1 (H.length+1) 0=some ([aF (tM x.1 X i)],3,true)∧ρ 1=v∧ρ 4 = .ptr H.length 0 0 0∧ρ 5 = .ptr (H.length+1) 0 0 0∧ρ 10=aC aF x.1∧ρ 11=VI x.1.length∧ρ 12=VI i) (fun i=>x.1.length-i) 0
  ⟨aKP _,aMg _ _,r4,r5,by (repeat' apply aL1)<;>first | rfl | trivial | assumption⟩ ?_
 clear r4 r5 s0
 rintro i ρ H1 ⟨hi,hp,r4,r5,g1,g4,g5,g10,g11,g12⟩
 have Dw:=kW r5
 have AX:∀m,m≤x.1.length→aM (tM x.1 X m)≤6*(B+667)+1:=fun m hm=>by
  have h1:=Vf (f:=fun i=>x.1.getD i 0*X i) (B:=665+B) (n:=x.1.length) (fun i hi=>by
   have h2:=qB (x.1.getD i 0) (X i)
   have h3:=hX i hi
   have h4:aM (x.1.getD i 0)≤665:=Dd (P:=fun q=>aM q≤665) hx.wb rz0 i
   omega) m hm
  have h2:m*(665+B+1)≤6*(665+B+1):=aKM _ (by omega)
  unfold tM
  omega
 by_cases bX:(i:Int)<(x.1.length:Int)
 ·obtain⟨q,hq⟩:∃q,x.1[i]? = some q:=⟨_,aKs (by omega)⟩
  have hqm:=hx.wb q (aLf hq)
  have hqd:x.1.getD i 0=q:=by rw[aKi,hq];rfl
  have a1:=fun H=>aI (f:=aF) (t := .op) (H:=H) (size:=3) (k := .i64) hq rfl
  have s1:=J0 (lo:=lo) (H:=H1) (q:=q) (by omega)
  have s2:bI true 3 (.ptr H1.length 0 0 0) (H1++[.row 0 [aF q] 3 true])=some (aF q):=Y9 (K:=[])
  obtain⟨p,a2,a3⟩:=hv.get _ (Fb (L:=[.row 0 [aF q] 3 true]) hp) i (X i) (yT (by omega))
  have a3':=(a3 true).trans (bH _)
  have r5':=gP (L:=[.row 0 [aF q] 3 true]) r5
  have l5:bI true 3 (.ptr (H.length+1) 0 0 0) (H1++[.row 0 [aF q] 3 true])=some (aF (tM x.1 X i)):=by rw[bS,r5'];exact bH _
  have wi:IntKind.i64.wrap ((i:Int)+1)=((i+1:Nat):Int):=wN _ (by omega) (by omega)
  have hXi:=hX i (by omega)
  have em:=rW q (X i) (by omega) (by omega)
  have bm:=qB q (X i)
  have bo:=AX i (by omega)
  have ea:=oB (tM x.1 X i) (q*X i) (by omega) (by omega)
  have xA:tM x.1 X i+q*X i=tM x.1 X (i+1):=by unfold tM;rw[Sg,hqd]
  rw[xA] at ea
  have s5:=bR (lo:=lo) (v:=aF (tM x.1 X (i+1))) (j:=0) r5' (by exact aNA) (by omega) (cW _) (fL _)
  rw[List.set_cons_zero] at s5
  simp only[oC,g1,g4,g5,g10,g11,g12,bX,a1,s1,s2,a2,a3',l5,em,ea,s5,wi,bH,eH,VX,Nat.reduceEqDiff,Nat.reduceAdd,Nat.reduceLeDiff,Nat.reduceLT,Nat.reduceSub]
  exact⟨i+1,by omega,by omega,nX (Fb hp) (by omega),bC (by omega) (gP r4),cA r5',by (repeat' apply aL1)<;>first | rfl | trivial | assumption⟩
 ·have nC:i=x.1.length:=by omega
  subst nC
  have l5:bI true 3 (.ptr (H.length+1) 0 0 0) H1=some (aF (tM x.1 X x.1.length)):=by rw[bS,r5];exact bH _
  have s4:=bR (lo:=lo) (v:=aF (tM x.1 X x.1.length)) (j:=0) r4 (by exact aNA) dQ (cW _) (fL _)
  rw[List.set_cons_zero] at s4
  have l4:bI true 3 (.ptr H.length 0 0 0) (H1.set H.length (.row 0 [aF (tM x.1 X x.1.length)] 3 true))=some (aF (tM x.1 X x.1.length)):=by rw[bS,cA r4];exact bH _
  simp only[oC,g1,g4,g5,g10,g11,g12,bX,l5,s4,l4,eH,VX,Nat.reduceEqDiff,Nat.reduceAdd,Nat.reduceLeDiff,Nat.reduceLT,Nat.reduceSub]
  exact⟨nX hp (aKl _),rfl⟩
end
end Go.PM