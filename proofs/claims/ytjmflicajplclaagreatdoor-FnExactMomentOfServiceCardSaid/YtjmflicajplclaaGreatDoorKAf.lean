/- Texts of a claim, in one: part 6. -/
import Derived.KernelRfl
import Derived.Laws.Strings
import Derived.Test.YtjmflicajplclaaGreatDoorKAe
open And renaming intro → aMk
open List renaming append_assoc → aMq,drop_of_length_le → aMx,getElem?_append_right → aKW,getElem?_eq_getElem → aKL,getElem?_eq_some_iff → aKD,length_replicate → aMt,mem_of_getElem? → aLy,replicate → aLu,set_append_right → aMj,take_add_one → aMu,take_of_length_le → aLx
open Nat renaming add_sub_cancel_left → aMv,le_add_right → aMw,le_of_ble_eq_true → aMs,le_refl → aKE,sub_self → aKX,zero_le → aK8
set_option linter.unusedSimpArgs false
set_option linter.unusedVariables false
namespace Go.PM
def qM:aE:=(.seq (LS [LM 11 5,LM 12 0,LO 13 (.len (LT 12)),LO 14 (.bin .lss (LT 11) (LT 13))] (.cond (LT 14) .skip (.exit 0))) (.seq (.block 1 (LS [LM 17 0,LM 18 5,LO 19 (.iaddr 1 (LT 17) (LT 18)),LO 20 (LL 19),LM 21 1,LM 22 5,LO 23 (.iaddr 1 (LT 21) (LT 22)),LO 24 (LL 23),LO 25 (.bin .neq (LT 20) (LT 24))] (.cond (LT 25) (LS [LO 4 (.mv LF)] .ret) .skip))) (.cT [LM 15 5,LO 16 (.bin .add (LT 15) (LI 1)),LM 5 16])))
def yK:aE:=(LS [LO 4 (.mv LF)] (.seq (LS [LM 6 0,LO 7 (.len (LT 6)),LM 8 1,LO 9 (.len (LT 8)),LO 10 (.bin .neq (LT 7) (LT 9))] (.cond (LT 10) (LS [LO 4 (.mv LF)] .ret) .skip)) (.seq (LS [LO 5 (.mv (LI 0))] (.block 0 (.loop qM))) (LS [LO 4 (.mv LG)] .ret))))
def A9:aT:=⟨26,[(.tmp 4)],yK⟩
theorem KL:fP 100=some A9:=by kernel_rfl
def oD:aE:=(LS [LO 2 (.box (LT 0)),LO 4 (.mv (LI 0))] (LS [LO 5 (LA 0 2),LO 6 (LL 5),LM 7 1,LO 8 (.call 32 [(LT 6),(LT 7)]),LM 1 8] (.seq (LS [LM 9 1,LO 10 (.bin .lss (LT 9) (LI 0))] (.cond (LT 10) (LS [LO 4 (.mv (LI (-1)))] .ret) .skip)) (LS [LO 11 (LA 1 2),LO 12 (LL 11),LM 13 1,LO 14 (.call 15 [(LT 12),(LT 13)]),LM 1 14] (.seq (LS [LM 15 1,LO 16 (.bin .lss (LT 15) (LI 0))] (.cond (LT 16) (LS [LO 4 (.mv (LI (-1)))] .ret) .skip)) (LS [LO 17 (LA 2 2),LO 18 (LL 17),LM 19 1,LO 20 (.call 32 [(LT 18),(LT 19)]),LM 1 20] (.seq (LS [LM 21 1,LO 22 (.bin .lss (LT 21) (LI 0))] (.cond (LT 22) (LS [LO 4 (.mv (LI (-1)))] .ret) .skip)) (LS [LM 23 1,LM 4 23] .ret))))))))
def sD:aT:=⟨24,[(.tmp 4)],oD⟩
theorem KU:fP 44=some sD:=by kernel_rfl
def C7:aE:=(LS [LO 2 (.box (LT 0)),LO 4 (.new [(.slice none 0 0),(.slice none 0 0),(.slice none 0 0)])] (LS [LO 5 (.new [(.slice none 0 0),(.slice none 0 0),(.slice none 0 0)])] (LS [LO 6 (LA 0 2),LO 7 (LL 6),LM 8 1,LO 9 (.call 34 [(LT 7),(LT 8)]),LO 10 (LA 0 5),LN (.store 1 (LT 10) (LT 9))] (LS [LO 11 (LA 1 2),LO 12 (LL 11),LM 13 1,LO 14 (.call 17 [(LT 12),(LT 13)]),LO 15 (LA 1 5),LN (.store 1 (LT 15) (LT 14))] (LS [LO 16 (LA 2 2),LO 17 (LL 16),LM 18 1,LO 19 (.call 34 [(LT 17),(LT 18)]),LO 20 (LA 2 5),LN (.store 1 (LT 20) (LT 19))] (LS [LO 21 (LK 5),LN (.store 3 (LT 4) (LT 21))] .ret))))))
def FY:aT:=⟨22,[(.cell 4 true 3)],C7⟩
theorem KY:fP 46=some FY:=by kernel_rfl
def zH:aE:=(LS [LO 2 (.box (LT 0)),LO 3 (.box (LT 1)),LO 4 (.mv LF)] (.seq (LS [LO 5 (LA 0 2),LO 6 (LL 5),LO 7 (LA 0 3),LO 8 (LL 7),LO 9 (.call 36 [(LT 6),(LT 8)]),LO 10 (.un .not (LT 9))] (.cond (LT 10) (LS [LO 4 (.mv LF)] .ret) .skip)) (.seq (LS [LO 11 (LA 1 2),LO 12 (LL 11),LO 13 (LA 1 3),LO 14 (LL 13),LO 15 (.call 20 [(LT 12),(LT 14)]),LO 16 (.un .not (LT 15))] (.cond (LT 16) (LS [LO 4 (.mv LF)] .ret) .skip)) (.seq (LS [LO 17 (LA 2 2),LO 18 (LL 17),LO 19 (LA 2 3),LO 20 (LL 19),LO 21 (.call 36 [(LT 18),(LT 20)]),LO 22 (.un .not (LT 21))] (.cond (LT 22) (LS [LO 4 (.mv LF)] .ret) .skip)) (LS [LO 4 (.mv LG)] .ret)))))
def Bg:aT:=⟨23,[(.tmp 4)],zH⟩
theorem FR:fP 48=some Bg:=by kernel_rfl
def qP:aE:=(.seq (LS [LM 12 5,LM 13 0,LO 14 (.len (LT 13)),LO 15 (.bin .lss (LT 12) (LT 14))] (.cond (LT 15) .skip (.exit 0))) (.seq (.block 1 (LS [LM 18 1,LM 19 0,LM 20 5,LO 21 (.iaddr 1 (LT 19) (LT 20)),LO 22 (LL 21),LO 23 (.slen (LT 22)),LO 24 (.bin .sub (LT 18) (LT 23)),LM 1 24] (LS [LM 25 1,LO 26 (.bin .lss (LT 25) (LI 0))] (.cond (LT 26) (LS [LO 4 (.mv (LI (-1)))] .ret) .skip)))) (.cT [LM 16 5,LO 17 (.bin .add (LT 16) (LI 1)),LM 5 17])))
def yG:aE:=(LS [LO 4 (.mv (LI 0))] (LS [LM 6 1,LM 7 0,LO 8 (.len (LT 7)),LO 9 (.bin .sub (LT 6) (LT 8)),LM 1 9] (.seq (LS [LM 10 1,LO 11 (.bin .lss (LT 10) (LI 0))] (.cond (LT 11) (LS [LO 4 (.mv (LI (-1)))] .ret) .skip)) (.seq (LS [LO 5 (.mv (LI 0))] (.block 0 (.loop qP))) (LS [LM 27 1,LM 4 27] .ret)))))
def By:aT:=⟨28,[(.tmp 4)],yG⟩
theorem Kr:fP 32=some By:=by kernel_rfl
def qO:aE:=(.seq (LS [LM 21 6,LM 22 0,LO 23 (.len (LT 22)),LO 24 (.bin .lss (LT 21) (LT 23))] (.cond (LT 24) .skip (.exit 0))) (.seq (.block 1 (.cT [LM 27 5,LM 28 6,LM 29 0,LM 30 6,LO 31 (.iaddr 1 (LT 29) (LT 30)),LO 32 (LL 31),LO 33 (.iaddr 1 (LT 27) (LT 28)),LN (.store 1 (LT 33) (LT 32))])) (.cT [LM 25 6,LO 26 (.bin .add (LT 25) (LI 1)),LM 6 26])))
def qN:aE:=(.seq (LS [LM 36 7,LM 37 5,LO 38 (.len (LT 37)),LO 39 (.bin .lss (LT 36) (LT 38))] (.cond (LT 39) .skip (.exit 2))) (.seq (.block 3 (.cT [LM 42 5,LM 43 7,LO 44 (.iaddr 1 (LT 42) (LT 43)),LN (.store 1 (LT 44) (.const (.string ⟨#[126,115,112,97,114,101,126]⟩)))])) (.cT [LM 40 7,LO 41 (.bin .add (LT 40) (LI 1)),LM 7 41])))
def sM:aE:=(LS [LO 4 (.mv (.const (.slice none 0 0)))] (.seq (LS [LM 8 1,LM 9 8,LY 9 10 (.mv (LT 0)),LY 9 11 (.len (LT 10)),LY 9 12 (.bin .eql (LT 11) (LI 0)),LO 13 (.pick (LT 9) (LT 12) LF)] (.cond (LT 13) (LS [LO 4 (.mv (.const (.slice none 0 0)))] .ret) .skip)) (LS [LM 14 0,LO 15 (.len (LT 14)),LM 16 0,LO 17 (.len (LT 16)),LO 18 (.call 63 [(LT 17)]),LO 19 (.bin .add (LT 15) (LT 18)),LO 20 (.make [(.string ⟨#[]⟩)] 16 (LT 19) (LT 19)),LM 5 20] (.seq (LS [LO 6 (.mv (LI 0))] (.block 0 (.loop qO))) (.seq (LS [LM 34 0,LO 35 (.len (LT 34)),LM 7 35] (.block 2 (.loop qN))) (LS [LM 45 5,LM 46 0,LO 47 (.len (LT 46)),LO 48 (.sub 1 (LT 45) none (some (LT 47)) none),LM 4 48] .ret))))))
def wJ:aT:=⟨49,[(.tmp 4)],sM⟩
theorem Lc:fP 34=some wJ:=by kernel_rfl
def zN:aE:=(LS [LO 4 (.mv LF)] (LS [LM 6 1,LO 7 (.len (LT 6)),LM 8 1,LO 9 (.len (LT 8)),LO 10 (.call 63 [(LT 9)]),LO 11 (.bin .add (LT 7) (LT 10)),LM 5 11] (LS [LM 12 0,LO 13 (.len (LT 12)),LM 14 1,LO 15 (.len (LT 14)),LO 16 (.bin .eql (LT 13) (LT 15)),LM 17 16,LY 17 18 (.mv (LT 0)),LY 17 19 (.mv (LT 5)),LY 17 20 (.sub 1 (LT 18) none (some (LT 19)) none),LY 17 21 (.mv (LT 1)),LY 17 22 (.mv (LT 5)),LY 17 23 (.sub 1 (LT 21) none (some (LT 22)) none),⟨(some 24),(.call 100 [(LT 20),(LT 23)]),(some (17,true)),true,[]⟩,LO 25 (.pick (LT 17) (LT 24) LF),LM 4 25] .ret)))
def Bx:aT:=⟨26,[(.tmp 4)],zN⟩
theorem FB:fP 36=some Bx:=by kernel_rfl
def oX:aE:=(.seq (LS [LM 12 5,LM 13 0,LO 14 (.len (LT 13)),LO 15 (.bin .lss (LT 12) (LT 14))] (.cond (LT 15) .skip (.exit 0))) (.seq (.block 1 (LS [LM 18 0,LM 19 5,LO 20 (.iaddr 1 (LT 18) (LT 19)),LO 21 (LL 20),LM 22 1,LO 23 (.call 32 [(LT 21),(LT 22)]),LM 1 23] (LS [LM 24 1,LO 25 (.bin .lss (LT 24) (LI 0))] (.cond (LT 25) (LS [LO 4 (.mv (LI (-1)))] .ret) .skip)))) (.cT [LM 16 5,LO 17 (.bin .add (LT 16) (LI 1)),LM 5 17])))
def xC:aE:=(LS [LO 4 (.mv (LI 0))] (LS [LM 6 1,LM 7 0,LO 8 (.len (LT 7)),LO 9 (.bin .sub (LT 6) (LT 8)),LM 1 9] (.seq (LS [LM 10 1,LO 11 (.bin .lss (LT 10) (LI 0))] (.cond (LT 11) (LS [LO 4 (.mv (LI (-1)))] .ret) .skip)) (.seq (LS [LO 5 (.mv (LI 0))] (.block 0 (.loop oX))) (LS [LM 26 1,LM 4 26] .ret)))))
def Ah:aT:=⟨27,[(.tmp 4)],xC⟩
theorem Ja:fP 15=some Ah:=by kernel_rfl
def pB:aE:=(.seq (LS [LM 21 6,LM 22 0,LO 23 (.len (LT 22)),LO 24 (.bin .lss (LT 21) (LT 23))] (.cond (LT 24) .skip (.exit 0))) (.seq (.block 1 (.cT [LM 27 5,LM 28 6,LM 29 0,LM 30 6,LO 31 (.iaddr 1 (LT 29) (LT 30)),LO 32 (LL 31),LM 33 1,LO 34 (.call 34 [(LT 32),(LT 33)]),LO 35 (.iaddr 1 (LT 27) (LT 28)),LN (.store 1 (LT 35) (LT 34))])) (.cT [LM 25 6,LO 26 (.bin .add (LT 25) (LI 1)),LM 6 26])))
def pL:aE:=(.seq (LS [LM 38 7,LM 39 5,LO 40 (.len (LT 39)),LO 41 (.bin .lss (LT 38) (LT 40))] (.cond (LT 41) .skip (.exit 2))) (.seq (.block 3 (.cT [LM 44 5,LM 45 7,LO 46 (.lit [(.string ⟨#[]⟩)] 1 [(0,(.const (.string ⟨#[126,115,112,97,114,101,126]⟩)))]),LO 47 (.iaddr 1 (LT 44) (LT 45)),LN (.store 1 (LT 47) (LT 46))])) (.cT [LM 42 7,LO 43 (.bin .add (LT 42) (LI 1)),LM 7 43])))
def qR:aE:=(LS [LO 4 (.mv (.const (.slice none 0 0)))] (.seq (LS [LM 8 1,LM 9 8,LY 9 10 (.mv (LT 0)),LY 9 11 (.len (LT 10)),LY 9 12 (.bin .eql (LT 11) (LI 0)),LO 13 (.pick (LT 9) (LT 12) LF)] (.cond (LT 13) (LS [LO 4 (.mv (.const (.slice none 0 0)))] .ret) .skip)) (LS [LM 14 0,LO 15 (.len (LT 14)),LM 16 0,LO 17 (.len (LT 16)),LO 18 (.call 63 [(LT 17)]),LO 19 (.bin .add (LT 15) (LT 18)),LO 20 (.make [(.slice none 0 0)] 24 (LT 19) (LT 19)),LM 5 20] (.seq (LS [LO 6 (.mv (LI 0))] (.block 0 (.loop pB))) (.seq (LS [LM 36 0,LO 37 (.len (LT 36)),LM 7 37] (.block 2 (.loop pL))) (LS [LM 48 5,LM 49 0,LO 50 (.len (LT 49)),LO 51 (.sub 1 (LT 48) none (some (LT 50)) none),LM 4 51] .ret))))))
def uE:aT:=⟨52,[(.tmp 4)],qR⟩
theorem I6:fP 17=some uE:=by kernel_rfl
def pJ:aE:=(.seq (LS [LM 18 6,LM 19 1,LO 20 (.len (LT 19)),LO 21 (.bin .lss (LT 18) (LT 20))] (.cond (LT 21) .skip (.exit 0))) (.seq (.block 1 (LS [LM 24 0,LM 25 6,LO 26 (.iaddr 1 (LT 24) (LT 25)),LO 27 (LL 26),LM 28 1,LM 29 6,LO 30 (.iaddr 1 (LT 28) (LT 29)),LO 31 (LL 30),LQ 32 (.call 36 [(LT 27),(LT 31)]),LO 33 (.un .not (LT 32))] (.cond (LT 33) (LS [LO 4 (.mv LF)] .ret) .skip))) (.cT [LM 22 6,LO 23 (.bin .add (LT 22) (LI 1)),LM 6 23])))
def xJ:aE:=(LS [LO 4 (.mv LF)] (LS [LM 7 1,LO 8 (.len (LT 7)),LM 9 1,LO 10 (.len (LT 9)),LO 11 (.call 63 [(LT 10)]),LO 12 (.bin .add (LT 8) (LT 11)),LM 5 12] (.seq (LS [LM 13 0,LO 14 (.len (LT 13)),LM 15 1,LO 16 (.len (LT 15)),LO 17 (.bin .neq (LT 14) (LT 16))] (.cond (LT 17) (LS [LO 4 (.mv LF)] .ret) .skip)) (.seq (LS [LO 6 (.mv (LI 0))] (.block 0 (.loop pJ))) (LS [LM 34 0,LM 35 1,LO 36 (.len (LT 35)),LM 37 5,LO 38 (.sub 1 (LT 34) (some (LT 36)) (some (LT 37)) none),LM 39 1,LM 40 1,LO 41 (.len (LT 40)),LM 42 5,LO 43 (.sub 1 (LT 39) (some (LT 41)) (some (LT 42)) none),LQ 44 (.call 73 [(LT 38),(LT 43)]),LM 4 44] .ret)))))
def Au:aT:=⟨45,[(.tmp 4)],xJ⟩
theorem Fa:fP 20=some Au:=by kernel_rfl
def qW:aE:=(LS [LO 2 (.mv (LI 0))] (.seq (LS [LM 3 0,LO 4 (.bin .rem (LT 3) (LI 6)),LO 5 (.bin .eql (LT 4) (LI 5))] (.cond (LT 5) (LS [LO 2 (.mv (LI 0))] .ret) .skip)) (.seq (LS [LM 6 0,LO 7 (.bin .rem (LT 6) (LI 3)),LO 8 (.bin .eql (LT 7) (LI 0))] (.cond (LT 8) (LS [LO 2 (.mv (LI 1))] .ret) .skip)) (LS [LM 9 0,LM 2 9] .ret))))
def uH:aT:=⟨10,[(.tmp 2)],qW⟩
theorem I0:fP 63=some uH:=by kernel_rfl
def oV:aE:=(.seq (LS [LM 11 5,LM 12 0,LO 13 (.len (LT 12)),LO 14 (.bin .lss (LT 11) (LT 13))] (.cond (LT 14) .skip (.exit 0))) (.seq (.block 1 (LS [LM 17 0,LM 18 5,LO 19 (.iaddr 1 (LT 17) (LT 18)),LO 20 (LL 19),LM 21 1,LM 22 5,LO 23 (.iaddr 1 (LT 21) (LT 22)),LO 24 (LL 23),LQ 25 (.call 100 [(LT 20),(LT 24)]),LO 26 (.un .not (LT 25))] (.cond (LT 26) (LS [LO 4 (.mv LF)] .ret) .skip))) (.cT [LM 15 5,LO 16 (.bin .add (LT 15) (LI 1)),LM 5 16])))
def vQ:aE:=(LS [LO 4 (.mv LF)] (.seq (LS [LM 6 0,LO 7 (.len (LT 6)),LM 8 1,LO 9 (.len (LT 8)),LO 10 (.bin .neq (LT 7) (LT 9))] (.cond (LT 10) (LS [LO 4 (.mv LF)] .ret) .skip)) (.seq (LS [LO 5 (.mv (LI 0))] (.block 0 (.loop oV))) (LS [LO 4 (.mv LG)] .ret))))
def Ac:aT:=⟨27,[(.tmp 4)],vQ⟩
theorem Je:fP 73=some Ac:=by kernel_rfl
end Go.PM
namespace Go.PM
def room (n:Nat):Nat:=if n % 6=5 then 0 else if n % 3=0 then 1 else n
theorem room_le (n:Nat):room n≤n+1:=by unfold room;split<;>(try split)<;>omega
theorem kA (n:Nat):TC 63 [VI n] (VI (room n)):=by
 refine TC.walk ⟨true,false⟩ I0 rfl (aMs rfl) rfl rfl ?_
 have e1:dK .rem (.int .i64 (n:Int)) (.int .i64 6)=some (.int .i64 (n % 6:Nat)):=by rw[Uz (by decide)];rfl
 have e2:dK .rem (.int .i64 (n:Int)) (.int .i64 3)=some (.int .i64 (n % 3:Nat)):=by rw[Uz (by decide)];rfl
 by_cases h1:((n % 6:Nat):Int)=5
 ·simp only[uH,qW,e1,h1,VX,Nat.reduceEqDiff,Nat.reduceAdd]
  unfold room
  rw[if_pos (by omega)]
  exact aJ rfl
 ·by_cases h2:((n % 3:Nat):Int)=0
  ·simp only[uH,qW,e1,e2,h1,h2,VX,Nat.reduceEqDiff,Nat.reduceAdd]
   unfold room
   rw[if_neg (by omega),if_pos (by omega)]
   exact aJ rfl
  ·simp only[uH,qW,e1,e2,h1,h2,VX,Nat.reduceEqDiff,Nat.reduceAdd]
   unfold room
   rw[if_neg (by omega),if_neg (by omega)]
   exact aJ rfl
abbrev nV (n:Int):VV := .sc (.int .i64 n)
abbrev aB9 (xs:List Int):VV:=aC nV xs
theorem KH {n g e:Nat} {es:List VV} {w:Bool} {K:aA}:aG (aLu n fO.dead ++ .row g es e w::K) n g=some (es,e,w):=T6 (by simp)
theorem auV {n:Nat} {x y:fO} {K:aA}:(aLu n fO.dead++x::K).set n y=aLu n fO.dead++y::K:=by
 rw[aMj _ _ (by simp)]
 simp
theorem J5 {α:Type} (ys:List α) (k:Nat) (z x:α):(ys++aLu (k+1) z).set ys.length x=(ys++[x])++aLu k z:=by
 rw[aMj _ _ (aKE _),aKX,List.replicate_succ,List.set_cons_zero,aMq]
 rfl
def mC {α:Type} (fill:α) (xs:List α):List α:=xs++aLu (room xs.length) fill
theorem UU {α:Type} (fill:α) (xs:List α):(mC fill xs).length=xs.length+room xs.length:=by simp[mC]
theorem S5 {α:Type} (fill:α) (xs:List α):(mC fill xs).take xs.length=xs:=by simp[mC]
def ToR {α:Type} (f:α→VV) (e:Nat) (fill:α) (xs:List α) (bare:Bool) (n:Nat) (r:VV) (L:aA):Prop :=
 (bare=true∧xs=[]∧r = .tree [] .nil∧L=[])∨(r = .ref n 0 0 xs.length (xs.length+room xs.length)∧L=[.row 0 ((mC fill xs).map f) e true])
theorem ToR.no {α:Type} {f:α→VV} {e:Nat} {fill:α} {xs:List α} {n:Nat} {r:VV} {L:aA} (h:ToR f e fill xs false n r L):r = .ref n 0 0 xs.length (xs.length+room xs.length)∧L=[.row 0 ((mC fill xs).map f) e true]:=by
 rcases h with h | h
 ·cases h.1
 ·exact h
theorem OD {α:Type} {f:α→VV} {n:Nat} (hf:∀x,jW n (f x)=true) (xs:List α):AF n (xs.map f)=true:=by
 rw[zZ]
 intro x hx
 obtain⟨y,_,rfl⟩:=List.mem_map.1 hx
 exact hf y
end Go.PM
namespace Go.PM
abbrev sV (s:ByteArray):VV := .sc (.string s)
theorem ahE:∀s:ByteArray,(aB (sV s)).length=1:=fun _=>rfl
abbrev gJ (xs:List ByteArray):VV:=aC sV xs
theorem kJ (xs:List ByteArray):aY (gJ xs)=true:=mR ahE fun _=>rfl
def kR:ByteArray:=⟨#[126,115,112,97,114,101,126]⟩
instance:Inhabited ByteArray:=⟨ByteArray.empty⟩
theorem alG {a b:ByteArray}:(a.toList == b.toList)=decide (a=b):=by
 by_cases h:a=b
 ·subst h;simp
 ·rw[decide_eq_false h,beq_eq_false_iff_ne]
  intro he
  apply h
  obtain⟨⟨x⟩⟩:=a
  obtain⟨⟨y⟩⟩:=b
  rw[ByteArray.toList_eq,ByteArray.toList_eq] at he
  simp at he
  rw[he]
theorem JQ {a b:ByteArray}:dK .neq (.string a) (.string b)=some (.bool (!decide (a=b))):=by
 rw[←alG];rfl
end Go.PM
namespace Go.PM
set_option maxHeartbeats 1000000 in
theorem DH (xs:List ByteArray) (bare:Bool) (hn:xs.length≤1000000000):FC 34 [gJ xs,.sc (.bool bare)] (ToR sV 1 kR xs bare):=by
 refine FC.walk ⟨true,false⟩ Lc (aMs rfl) fun n => ?_
 have hr:=room_le xs.length
 by_cases hb:bare=true∧(xs.length:Int)=0
 ·obtain⟨rfl,h0⟩:=hb
  simp only[wJ,sM,h0,VX,Nat.reduceEqDiff,Nat.reduceAdd]
  refine⟨[],by simp,rfl,rfl,.inl ⟨rfl,?_,rfl,rfl⟩⟩
  cases xs with
  | nil=>rfl
  | cons x xs=>simp at h0;omega
 have xM:bare=true→¬(xs.length:Int)=0:=fun h h'=>hb ⟨h,h'⟩
 clear hb
 have w1:IntKind.i64.wrap ((xs.length:Int)+(room xs.length:Int))=((xs.length+room xs.length:Nat):Int):=wrapN _ (by omega) (by omega)
 have em:=oB (H:=aLu n fO.dead) (z:=[.string ⟨#[]⟩]) (bytes:=16) (n:=xs.length+room xs.length) (f:=sV) (x:=⟨#[]⟩) rfl (by omega) (by omega)
 rw[aMt] at em
 have main:∀ρ:cV,ρ 0=gJ xs→ρ 5 = .ref n 0 0 (xs.length+room xs.length) (xs.length+room xs.length)→ρ 6=VI 0→∀Q:VQ,
   (∀aQ:cV,aQ 0=gJ xs→aQ 5 = .ref n 0 0 (xs.length+room xs.length) (xs.length+room xs.length)→Q (.exit 0) aQ (aLu n fO.dead++[.row 0 ((xs++aLu (room xs.length) (⟨#[]⟩:ByteArray)).map sV) 1 true])) →
   VW ⟨true,false⟩ n (.loop qO) Q ρ (aLu n fO.dead++[.row 0 ((aLu (xs.length+room xs.length) (⟨#[]⟩:ByteArray)).map sV) 1 true]):=by
  intro ρ h0 h5 h6 Q hQ
  refine aP (fun(i:Nat) ρ H=>i≤xs.length∧H=aLu n fO.dead++[.row 0 ((xs.take i++aLu (xs.length+room xs.length-i) (⟨#[]⟩:ByteArray)).map sV) 1 true]∧ρ 0=gJ xs∧ρ 5 = .ref n 0 0 (xs.length+room xs.length) (xs.length+room xs.length)∧ρ 6=VI i) (fun i=>xs.length-i) 0 ⟨aK8 _,by simp,h0,h5,h6⟩ ?_
  rintro i ρ H ⟨hi,rfl,h0,h5,h6⟩
  by_cases bW:(i:Int)<(xs.length:Int)
  ·obtain⟨x,hx⟩:∃x,xs[i]? = some x:=⟨_,aKL (by omega)⟩
   have e1:=aH (f:=sV) (t := .op) (H:=aLu n fO.dead++[.row 0 ((xs.take i++aLu (xs.length+room xs.length-i) (⟨#[]⟩:ByteArray)).map sV) 1 true]) (size:=1) (k := .i64) hx rfl
   have e3:=bB (H:=aLu n fO.dead++[.row 0 ((xs.take i++aLu (xs.length+room xs.length-i) (⟨#[]⟩:ByteArray)).map sV) 1 true]) (b:=n) (g:=0) (o:=0) (n:=xs.length+room xs.length) (c:=xs.length+room xs.length) (i:=i) (k := .i64) KH (by omega)
   have bI:(xs.take i).length=i:=by simp;omega
   have e4:=dP (H:=aLu n fO.dead++[.row 0 ((xs.take i++aLu (xs.length+room xs.length-i) (⟨#[]⟩:ByteArray)).map sV) 1 true]) (f:=sV) (e:=1) (x:=x) (j:=i) (lo:=n) (b:=n) (g:=0) KH (by simp;omega) (aKE _) rfl rfl
   have vL:=J5 (xs.take i) (xs.length+room xs.length-(i+1)) (⟨#[]⟩:ByteArray) x
   rw[bI,show xs.length+room xs.length-(i+1)+1=xs.length+room xs.length-i by omega] at vL
   have Rp:xs.take i++[x]=xs.take (i+1):=by rw[aMu,hx];rfl
   rw[auV,vL,Rp] at e4
   have wi:IntKind.i64.wrap ((i:Int)+1)=((i+1:Nat):Int):=wrapN (i+1) (by omega) (by omega)
   simp only[qO,h0,h5,h6,bW,e1,e3,e4,wi,VX,Nat.reduceEqDiff,Nat.reduceAdd]
   exact⟨i+1,by omega,by omega,by (repeat' apply aMk)<;>first | rfl | trivial⟩
  ·have mH:i=xs.length:=by omega
   subst mH
   simp only[qO,h0,h5,h6,bW,VX,Nat.reduceEqDiff,Nat.reduceAdd]
   rw[List.take_length,aMv]
   exact hQ _ h0 h5
 have U8:∀ρ:cV,ρ 0=gJ xs→ρ 5 = .ref n 0 0 (xs.length+room xs.length) (xs.length+room xs.length)→ρ 7=VI xs.length→∀Q:VQ,
   (∀aQ:cV,aQ 0=gJ xs→aQ 5 = .ref n 0 0 (xs.length+room xs.length) (xs.length+room xs.length)→Q (.exit 2) aQ (aLu n fO.dead++[.row 0 ((mC kR xs).map sV) 1 true])) →
   VW ⟨true,false⟩ n (.loop qN) Q ρ (aLu n fO.dead++[.row 0 ((xs++aLu (room xs.length) (⟨#[]⟩:ByteArray)).map sV) 1 true]):=by
  intro ρ h0 h5 h6 Q hQ
  refine aP (fun(j:Nat) ρ H=>j≤room xs.length∧H=aLu n fO.dead++[.row 0 ((xs++aLu j kR++aLu (room xs.length-j) (⟨#[]⟩:ByteArray)).map sV) 1 true]∧ρ 0=gJ xs∧ρ 5 = .ref n 0 0 (xs.length+room xs.length) (xs.length+room xs.length)∧ρ 7=VI (xs.length+j:Nat)) (fun j=>room xs.length-j) 0 ⟨aK8 _,by simp,h0,h5,h6⟩ ?_
  rintro j ρ H ⟨hi,rfl,h0,h5,h6⟩
  have el:=eI (H:=aLu n fO.dead++[.row 0 ((xs++aLu j kR++aLu (room xs.length-j) (⟨#[]⟩:ByteArray)).map sV) 1 true]) (b:=n) (g:=0) (o:=0) (n:=xs.length+room xs.length) (c:=xs.length+room xs.length) KH
  by_cases bW:((xs.length+j:Nat):Int)<((xs.length+room xs.length:Nat):Int)
  ·have e3:=bB (H:=aLu n fO.dead++[.row 0 ((xs++aLu j kR++aLu (room xs.length-j) (⟨#[]⟩:ByteArray)).map sV) 1 true]) (b:=n) (g:=0) (o:=0) (n:=xs.length+room xs.length) (c:=xs.length+room xs.length) (i:=xs.length+j) (k := .i64) KH (by omega)
   have e4:=dP (H:=aLu n fO.dead++[.row 0 ((xs++aLu j kR++aLu (room xs.length-j) (⟨#[]⟩:ByteArray)).map sV) 1 true]) (f:=sV) (e:=1) (x:=kR) (j:=xs.length+j) (lo:=n) (b:=n) (g:=0) KH (by simp;omega) (aKE _) rfl rfl
   have vL:=J5 (xs++aLu j kR) (room xs.length-(j+1)) (⟨#[]⟩:ByteArray) kR
   rw[show (xs++aLu j kR).length=xs.length+j by simp,show room xs.length-(j+1)+1=room xs.length-j by omega,show xs++aLu j kR++[kR]=xs++aLu (j+1) kR by rw[aMq,←List.replicate_succ']] at vL
   rw[auV,vL] at e4
   have e4:bL n 1 (.ptr n 0 (xs.length+j) 0) (.sc (.string ⟨#[126,115,112,97,114,101,126]⟩)) _=_:=e4
   have wi:IntKind.i64.wrap (((xs.length+j:Nat):Int)+1)=((xs.length+(j+1):Nat):Int):=wrapN _ (by omega) (by omega)
   simp only[qN,h0,h5,h6,bW,el,e3,e4,wi,VX,Nat.reduceEqDiff,Nat.reduceAdd]
   exact⟨j+1,by omega,by omega,by (repeat' apply aMk)<;>first | rfl | trivial⟩
  ·have mH:j=room xs.length:=by omega
   subst mH
   simp only[qN,h0,h5,h6,bW,el,VX,Nat.reduceEqDiff,Nat.reduceAdd]
   rw[aKX,List.replicate_zero,List.append_nil]
   exact hQ _ h0 h5
 have fin:∀aQ:cV,Hl 1 (.ref n 0 0 (xs.length+room xs.length) (xs.length+room xs.length)) none (some (VI xs.length)) none (aLu n fO.dead++[.row 0 ((mC kR xs).map sV) 1 true])=some (.ref n 0 0 xs.length (xs.length+room xs.length)):=by
  intro _
  rw[rM KH (by omega)]
 cases bare with
 |
  true =>
  have Qn:=xM rfl
  simp only[wJ,sM,Qn,w1,em,kA,VX,Nat.reduceEqDiff,Nat.reduceAdd]
  refine main _ rfl rfl rfl _ fun aQ h0 h5 => ?_
  simp only[h0,h5,VX,Nat.reduceEqDiff,Nat.reduceAdd]
  refine U8 _ (by exact h0) (by exact h5) rfl _ fun BW h0 h5 => ?_
  simp only[h0,h5,fin BW,VX,Nat.reduceEqDiff,Nat.reduceAdd]
  refine⟨_,rfl,by simp[jW],by simp[mZ,OD (f:=sV) (fun _=>rfl)],.inr ⟨rfl,rfl⟩⟩
 |
  false =>
  simp only[wJ,sM,w1,em,kA,VX,Nat.reduceEqDiff,Nat.reduceAdd]
  refine main _ rfl rfl rfl _ fun aQ h0 h5 => ?_
  simp only[h0,h5,VX,Nat.reduceEqDiff,Nat.reduceAdd]
  refine U8 _ (by exact h0) (by exact h5) rfl _ fun BW h0 h5 => ?_
  simp only[h0,h5,fin BW,VX,Nat.reduceEqDiff,Nat.reduceAdd]
  refine⟨_,rfl,by simp[jW],by simp[mZ,OD (f:=sV) (fun _=>rfl)],.inr ⟨rfl,rfl⟩⟩
theorem Dv (xs ys:List ByteArray) (hn:xs.length≤1000000000):TC 100 [gJ xs,gJ ys] (.sc (.bool (decide (xs=ys)))):=by
 refine TC.walk ⟨true,false⟩ KL rfl (aMs rfl) (by simp[aO,kJ]) rfl ?_
 by_cases hl:(xs.length:Int)=(ys.length:Int)
 ·simp only[A9,yK,hl,VX,Nat.reduceEqDiff,Nat.reduceAdd]
  refine aP (fun(i:Nat) ρ H=>i≤xs.length∧H=[]∧xs.take i=ys.take i∧ρ 0=gJ xs∧ρ 1=gJ ys∧ρ 5=VI i) (fun i=>xs.length-i) 0 ⟨aK8 _,rfl,by simp,rfl,rfl,rfl⟩ ?_
  rintro i ρ H ⟨hi,rfl,ht,h0,h1,h5⟩
  by_cases bW:(i:Int)<(xs.length:Int)
  ·obtain⟨x,hx⟩:∃x,xs[i]? = some x:=⟨_,aKL (by omega)⟩
   obtain⟨y,hy⟩:∃y,ys[i]? = some y:=⟨_,aKL (by omega)⟩
   have e1:=aH (f:=sV) (t := .op) (H:=[]) (size:=1) (k := .i64) hx rfl
   have e2:=aH (f:=sV) (t := .op) (H:=[]) (size:=1) (k := .i64) hy rfl
   have wi:IntKind.i64.wrap ((i:Int)+1)=((i+1:Nat):Int):=wrapN (i+1) (by omega) (by omega)
   by_cases CQ:x=y
   ·simp only[qM,JQ,h0,h1,h5,bW,e1,e2,CQ,wi,VX,Nat.reduceEqDiff,Nat.reduceAdd]
    refine⟨i+1,by omega,by omega,?_⟩
    rw[aMu,aMu,hx,hy,ht,CQ]
    (repeat' apply aMk)<;>first | rfl | trivial
   ·simp only[qM,JQ,h0,h1,h5,bW,e1,e2,CQ,VX,Nat.reduceEqDiff,Nat.reduceAdd]
    have:¬xs=ys:=fun h=>CQ (by rw[h,hy] at hx;injection hx with hx;exact hx.symm)
    simp only[this,decide_false]
    exact aJ rfl
  ·simp only[qM,h0,h1,h5,bW,VX,Nat.reduceEqDiff,Nat.reduceAdd]
   have:xs=ys:=by
    rw[aLx (by omega),aLx (by omega)] at ht
    exact ht
   simp only[this,decide_true]
   exact aJ rfl
 ·simp only[A9,yK,hl,VX,Nat.reduceEqDiff,Nat.reduceAdd]
  have:¬xs=ys:=fun h=>hl (by rw[h])
  simp only[this,decide_false]
  exact aJ rfl
theorem rQ {lo b b':Nat} {H:aA} (xs:List ByteArray) (hn:xs.length≤400000000) (hX:aG H b 0=some ((mC kR xs).map sV,1,true)) (hY:aG H b' 0=some ((mC kR xs).map sV,1,true)) {K:VV→aA→Prop} (hk:K (.sc (.bool true)) H) :
  dH 36 [.ref b 0 0 xs.length (xs.length+room xs.length),.ref b' 0 0 xs.length (xs.length+room xs.length)] lo H K:=by
 refine fU rfl (jD.walk ⟨true,false⟩ FB (aMs rfl) ?_)
 have hr:=room_le xs.length
 have hf:=UU kR xs
 have w1:IntKind.i64.wrap ((xs.length:Int)+(room xs.length:Int))=((xs.length+room xs.length:Nat):Int):=wrapN _ (by omega) (by omega)
 have l1:=eI (o:=0) (n:=xs.length) (c:=xs.length+room xs.length) hX
 have l2:=eI (o:=0) (n:=xs.length) (c:=xs.length+room xs.length) hY
 have e1:=rM (o:=0) (n:=xs.length) (c:=xs.length+room xs.length) (h:=xs.length+room xs.length) (k2 := .i64) hX (aKE _)
 have e2:=rM (o:=0) (n:=xs.length) (c:=xs.length+room xs.length) (h:=xs.length+room xs.length) (k2 := .i64) hY (aKE _)
 have f1:fz depth H (.ref b 0 0 (xs.length+room xs.length) (xs.length+room xs.length))=some (gJ (mC kR xs)):=IA hX (by simp[hf]) (aKE _) (fN fun _=>rfl)
 have f2:fz depth H (.ref b' 0 0 (xs.length+room xs.length) (xs.length+room xs.length))=some (gJ (mC kR xs)):=IA hY (by simp[hf]) (aKE _) (fN fun _=>rfl)
 have e3:=(Dv (mC kR xs) (mC kR xs) (by omega)).flat (H:=H) rfl (by simp[aO,kJ]) (fz2 f1 f2) rfl
 simp only[Bx,zN,kA,l1,l2,w1,e1,e2,e3,eq_self,VX,Nat.reduceEqDiff,Nat.reduceAdd]
 exact hk
end Go.PM
namespace Go.PM
end Go.PM
namespace Go.PM
end Go.PM
namespace Go.PM
end Go.PM
namespace Go.PM
theorem eV {H L:aA} {b g:Nat} {x:List VV×Nat×Bool} (h:aG H b g=some x):aG (H++L) b g=some x:=by
 obtain⟨es,e,w⟩:=x
 rw[cB] at h ⊢
 rw[List.getElem?_append_left (aKD.1 h).1]
 exact h
theorem FO {H L:aA} {i g e:Nat} {es:List VV} {w:Bool} (h:L[i]? = some (.row g es e w)):aG (H++L) (H.length+i) g=some (es,e,w):=by
 rw[cB,aKW (aMw _ _),aMv]
 exact h
theorem aX {H:aA} {b b' g:Nat} {x:fO} {y:List VV×Nat×Bool} (hn:b'≠b) (h:aG H b g=some y):aG (H.set b' x) b g=some y:=by
 obtain⟨es,e,w⟩:=y
 rw[cB] at h ⊢
 rw[List.getElem?_set_ne hn]
 exact h
theorem bQ {H:aA} {b g e:Nat} {es:List VV} {w:Bool} {y:List VV×Nat×Bool} {g':Nat} (h:aG H b g'=some y):aG (H.set b (.row g es e w)) b g=some (es,e,w):=by
 obtain⟨pK,e',w'⟩:=y
 rw[cB] at h ⊢
 rw[List.getElem?_set_self (aKD.1 h).1]
theorem iS {H:aA} {b g:Nat} {x:List VV×Nat×Bool} (h:aG H b g=some x):b<H.length:=by
 obtain⟨es,e,w⟩:=x
 exact(aKD.1 (cB.1 h)).1
end Go.PM
namespace Go.PM
def iA:aE:=(LS [LO 4 (.mv LF)] (LS [LM 5 0,LM 6 1,LO 7 (.call 141 [(LT 5),(LT 6)]),LO 8 (.bin .geq (LT 7) (LI 0)),LM 4 8] .ret))
def iW:aT:=⟨9,[(.tmp 4)],iA⟩
theorem pG:fP 66=some iW:=by kernel_rfl
def jF:aE:=(LS [LO 4 (.mv LF)] (LS [LM 5 0,LM 6 1,LO 7 (.call 213 [(LT 5),(LT 6)]),LO 8 (.bin .geq (LT 7) (LI 0)),LM 4 8] .ret))
def kK:aT:=⟨9,[(.tmp 4)],jF⟩
theorem yT:fP 194=some kK:=by kernel_rfl
def fI:aE:=(.seq (LS [LM 34 8,LM 35 7,LO 36 (.len (LT 35)),LO 37 (.bin .lss (LT 34) (LT 36))] (.cond (LT 37) .skip (.exit 0))) (.block 1 (.cT [LM 38 8,LM 39 7,LM 40 8,LO 41 (.sub 3 (LT 39) (some (LT 40)) none none),LM 42 7,LM 43 8,LO 44 (.sub 3 (LT 42) none (some (LT 43)) none),LO 45 (.copy 3 (LT 41) (LT 44)),LO 46 (.bin .add (LT 38) (LT 45)),LM 8 46])))
def kV:aE:=(LS [LO 4 (.mv (.const (.slice none 0 0)))] (.seq (LS [LM 9 1,LO 10 (.bin .lss (LT 9) (LI 0))] (.cond (LT 10) (.cT [LO 11 .die,LN .die]) .skip)) (LS [LM 13 0,LO 14 (.len (LT 13)),LO 15 (.cvt .u64 (LT 14)),LM 16 1,LO 17 (.cvt .u64 (LT 16)),LO 18 (.call 187 [(LT 15),(LT 17)]),LM 12 18,LO 19 (LX 12 0),LO 20 (LX 12 1),LM 5 19,LM 6 20] (.seq (LS [LM 21 5,LO 22 (.bin .gtr (LT 21) (.const (.int .u64 0))),LM 23 22,LZ 23 24 (.mv (LT 6)),LZ 23 25 (.bin .gtr (LT 24) (.const (.int .u64 9223372036854775807))),LO 26 (.pick (LT 23) LG (LT 25))] (.cond (LT 26) (.cT [LO 27 .die,LN .die]) .skip)) (LS [LM 28 6,LO 29 (.cvt .i64 (LT 28)),LO 30 (.make [(.bool false),(.slice none 0 0),(.slice none 0 0)] 56 (LT 29) (LT 29)),LM 7 30] (LS [LM 31 7,LM 32 0,LO 33 (.copy 3 (LT 31) (LT 32)),LM 8 33] (.seq (.block 0 (.loop fI)) (LS [LM 47 7,LM 4 47] .ret))))))))
def lO:aT:=⟨48,[(.tmp 4)],kV⟩
theorem tL:fP 162=some lO:=by kernel_rfl
def cU:aE:=(LS [LO 9 (.bin .lss (LT 8) (LT 7))] (.seq (.cond (LT 9) .skip (.exit 0)) (.seq (.block 1 (LS [LM 10 8,LM 5 10] (LS [LM 11 1,LM 12 0,LM 13 5,LO 14 (.iaddr 3 (LT 12) (LT 13)),LO 15 (LK 14),LO 16 (.callv (LT 11) [(LT 15)])] (.cond (LT 16) (LS [LM 17 5,LM 4 17] .ret) .skip)))) (.cT [LO 18 (.bin .add (LT 8) (LI 1)),LM 8 18]))))
def jH:aE:=(LS [LO 4 (.mv (LI 0))] (.seq (LS [LM 6 0,LO 7 (.len (LT 6)),LO 8 (.mv (LI 0))] (.block 0 (.loop cU))) (LS [LO 4 (.mv (LI (-1)))] .ret)))
def jZ:aT:=⟨19,[(.tmp 4)],jH⟩
theorem rB:fP 141=some jZ:=by kernel_rfl
def gI:aE:=(LS [LO 9 (.bin .lss (LT 8) (LT 7))] (.seq (.cond (LT 9) .skip (.exit 0)) (.seq (.block 1 (LS [LM 10 8,LM 5 10] (LS [LM 11 1,LM 12 0,LM 13 5,LO 14 (.iaddr 1 (LT 12) (LT 13)),LO 15 (LL 14),LO 16 (.eqb false (LT 11) (LT 15))] (.cond (LT 16) (LS [LM 17 5,LM 4 17] .ret) .skip)))) (.cT [LO 18 (.bin .add (LT 8) (LI 1)),LM 8 18]))))
def qS:aE:=(LS [LO 4 (.mv (LI 0))] (.seq (LS [LM 6 0,LO 7 (.len (LT 6)),LO 8 (.mv (LI 0))] (.block 0 (.loop gI))) (LS [LO 4 (.mv (LI (-1)))] .ret)))
def tD:aT:=⟨19,[(.tmp 4)],qS⟩
theorem AA:fP 213=some tD:=by kernel_rfl
def EF:aE:=(LS [LO 4 (.mv (.const (.int .u64 0))),LO 5 (.mv (.const (.int .u64 0)))] (.seq (.cond LF (LS [LM 11 0,LO 12 (.cvt .u32 (LT 11)),LM 13 1,LO 14 (.cvt .u32 (LT 13)),LO 15 (.call 206 [(LT 12),(LT 14)]),LM 10 15,LO 16 (LX 10 0),LO 17 (LX 10 1),LM 6 16,LM 7 17] (LS [LM 18 6,LO 19 (.cvt .u64 (LT 18)),LM 20 7,LO 21 (.cvt .u64 (LT 20)),LM 4 19,LM 5 21] .ret)) .skip) (LS [LM 23 0,LM 24 1,LO 25 (.call 207 [(LT 23),(LT 24)]),LM 22 25,LO 26 (LX 22 0),LO 27 (LX 22 1),LM 8 26,LM 9 27] (LS [LM 28 8,LM 29 9,LM 4 28,LM 5 29] .ret))))
def Ht:aT:=⟨30,[(.tmp 4),(.tmp 5)],EF⟩
theorem M4:fP 187=some Ht:=by kernel_rfl
def HK:aE:=(LS [LO 4 (.mv (.const (.string ⟨#[]⟩))),LO 5 (.mv (.const (.string ⟨#[]⟩))),LO 6 (.mv LF)] (LS [LM 7 0,LM 8 1,LO 9 (.call 190 [(LT 7),(LT 8)]),LO 10 (LX 9 0),LO 11 (LX 9 1),LO 12 (LX 9 2),LM 4 10,LM 5 11,LM 6 12] .ret))
def Mx:aT:=⟨13,[(.tmp 4),(.tmp 5),(.tmp 6)],HK⟩
theorem Ql:fP 172=some Mx:=by kernel_rfl
def Ax:aE:=(LS [LO 4 (.mv (.const (.string ⟨#[]⟩))),LO 5 (.mv LF)] (LS [LM 6 0,LM 7 1,LO 8 (.call 191 [(LT 6),(LT 7)]),LO 9 (LX 8 0),LO 10 (LX 8 1),LM 4 9,LM 5 10] .ret))
def Ca:aT:=⟨11,[(.tmp 4),(.tmp 5)],Ax⟩
theorem Hh:fP 173=some Ca:=by kernel_rfl
def gP:aE:=(.seq (LS [LM 7 2,LM 8 3,LO 9 (.bin .lss (LT 7) (LT 8))] (.cond (LT 9) .skip (.exit 0))) (.seq (.block 1 (.cT [LM 14 0,LM 15 2,LM 16 0,LM 17 3,LM 18 0,LM 19 3,LO 20 (.iaddr 1 (LT 18) (LT 19)),LO 21 (LL 20),LM 22 0,LM 23 2,LO 24 (.iaddr 1 (LT 22) (LT 23)),LO 25 (LL 24),LO 26 (.iaddr 1 (LT 14) (LT 15)),LN (.store 1 (LT 26) (LT 21)),LO 27 (.iaddr 1 (LT 16) (LT 17)),LN (.store 1 (LT 27) (LT 25))])) (.cT [LM 10 2,LO 11 (.bin .add (LT 10) (LI 1)),LM 12 3,LO 13 (.bin .sub (LT 12) (LI 1)),LM 2 11,LM 3 13])))
def mE:aE:=(LS [LM 4 0,LO 5 (.len (LT 4)),LO 6 (.bin .sub (LT 5) (LI 1)),LO 2 (.mv (LI 0)),LM 3 6] (.block 0 (.loop gP)))
def nL:aT:=⟨28,[],mE⟩
theorem vI:fP 216=some nL:=by kernel_rfl
def B3:aE:=(LS [LO 4 (.mv (.const (.int .u64 0))),LO 5 (.mv (.const (.int .u64 0)))] (LS [LM 14 0,LO 15 (.bin .and (LT 14) (.const (.int .u64 4294967295))),LM 6 15] (LS [LM 16 0,LO 17 (.bin .shr (LT 16) (.const (.int .u64 32))),LM 7 17] (LS [LM 18 1,LO 19 (.bin .and (LT 18) (.const (.int .u64 4294967295))),LM 8 19] (LS [LM 20 1,LO 21 (.bin .shr (LT 20) (.const (.int .u64 32))),LM 9 21] (LS [LM 22 6,LM 23 8,LO 24 (.bin .mul (LT 22) (LT 23)),LM 10 24] (LS [LM 25 7,LM 26 8,LO 27 (.bin .mul (LT 25) (LT 26)),LM 28 10,LO 29 (.bin .shr (LT 28) (.const (.int .u64 32))),LO 30 (.bin .add (LT 27) (LT 29)),LM 11 30] (LS [LM 31 11,LO 32 (.bin .and (LT 31) (.const (.int .u64 4294967295))),LM 12 32] (LS [LM 33 11,LO 34 (.bin .shr (LT 33) (.const (.int .u64 32))),LM 13 34] (LS [LM 35 12,LM 36 6,LM 37 9,LO 38 (.bin .mul (LT 36) (LT 37)),LO 39 (.bin .add (LT 35) (LT 38)),LM 12 39] (LS [LM 40 7,LM 41 9,LO 42 (.bin .mul (LT 40) (LT 41)),LM 43 13,LO 44 (.bin .add (LT 42) (LT 43)),LM 45 12,LO 46 (.bin .shr (LT 45) (.const (.int .u64 32))),LO 47 (.bin .add (LT 44) (LT 46)),LM 4 47] (LS [LM 48 0,LM 49 1,LO 50 (.bin .mul (LT 48) (LT 49)),LM 5 50] .ret))))))))))))
def EN:aT:=⟨51,[(.tmp 4),(.tmp 5)],B3⟩
theorem JA:fP 207=some EN:=by kernel_rfl
def lT:aE:=(LS [LO 4 (.mv (.const (.string ⟨#[]⟩))),LO 5 (.mv (.const (.string ⟨#[]⟩))),LO 6 (.mv LF)] (.seq (LS [LM 8 0,LM 9 1,LO 10 (.call 209 [(LT 8),(LT 9)]),LM 7 10] (LS [LM 11 7,LO 12 (.bin .geq (LT 11) (LI 0))] (.cond (LT 12) (LS [LM 13 0,LM 14 7,LO 15 (.ssub (LT 13) none (some (LT 14))),LM 16 0,LM 17 7,LM 18 1,LO 19 (.slen (LT 18)),LO 20 (.bin .add (LT 17) (LT 19)),LO 21 (.ssub (LT 16) (some (LT 20)) none),LM 4 15,LM 5 21,LO 6 (.mv LG)] .ret) .skip))) (LS [LM 22 0,LM 4 22,LO 5 (.mv (.const (.string ⟨#[]⟩))),LO 6 (.mv LF)] .ret)))
def nI:aT:=⟨23,[(.tmp 4),(.tmp 5),(.tmp 6)],lT⟩
theorem BK:fP 190=some nI:=by kernel_rfl
def iB:aE:=(LS [LO 4 (.mv (.const (.string ⟨#[]⟩))),LO 5 (.mv LF)] (.seq (LS [LM 6 0,LM 7 1,LO 8 (.call 210 [(LT 6),(LT 7)]),LO 9 (.un .not (LT 8))] (.cond (LT 9) (LS [LM 10 0,LM 4 10,LO 5 (.mv LF)] .ret) .skip)) (LS [LM 11 0,LM 12 1,LO 13 (.slen (LT 12)),LO 14 (.ssub (LT 11) (some (LT 13)) none),LM 4 14,LO 5 (.mv LG)] .ret)))
def iY:aT:=⟨15,[(.tmp 4),(.tmp 5)],iB⟩
theorem wE:fP 191=some iY:=by kernel_rfl
def iL:aE:=(LS [LO 4 (.mv LF)] (LS [LM 5 0,LO 6 (.slen (LT 5)),LM 7 1,LO 8 (.slen (LT 7)),LO 9 (.bin .geq (LT 6) (LT 8)),LM 10 9,LY 10 11 (.mv (LT 0)),LY 10 12 (.mv (LT 1)),LY 10 13 (.slen (LT 12)),LY 10 14 (.ssub (LT 11) none (some (LT 13))),LY 10 15 (.mv (LT 1)),LY 10 16 (.bin .eql (LT 14) (LT 15)),LO 17 (.pick (LT 10) (LT 16) LF),LM 4 17] .ret))
def jC:aT:=⟨18,[(.tmp 4)],iL⟩
theorem wO:fP 210=some jC:=by kernel_rfl
def Cs:aE:=(LS [LO 2 (.mv (.const (.string ⟨#[]⟩)))] (.seq (LS [LM 3 0,LO 4 (.bin .lss (LT 3) (LI 10))] (.cond (LT 4) (LS [LM 5 0,LM 6 0,LO 7 (.bin .add (LT 6) (LI 1)),LO 8 (.ssub (.const (.string ⟨#[48,49,50,51,52,53,54,55,56,57,97,98,99,100,101,102,103,104,105,106,107,108,109,110,111,112,113,114,115,116,117,118,119,120,121,122]⟩)) (some (LT 5)) (some (LT 7))),LM 2 8] .ret) .skip)) (LS [LM 9 0,LO 10 (.bin .mul (LT 9) (LI 2)),LM 11 0,LO 12 (.bin .mul (LT 11) (LI 2)),LO 13 (.bin .add (LT 12) (LI 2)),LO 14 (.ssub (.const (.string ⟨#[48,48,48,49,48,50,48,51,48,52,48,53,48,54,48,55,48,56,48,57,49,48,49,49,49,50,49,51,49,52,49,53,49,54,49,55,49,56,49,57,50,48,50,49,50,50,50,51,50,52,50,53,50,54,50,55,50,56,50,57,51,48,51,49,51,50,51,51,51,52,51,53,51,54,51,55,51,56,51,57,52,48,52,49,52,50,52,51,52,52,52,53,52,54,52,55,52,56,52,57,53,48,53,49,53,50,53,51,53,52,53,53,53,54,53,55,53,56,53,57,54,48,54,49,54,50,54,51,54,52,54,53,54,54,54,55,54,56,54,57,55,48,55,49,55,50,55,51,55,52,55,53,55,54,55,55,55,56,55,57,56,48,56,49,56,50,56,51,56,52,56,53,56,54,56,55,56,56,56,57,57,48,57,49,57,50,57,51,57,52,57,53,57,54,57,55,57,56,57,57]⟩)) (some (LT 10)) (some (LT 13))),LM 2 14] .ret)))
def internal_strconv_small:aT:=⟨15,[(.tmp 2)],Cs⟩
def wH:aE:=(.seq (LS [LM 19 4,LO 20 (.bin .geq (LT 19) (LI 8))] (.cond (LT 20) .skip (.exit 0))) (.block 1 (LS [LM 21 1,LO 22 (.bin .rem (LT 21) (.const (.int .u64 100000000))),LO 23 (.cvt .u32 (LT 22)),LM 5 23] (LS [LM 24 1,LO 25 (.bin .quo (LT 24) (.const (.int .u64 100000000))),LM 1 25] (LS [LM 26 5,LO 27 (.bin .quo (LT 26) (.const (.int .u32 10000))),LM 28 5,LO 29 (.bin .rem (LT 28) (.const (.int .u32 10000))),LM 6 27,LM 7 29] (LS [LM 30 7,LO 31 (.bin .quo (LT 30) (.const (.int .u32 100))),LO 32 (.bin .mul (LT 31) (.const (.int .u32 2))),LM 33 7,LO 34 (.bin .rem (LT 33) (.const (.int .u32 100))),LO 35 (.bin .mul (LT 34) (.const (.int .u32 2))),LM 8 32,LM 9 35] (LS [LM 36 6,LO 37 (.bin .quo (LT 36) (.const (.int .u32 100))),LO 38 (.bin .mul (LT 37) (.const (.int .u32 2))),LM 39 6,LO 40 (.bin .rem (LT 39) (.const (.int .u32 100))),LO 41 (.bin .mul (LT 40) (.const (.int .u32 2))),LM 10 38,LM 11 41] (LS [LM 42 0,LM 43 4,LO 44 (.bin .sub (LT 43) (LI 1)),LM 45 0,LM 46 4,LO 47 (.bin .sub (LT 46) (LI 2)),LM 48 9,LO 49 (.bin .add (LT 48) (.const (.int .u32 1))),LO 50 (.sidx (.const (.string ⟨#[48,48,48,49,48,50,48,51,48,52,48,53,48,54,48,55,48,56,48,57,49,48,49,49,49,50,49,51,49,52,49,53,49,54,49,55,49,56,49,57,50,48,50,49,50,50,50,51,50,52,50,53,50,54,50,55,50,56,50,57,51,48,51,49,51,50,51,51,51,52,51,53,51,54,51,55,51,56,51,57,52,48,52,49,52,50,52,51,52,52,52,53,52,54,52,55,52,56,52,57,53,48,53,49,53,50,53,51,53,52,53,53,53,54,53,55,53,56,53,57,54,48,54,49,54,50,54,51,54,52,54,53,54,54,54,55,54,56,54,57,55,48,55,49,55,50,55,51,55,52,55,53,55,54,55,55,55,56,55,57,56,48,56,49,56,50,56,51,56,52,56,53,56,54,56,55,56,56,56,57,57,48,57,49,57,50,57,51,57,52,57,53,57,54,57,55,57,56,57,57]⟩)) (LT 49)),LM 51 9,LO 52 (.sidx (.const (.string ⟨#[48,48,48,49,48,50,48,51,48,52,48,53,48,54,48,55,48,56,48,57,49,48,49,49,49,50,49,51,49,52,49,53,49,54,49,55,49,56,49,57,50,48,50,49,50,50,50,51,50,52,50,53,50,54,50,55,50,56,50,57,51,48,51,49,51,50,51,51,51,52,51,53,51,54,51,55,51,56,51,57,52,48,52,49,52,50,52,51,52,52,52,53,52,54,52,55,52,56,52,57,53,48,53,49,53,50,53,51,53,52,53,53,53,54,53,55,53,56,53,57,54,48,54,49,54,50,54,51,54,52,54,53,54,54,54,55,54,56,54,57,55,48,55,49,55,50,55,51,55,52,55,53,55,54,55,55,55,56,55,57,56,48,56,49,56,50,56,51,56,52,56,53,56,54,56,55,56,56,56,57,57,48,57,49,57,50,57,51,57,52,57,53,57,54,57,55,57,56,57,57]⟩)) (LT 51)),LO 53 (.iaddr 1 (LT 42) (LT 44)),LN (.store 1 (LT 53) (LT 50)),LO 54 (.iaddr 1 (LT 45) (LT 47)),LN (.store 1 (LT 54) (LT 52))] (LS [LM 55 0,LM 56 4,LO 57 (.bin .sub (LT 56) (LI 3)),LM 58 0,LM 59 4,LO 60 (.bin .sub (LT 59) (LI 4)),LM 61 8,LO 62 (.bin .add (LT 61) (.const (.int .u32 1))),LO 63 (.sidx (.const (.string ⟨#[48,48,48,49,48,50,48,51,48,52,48,53,48,54,48,55,48,56,48,57,49,48,49,49,49,50,49,51,49,52,49,53,49,54,49,55,49,56,49,57,50,48,50,49,50,50,50,51,50,52,50,53,50,54,50,55,50,56,50,57,51,48,51,49,51,50,51,51,51,52,51,53,51,54,51,55,51,56,51,57,52,48,52,49,52,50,52,51,52,52,52,53,52,54,52,55,52,56,52,57,53,48,53,49,53,50,53,51,53,52,53,53,53,54,53,55,53,56,53,57,54,48,54,49,54,50,54,51,54,52,54,53,54,54,54,55,54,56,54,57,55,48,55,49,55,50,55,51,55,52,55,53,55,54,55,55,55,56,55,57,56,48,56,49,56,50,56,51,56,52,56,53,56,54,56,55,56,56,56,57,57,48,57,49,57,50,57,51,57,52,57,53,57,54,57,55,57,56,57,57]⟩)) (LT 62)),LM 64 8,LO 65 (.sidx (.const (.string ⟨#[48,48,48,49,48,50,48,51,48,52,48,53,48,54,48,55,48,56,48,57,49,48,49,49,49,50,49,51,49,52,49,53,49,54,49,55,49,56,49,57,50,48,50,49,50,50,50,51,50,52,50,53,50,54,50,55,50,56,50,57,51,48,51,49,51,50,51,51,51,52,51,53,51,54,51,55,51,56,51,57,52,48,52,49,52,50,52,51,52,52,52,53,52,54,52,55,52,56,52,57,53,48,53,49,53,50,53,51,53,52,53,53,53,54,53,55,53,56,53,57,54,48,54,49,54,50,54,51,54,52,54,53,54,54,54,55,54,56,54,57,55,48,55,49,55,50,55,51,55,52,55,53,55,54,55,55,55,56,55,57,56,48,56,49,56,50,56,51,56,52,56,53,56,54,56,55,56,56,56,57,57,48,57,49,57,50,57,51,57,52,57,53,57,54,57,55,57,56,57,57]⟩)) (LT 64)),LO 66 (.iaddr 1 (LT 55) (LT 57)),LN (.store 1 (LT 66) (LT 63)),LO 67 (.iaddr 1 (LT 58) (LT 60)),LN (.store 1 (LT 67) (LT 65))] (LS [LM 68 0,LM 69 4,LO 70 (.bin .sub (LT 69) (LI 5)),LM 71 0,LM 72 4,LO 73 (.bin .sub (LT 72) (LI 6)),LM 74 11,LO 75 (.bin .add (LT 74) (.const (.int .u32 1))),LO 76 (.sidx (.const (.string ⟨#[48,48,48,49,48,50,48,51,48,52,48,53,48,54,48,55,48,56,48,57,49,48,49,49,49,50,49,51,49,52,49,53,49,54,49,55,49,56,49,57,50,48,50,49,50,50,50,51,50,52,50,53,50,54,50,55,50,56,50,57,51,48,51,49,51,50,51,51,51,52,51,53,51,54,51,55,51,56,51,57,52,48,52,49,52,50,52,51,52,52,52,53,52,54,52,55,52,56,52,57,53,48,53,49,53,50,53,51,53,52,53,53,53,54,53,55,53,56,53,57,54,48,54,49,54,50,54,51,54,52,54,53,54,54,54,55,54,56,54,57,55,48,55,49,55,50,55,51,55,52,55,53,55,54,55,55,55,56,55,57,56,48,56,49,56,50,56,51,56,52,56,53,56,54,56,55,56,56,56,57,57,48,57,49,57,50,57,51,57,52,57,53,57,54,57,55,57,56,57,57]⟩)) (LT 75)),LM 77 11,LO 78 (.sidx (.const (.string ⟨#[48,48,48,49,48,50,48,51,48,52,48,53,48,54,48,55,48,56,48,57,49,48,49,49,49,50,49,51,49,52,49,53,49,54,49,55,49,56,49,57,50,48,50,49,50,50,50,51,50,52,50,53,50,54,50,55,50,56,50,57,51,48,51,49,51,50,51,51,51,52,51,53,51,54,51,55,51,56,51,57,52,48,52,49,52,50,52,51,52,52,52,53,52,54,52,55,52,56,52,57,53,48,53,49,53,50,53,51,53,52,53,53,53,54,53,55,53,56,53,57,54,48,54,49,54,50,54,51,54,52,54,53,54,54,54,55,54,56,54,57,55,48,55,49,55,50,55,51,55,52,55,53,55,54,55,55,55,56,55,57,56,48,56,49,56,50,56,51,56,52,56,53,56,54,56,55,56,56,56,57,57,48,57,49,57,50,57,51,57,52,57,53,57,54,57,55,57,56,57,57]⟩)) (LT 77)),LO 79 (.iaddr 1 (LT 68) (LT 70)),LN (.store 1 (LT 79) (LT 76)),LO 80 (.iaddr 1 (LT 71) (LT 73)),LN (.store 1 (LT 80) (LT 78))] (LS [LM 81 0,LM 82 4,LO 83 (.bin .sub (LT 82) (LI 7)),LM 84 0,LM 85 4,LO 86 (.bin .sub (LT 85) (LI 8)),LM 87 10,LO 88 (.bin .add (LT 87) (.const (.int .u32 1))),LO 89 (.sidx (.const (.string ⟨#[48,48,48,49,48,50,48,51,48,52,48,53,48,54,48,55,48,56,48,57,49,48,49,49,49,50,49,51,49,52,49,53,49,54,49,55,49,56,49,57,50,48,50,49,50,50,50,51,50,52,50,53,50,54,50,55,50,56,50,57,51,48,51,49,51,50,51,51,51,52,51,53,51,54,51,55,51,56,51,57,52,48,52,49,52,50,52,51,52,52,52,53,52,54,52,55,52,56,52,57,53,48,53,49,53,50,53,51,53,52,53,53,53,54,53,55,53,56,53,57,54,48,54,49,54,50,54,51,54,52,54,53,54,54,54,55,54,56,54,57,55,48,55,49,55,50,55,51,55,52,55,53,55,54,55,55,55,56,55,57,56,48,56,49,56,50,56,51,56,52,56,53,56,54,56,55,56,56,56,57,57,48,57,49,57,50,57,51,57,52,57,53,57,54,57,55,57,56,57,57]⟩)) (LT 88)),LM 90 10,LO 91 (.sidx (.const (.string ⟨#[48,48,48,49,48,50,48,51,48,52,48,53,48,54,48,55,48,56,48,57,49,48,49,49,49,50,49,51,49,52,49,53,49,54,49,55,49,56,49,57,50,48,50,49,50,50,50,51,50,52,50,53,50,54,50,55,50,56,50,57,51,48,51,49,51,50,51,51,51,52,51,53,51,54,51,55,51,56,51,57,52,48,52,49,52,50,52,51,52,52,52,53,52,54,52,55,52,56,52,57,53,48,53,49,53,50,53,51,53,52,53,53,53,54,53,55,53,56,53,57,54,48,54,49,54,50,54,51,54,52,54,53,54,54,54,55,54,56,54,57,55,48,55,49,55,50,55,51,55,52,55,53,55,54,55,55,55,56,55,57,56,48,56,49,56,50,56,51,56,52,56,53,56,54,56,55,56,56,56,57,57,48,57,49,57,50,57,51,57,52,57,53,57,54,57,55,57,56,57,57]⟩)) (LT 90)),LO 92 (.iaddr 1 (LT 81) (LT 83)),LN (.store 1 (LT 92) (LT 89)),LO 93 (.iaddr 1 (LT 84) (LT 86)),LN (.store 1 (LT 93) (LT 91))] (.cT [LM 94 4,LO 95 (.bin .sub (LT 94) (LI 8)),LM 4 95]))))))))))))
def xG:aE:=(LS [LM 17 0,LO 18 (.len (LT 17)),LM 4 18] (.seq (.block 0 (.loop wH)) (LS [LM 96 1,LO 97 (.cvt .u32 (LT 96)),LM 12 97] (.seq (LS [LM 98 4,LO 99 (.bin .geq (LT 98) (LI 4))] (.cond (LT 99) (LS [LM 100 12,LO 101 (.bin .rem (LT 100) (.const (.int .u32 10000))),LM 13 101] (LS [LM 102 12,LO 103 (.bin .quo (LT 102) (.const (.int .u32 10000))),LM 12 103] (LS [LM 104 13,LO 105 (.bin .quo (LT 104) (.const (.int .u32 100))),LO 106 (.bin .mul (LT 105) (.const (.int .u32 2))),LM 107 13,LO 108 (.bin .rem (LT 107) (.const (.int .u32 100))),LO 109 (.bin .mul (LT 108) (.const (.int .u32 2))),LM 14 106,LM 15 109] (LS [LM 110 0,LM 111 4,LO 112 (.bin .sub (LT 111) (LI 1)),LM 113 0,LM 114 4,LO 115 (.bin .sub (LT 114) (LI 2)),LM 116 15,LO 117 (.bin .add (LT 116) (.const (.int .u32 1))),LO 118 (.sidx (.const (.string ⟨#[48,48,48,49,48,50,48,51,48,52,48,53,48,54,48,55,48,56,48,57,49,48,49,49,49,50,49,51,49,52,49,53,49,54,49,55,49,56,49,57,50,48,50,49,50,50,50,51,50,52,50,53,50,54,50,55,50,56,50,57,51,48,51,49,51,50,51,51,51,52,51,53,51,54,51,55,51,56,51,57,52,48,52,49,52,50,52,51,52,52,52,53,52,54,52,55,52,56,52,57,53,48,53,49,53,50,53,51,53,52,53,53,53,54,53,55,53,56,53,57,54,48,54,49,54,50,54,51,54,52,54,53,54,54,54,55,54,56,54,57,55,48,55,49,55,50,55,51,55,52,55,53,55,54,55,55,55,56,55,57,56,48,56,49,56,50,56,51,56,52,56,53,56,54,56,55,56,56,56,57,57,48,57,49,57,50,57,51,57,52,57,53,57,54,57,55,57,56,57,57]⟩)) (LT 117)),LM 119 15,LO 120 (.sidx (.const (.string ⟨#[48,48,48,49,48,50,48,51,48,52,48,53,48,54,48,55,48,56,48,57,49,48,49,49,49,50,49,51,49,52,49,53,49,54,49,55,49,56,49,57,50,48,50,49,50,50,50,51,50,52,50,53,50,54,50,55,50,56,50,57,51,48,51,49,51,50,51,51,51,52,51,53,51,54,51,55,51,56,51,57,52,48,52,49,52,50,52,51,52,52,52,53,52,54,52,55,52,56,52,57,53,48,53,49,53,50,53,51,53,52,53,53,53,54,53,55,53,56,53,57,54,48,54,49,54,50,54,51,54,52,54,53,54,54,54,55,54,56,54,57,55,48,55,49,55,50,55,51,55,52,55,53,55,54,55,55,55,56,55,57,56,48,56,49,56,50,56,51,56,52,56,53,56,54,56,55,56,56,56,57,57,48,57,49,57,50,57,51,57,52,57,53,57,54,57,55,57,56,57,57]⟩)) (LT 119)),LO 121 (.iaddr 1 (LT 110) (LT 112)),LN (.store 1 (LT 121) (LT 118)),LO 122 (.iaddr 1 (LT 113) (LT 115)),LN (.store 1 (LT 122) (LT 120))] (LS [LM 123 0,LM 124 4,LO 125 (.bin .sub (LT 124) (LI 3)),LM 126 0,LM 127 4,LO 128 (.bin .sub (LT 127) (LI 4)),LM 129 14,LO 130 (.bin .add (LT 129) (.const (.int .u32 1))),LO 131 (.sidx (.const (.string ⟨#[48,48,48,49,48,50,48,51,48,52,48,53,48,54,48,55,48,56,48,57,49,48,49,49,49,50,49,51,49,52,49,53,49,54,49,55,49,56,49,57,50,48,50,49,50,50,50,51,50,52,50,53,50,54,50,55,50,56,50,57,51,48,51,49,51,50,51,51,51,52,51,53,51,54,51,55,51,56,51,57,52,48,52,49,52,50,52,51,52,52,52,53,52,54,52,55,52,56,52,57,53,48,53,49,53,50,53,51,53,52,53,53,53,54,53,55,53,56,53,57,54,48,54,49,54,50,54,51,54,52,54,53,54,54,54,55,54,56,54,57,55,48,55,49,55,50,55,51,55,52,55,53,55,54,55,55,55,56,55,57,56,48,56,49,56,50,56,51,56,52,56,53,56,54,56,55,56,56,56,57,57,48,57,49,57,50,57,51,57,52,57,53,57,54,57,55,57,56,57,57]⟩)) (LT 130)),LM 132 14,LO 133 (.sidx (.const (.string ⟨#[48,48,48,49,48,50,48,51,48,52,48,53,48,54,48,55,48,56,48,57,49,48,49,49,49,50,49,51,49,52,49,53,49,54,49,55,49,56,49,57,50,48,50,49,50,50,50,51,50,52,50,53,50,54,50,55,50,56,50,57,51,48,51,49,51,50,51,51,51,52,51,53,51,54,51,55,51,56,51,57,52,48,52,49,52,50,52,51,52,52,52,53,52,54,52,55,52,56,52,57,53,48,53,49,53,50,53,51,53,52,53,53,53,54,53,55,53,56,53,57,54,48,54,49,54,50,54,51,54,52,54,53,54,54,54,55,54,56,54,57,55,48,55,49,55,50,55,51,55,52,55,53,55,54,55,55,55,56,55,57,56,48,56,49,56,50,56,51,56,52,56,53,56,54,56,55,56,56,56,57,57,48,57,49,57,50,57,51,57,52,57,53,57,54,57,55,57,56,57,57]⟩)) (LT 132)),LO 134 (.iaddr 1 (LT 123) (LT 125)),LN (.store 1 (LT 134) (LT 131)),LO 135 (.iaddr 1 (LT 126) (LT 128)),LN (.store 1 (LT 135) (LT 133))] (.cT [LM 136 4,LO 137 (.bin .sub (LT 136) (LI 4)),LM 4 137])))))) .skip)) (.seq (LS [LM 138 4,LO 139 (.bin .geq (LT 138) (LI 2))] (.cond (LT 139) (LS [LM 140 12,LO 141 (.bin .rem (LT 140) (.const (.int .u32 100))),LO 142 (.bin .mul (LT 141) (.const (.int .u32 2))),LM 16 142] (LS [LM 143 12,LO 144 (.bin .quo (LT 143) (.const (.int .u32 100))),LM 12 144] (LS [LM 145 0,LM 146 4,LO 147 (.bin .sub (LT 146) (LI 1)),LM 148 0,LM 149 4,LO 150 (.bin .sub (LT 149) (LI 2)),LM 151 16,LO 152 (.bin .add (LT 151) (.const (.int .u32 1))),LO 153 (.sidx (.const (.string ⟨#[48,48,48,49,48,50,48,51,48,52,48,53,48,54,48,55,48,56,48,57,49,48,49,49,49,50,49,51,49,52,49,53,49,54,49,55,49,56,49,57,50,48,50,49,50,50,50,51,50,52,50,53,50,54,50,55,50,56,50,57,51,48,51,49,51,50,51,51,51,52,51,53,51,54,51,55,51,56,51,57,52,48,52,49,52,50,52,51,52,52,52,53,52,54,52,55,52,56,52,57,53,48,53,49,53,50,53,51,53,52,53,53,53,54,53,55,53,56,53,57,54,48,54,49,54,50,54,51,54,52,54,53,54,54,54,55,54,56,54,57,55,48,55,49,55,50,55,51,55,52,55,53,55,54,55,55,55,56,55,57,56,48,56,49,56,50,56,51,56,52,56,53,56,54,56,55,56,56,56,57,57,48,57,49,57,50,57,51,57,52,57,53,57,54,57,55,57,56,57,57]⟩)) (LT 152)),LM 154 16,LO 155 (.sidx (.const (.string ⟨#[48,48,48,49,48,50,48,51,48,52,48,53,48,54,48,55,48,56,48,57,49,48,49,49,49,50,49,51,49,52,49,53,49,54,49,55,49,56,49,57,50,48,50,49,50,50,50,51,50,52,50,53,50,54,50,55,50,56,50,57,51,48,51,49,51,50,51,51,51,52,51,53,51,54,51,55,51,56,51,57,52,48,52,49,52,50,52,51,52,52,52,53,52,54,52,55,52,56,52,57,53,48,53,49,53,50,53,51,53,52,53,53,53,54,53,55,53,56,53,57,54,48,54,49,54,50,54,51,54,52,54,53,54,54,54,55,54,56,54,57,55,48,55,49,55,50,55,51,55,52,55,53,55,54,55,55,55,56,55,57,56,48,56,49,56,50,56,51,56,52,56,53,56,54,56,55,56,56,56,57,57,48,57,49,57,50,57,51,57,52,57,53,57,54,57,55,57,56,57,57]⟩)) (LT 154)),LO 156 (.iaddr 1 (LT 145) (LT 147)),LN (.store 1 (LT 156) (LT 153)),LO 157 (.iaddr 1 (LT 148) (LT 150)),LN (.store 1 (LT 157) (LT 155))] (.cT [LM 158 4,LO 159 (.bin .sub (LT 158) (LI 2)),LM 4 159])))) .skip)) (LS [LM 160 4,LO 161 (.bin .gtr (LT 160) (LI 0))] (.cond (LT 161) (.cT [LM 162 0,LM 163 12,LO 164 (.bin .add (.const (.int .u32 48)) (LT 163)),LO 165 (.cvt .u8 (LT 164)),LO 166 (.iaddr 1 (LT 162) (LI 0)),LN (.store 1 (LT 166) (LT 165))]) .skip)))))))
def internal_strconv_formatBase10:aT:=⟨167,[],xG⟩
end Go.PM
namespace Go.PM
end Go.PM
namespace Go.PM
def Kj:aE:=(LS [LO 2 (.new [(.bool false),(.slice none 0 0),(.slice none 0 0)])] (LS [LM 3 0,LO 4 (.bin .lss (LT 3) (LI 0)),LM 5 0,LO 6 (.call 140 [(LT 5)]),LO 7 (.call 139 [(LT 6)]),LO 8 (.call 139 [(.const (.int .u64 1))]),LO 9 (.build [(.bool false),(.slice none 0 0),(.slice none 0 0)] [(0,1),(1,1),(2,1)] [(0,(LT 4)),(1,(LT 7)),(2,(LT 8))]),LN (.store 3 (LT 2) (LT 9))] .ret))
def Oq:aT:=⟨10,[(.cell 2 true 3)],Kj⟩
theorem TM:fP 64=some Oq:=by kernel_rfl
def sY:aE:=(LS [LO 2 (.box (LT 0)),LO 3 (.box (LT 1)),LO 4 (.mv (LI 0))] (.seq (LS [LO 6 (LK 2),LQ 7 (.call 68 [(LT 6)]),LO 8 (LK 3),LQ 9 (.call 68 [(LT 8)]),LO 10 (.bin .neq (LT 7) (LT 9))] (.cond (LT 10) (LS [LO 11 (LK 2),LQ 12 (.call 68 [(LT 11)]),LO 13 (LK 3),LQ 14 (.call 68 [(LT 13)]),LO 15 (.bin .sub (LT 12) (LT 14)),LM 4 15] .ret) .skip)) (LS [LO 16 (LA 1 2),LO 17 (LL 16),LO 18 (LA 2 3),LO 19 (LL 18),LQ 20 (.call 143 [(LT 17),(LT 19)]),LO 21 (LA 1 3),LO 22 (LL 21),LO 23 (LA 2 2),LO 24 (LL 23),LQ 25 (.call 143 [(LT 22),(LT 24)]),LQ 26 (.call 142 [(LT 20),(LT 25)]),LM 5 26] (.seq (LS [LO 27 (LA 0 2),LO 28 (LL 27)] (.cond (LT 28) (LS [LM 29 5,LO 30 (.un .neg (LT 29)),LM 4 30] .ret) .skip)) (LS [LM 31 5,LM 4 31] .ret)))))
def wI:aT:=⟨32,[(.tmp 4)],sY⟩
theorem LD:fP 148=some wI:=by kernel_rfl
def Du:aE:=(LS [LO 2 (.box (LT 0)),LO 3 (.box (LT 1)),LO 4 (.new [(.bool false),(.slice none 0 0),(.slice none 0 0)])] (LS [LO 5 (LK 2),LO 6 (LK 3),LQ 7 (.call 177 [(LT 6)]),LQ 8 (.call 69 [(LT 5),(LT 7)]),LN (.store 3 (LT 4) (LT 8))] .ret))
def F3:aT:=⟨9,[(.cell 4 true 3)],Du⟩
theorem K2:fP 128=some F3:=by kernel_rfl
def B2:aE:=(LS [LO 2 (.box (LT 0)),LO 3 (.box (LT 1)),LO 4 (.new [(.bool false),(.slice none 0 0),(.slice none 0 0)])] (LS [LO 5 (LK 2),LO 6 (LA 0 3),LO 7 (LL 6),LO 8 (LA 2 3),LO 9 (LL 8),LO 10 (LA 1 3),LO 11 (LL 10),LO 12 (.build [(.bool false),(.slice none 0 0),(.slice none 0 0)] [(0,1),(1,1),(2,1)] [(0,(LT 7)),(1,(LT 9)),(2,(LT 11))]),LO 13 (.call 132 [(LT 5),(LT 12)]),LN (.store 3 (LT 4) (LT 13))] .ret))
def E0:aT:=⟨14,[(.cell 4 true 3)],B2⟩
theorem JN:fP 129=some E0:=by kernel_rfl
def fE:aE:=(LS [LO 2 (.box (LT 0)),LO 3 (.box (LT 1)),LO 4 (.new [(.bool false),(.slice none 0 0),(.slice none 0 0)])] (.seq (LS [LO 8 (LK 2),LO 9 (.call 68 [(LT 8)]),LO 10 (.bin .eql (LT 9) (LI 0))] (.cond (LT 10) (LS [LO 11 (LK 3),LN (.store 3 (LT 4) (LT 11))] .ret) .skip)) (.seq (LS [LO 12 (LK 3),LO 13 (.call 68 [(LT 12)]),LO 14 (.bin .eql (LT 13) (LI 0))] (.cond (LT 14) (LS [LO 15 (LK 2),LN (.store 3 (LT 4) (LT 15))] .ret) .skip)) (LS [LO 16 (LA 1 2),LO 17 (LL 16),LO 18 (LA 1 3),LO 19 (LL 18),LO 20 (LA 2 2),LO 21 (LL 20),LM 5 17,LM 6 19,LM 7 21] (.seq (LS [LO 22 (LA 2 2),LO 23 (LL 22),LO 24 (LA 2 3),LO 25 (LL 24),LO 26 (.call 142 [(LT 23),(LT 25)]),LO 27 (.bin .neq (LT 26) (LI 0))] (.cond (LT 27) (.cT [LO 28 (LA 1 2),LO 29 (LL 28),LO 30 (LA 2 3),LO 31 (LL 30),LQ 32 (.call 143 [(LT 29),(LT 31)]),LO 33 (LA 1 3),LO 34 (LL 33),LO 35 (LA 2 2),LO 36 (LL 35),LQ 37 (.call 143 [(LT 34),(LT 36)]),LO 38 (LA 2 2),LO 39 (LL 38),LO 40 (LA 2 3),LO 41 (LL 40),LQ 42 (.call 143 [(LT 39),(LT 41)]),LM 5 32,LM 6 37,LM 7 42]) .skip)) (.seq (.block 0 (LS [LO 44 (LA 0 2),LO 45 (LL 44),LO 46 (LA 0 3),LO 47 (LL 46),LO 48 (.eqb false (LT 45) (LT 47)),LM 43 48] (.cond (LT 43) (LS [LO 49 (LA 0 2),LO 50 (LL 49),LM 51 5,LM 52 6,LQ 53 (.call 145 [(LT 51),(LT 52)]),LM 54 7,LQ 55 (.call 144 [(LT 50),(LT 53),(LT 54)]),LN (.store 3 (LT 4) (LT 55))] .ret) (LS [LM 57 5,LM 58 6,LO 59 (.call 142 [(LT 57),(LT 58)]),LO 60 (.bin .geq (LT 59) (LI 0)),LM 56 60] (.cond (LT 56) (LS [LO 61 (LA 0 2),LO 62 (LL 61),LM 63 5,LM 64 6,LQ 65 (.call 146 [(LT 63),(LT 64)]),LM 66 7,LQ 67 (.call 144 [(LT 62),(LT 65),(LT 66)]),LN (.store 3 (LT 4) (LT 67))] .ret) .skip))))) (LS [LO 68 (LA 0 3),LO 69 (LL 68),LM 70 6,LM 71 5,LQ 72 (.call 146 [(LT 70),(LT 71)]),LM 73 7,LQ 74 (.call 144 [(LT 69),(LT 72),(LT 73)]),LN (.store 3 (LT 4) (LT 74))] .ret)))))))
def iK:aT:=⟨75,[(.cell 4 true 3)],fE⟩
theorem Lk:fP 69=some iK:=by kernel_rfl
def sJ:aE:=(LS [LO 2 (.box (LT 0)),LO 3 (.box (LT 1)),LO 4 (.new [(.bool false),(.slice none 0 0),(.slice none 0 0)])] (.seq (LS [LO 7 (LK 2),LO 8 (.call 68 [(LT 7)]),LO 9 (.bin .eql (LT 8) (LI 0)),LM 10 9,LZ 10 11 (LK 3),LZ 10 12 (.call 68 [(LT 11)]),LZ 10 13 (.bin .eql (LT 12) (LI 0)),LO 14 (.pick (LT 10) LG (LT 13))] (.cond (LT 14) (LS [LO 15 (.call 64 [(LI 0)]),LN (.store 3 (LT 4) (LT 15))] .ret) .skip)) (LS [LO 16 (LA 1 2),LO 17 (LL 16),LO 18 (LA 2 3),LO 19 (LL 18),LQ 20 (.call 144 [LF,(LT 17),(LT 19)]),LO 21 (LA 1 3),LO 22 (LL 21),LO 23 (LA 2 2),LO 24 (LL 23),LQ 25 (.call 144 [LF,(LT 22),(LT 24)]),LQ 5 (.new [(.bool false),(.slice none 0 0),(.slice none 0 0)]),LQ 6 (.new [(.bool false),(.slice none 0 0),(.slice none 0 0)]),LN (.store 3 (LT 5) (LT 20)),LN (.store 3 (LT 6) (LT 25))] (LS [LO 26 (LA 0 2),LO 27 (LL 26),LO 28 (LA 0 3),LO 29 (LL 28),LO 30 (.eqb true (LT 27) (LT 29)),LO 31 (LA 1 5),LO 32 (LL 31),LO 33 (LA 1 6),LO 34 (LL 33),LQ 35 (.call 143 [(LT 32),(LT 34)]),LO 36 (LA 2 5),LO 37 (LL 36),LO 38 (LA 2 6),LO 39 (LL 38),LQ 40 (.call 143 [(LT 37),(LT 39)]),LO 41 (.build [(.bool false),(.slice none 0 0),(.slice none 0 0)] [(0,1),(1,1),(2,1)] [(0,(LT 30)),(1,(LT 35)),(2,(LT 40))]),LN (.store 3 (LT 4) (LT 41))] .ret))))
def wK:aT:=⟨42,[(.cell 4 true 3)],sJ⟩
theorem KN:fP 132=some wK:=by kernel_rfl
def qT:aE:=(LS [LO 1 (.box (LT 0)),LO 2 (.mv (LI 0))] (.seq (.block 0 (LS [LO 4 (LA 1 1),LO 5 (LL 4),LO 6 (.len (LT 5)),LO 7 (.bin .eql (LT 6) (LI 0)),LM 3 7] (.cond (LT 3) (LS [LO 2 (.mv (LI 0))] .ret) (LS [LO 9 (LA 0 1),LO 10 (LL 9),LM 8 10] (.cond (LT 8) (LS [LO 2 (.mv (LI (-1)))] .ret) .skip))))) (LS [LO 2 (.mv (LI 1))] .ret)))
def uK:aT:=⟨11,[(.tmp 2)],qT⟩
theorem Jv:fP 68=some uK:=by kernel_rfl
def oG:aE:=(LS [LO 2 (.mv (.const (.slice none 0 0))),LO 3 (.mv LF)] (LS [LM 7 0,LO 8 (.call 65 [(LT 7)]),LM 6 8,LO 9 (LX 6 0),LO 10 (LX 6 1),LM 4 9,LM 5 10] (.seq (LS [LM 11 5,LO 12 (.un .not (LT 11)),LM 13 12,LZ 13 14 (.mv (LT 4)),LZ 13 15 (.call 66 [(LT 14),(.func 67)]),LO 16 (.pick (LT 13) LG (LT 15)),LM 17 16,LZ 17 18 (.mv (LT 4)),LZ 17 19 (.call 70 [(LT 18)]),LZ 17 20 (.call 161 [(LT 19)]),LZ 17 21 (.un .not (LT 20)),LO 22 (.pick (LT 17) LG (LT 21))] (.cond (LT 22) (LS [LO 2 (.mv (.const (.slice none 0 0))),LO 3 (.mv LF)] .ret) .skip)) (LS [LM 23 4,LM 2 23,LO 3 (.mv LG)] .ret))))
def rW:aT:=⟨24,[(.tmp 2),(.tmp 3)],oG⟩
theorem Ly:fP 98=some rW:=by kernel_rfl
def QY:aE:=(LS [LO 6 (.mv LF)] (LS [LM 7 0,LM 8 1,LO 9 (.bin .geq (LT 7) (LT 8)),LM 10 9,LY 10 11 (.mv (LT 0)),LY 10 12 (.mv (LT 2)),LY 10 13 (.bin .leq (LT 11) (LT 12)),LO 14 (.pick (LT 10) (LT 13) LF),LM 6 14] .ret))
def ZM:aT:=⟨15,[(.tmp 6)],QY⟩
theorem afP:fP 93=some ZM:=by kernel_rfl
def FW:aE:=(LS [LO 1 (.box (LT 0)),LO 2 (.mv (.const (.string ⟨#[]⟩))),LO 3 (.mv LF)] (LS [LO 7 (LK 1),LO 8 (.call 180 [(LT 7)]),LM 6 8,LO 9 (LX 6 0),LO 10 (LX 6 1),LM 4 9,LM 5 10] (.seq (LS [LM 11 5,LO 12 (.un .not (LT 11))] (.cond (LT 12) (LS [LO 2 (.mv (.const (.string ⟨#[]⟩))),LO 3 (.mv LF)] .ret) .skip)) (LS [LM 13 4,LM 2 13,LO 3 (.mv LG)] .ret))))
def Kv:aT:=⟨14,[(.tmp 2),(.tmp 3)],FW⟩
theorem T2:fP 137=some Kv:=by kernel_rfl
def AL:aE:=(LS [LO 16 (.bin .lss (LT 15) (LT 14))] (.seq (.cond (LT 16) .skip (.exit 0)) (.seq (.block 1 (LS [LO 17 (.iaddr 1 (LT 13) (LT 15)),LO 18 (LL 17),LM 6 18] (LS [LM 20 6,LO 21 (.call 115 [(LT 20)]),LM 19 21,LO 22 (LX 19 0),LO 23 (LX 19 1),LO 7 (.new [(.bool false),(.slice none 0 0),(.slice none 0 0)]),LN (.store 3 (LT 7) (LT 22)),LM 8 23] (.seq (LS [LM 24 8,LO 25 (.un .not (LT 24))] (.cond (LT 25) (LS [LO 2 (.mv (.const (.slice none 0 0))),LO 3 (.mv LF)] .ret) .skip)) (.cT [LM 26 4,LO 27 (LK 7),LO 28 (.lit [(.bool false),(.slice none 0 0),(.slice none 0 0)] 1 [(0,(LT 27))]),LO 29 (.app 3 56 (LT 26) (LT 28)),LM 4 29]))))) (.cT [LO 30 (.bin .add (LT 15) (LI 1)),LM 15 30]))))
def FV:aE:=(LS [LO 2 (.mv (.const (.slice none 0 0))),LO 3 (.mv LF)] (.seq (LS [LM 9 0,LO 10 (.len (LT 9)),LO 11 (.bin .gtr (LT 10) (LI 300))] (.cond (LT 11) (LS [LO 2 (.mv (.const (.slice none 0 0))),LO 3 (.mv LF)] .ret) .skip)) (LS [LO 12 (.lit [(.bool false),(.slice none 0 0),(.slice none 0 0)] 0 []),LM 4 12] (.seq (LS [LM 13 0,LO 14 (.len (LT 13)),LO 15 (.mv (LI 0))] (.block 0 (.loop AL))) (LS [LM 31 4,LM 2 31,LO 3 (.mv LG)] .ret)))))
def Lj:aT:=⟨32,[(.tmp 2),(.tmp 3)],FV⟩
theorem WN:fP 65=some Lj:=by kernel_rfl
def BP:aE:=(LS [LO 1 (.box (LT 0)),LO 2 (.mv LF)] (LS [LO 3 (LK 1),LO 4 (.call 68 [(LT 3)]),LO 5 (.bin .lss (LT 4) (LI 0)),LM 2 5] .ret))
def DU:aT:=⟨6,[(.tmp 2)],BP⟩
theorem OA:fP 67=some DU:=by kernel_rfl
def FA:aE:=(LS [LO 10 (.bin .lss (LT 9) (LT 8))] (.seq (.cond (LT 10) .skip (.exit 0)) (.seq (.block 1 (LS [LO 11 (.iaddr 3 (LT 7) (LT 9)),LO 12 (LK 11),LO 5 (.new [(.bool false),(.slice none 0 0),(.slice none 0 0)]),LN (.store 3 (LT 5) (LT 12))] (.cT [LO 13 (LK 3),LO 14 (LK 5),LO 15 (.call 69 [(LT 13),(LT 14)]),LN (.store 3 (LT 3) (LT 15))]))) (.cT [LO 16 (.bin .add (LT 9) (LI 1)),LM 9 16]))))
def Oy:aE:=(LS [LO 2 (.new [(.bool false),(.slice none 0 0),(.slice none 0 0)])] (LS [LO 6 (.call 64 [(LI 0)]),LO 3 (.new [(.bool false),(.slice none 0 0),(.slice none 0 0)]),LN (.store 3 (LT 3) (LT 6))] (.seq (LS [LM 7 0,LO 8 (.len (LT 7)),LO 9 (.mv (LI 0))] (.block 0 (.loop FA))) (LS [LO 17 (LK 3),LN (.store 3 (LT 2) (LT 17))] .ret))))
def Wr:aT:=⟨18,[(.cell 2 true 3)],Oy⟩
theorem Ye:fP 70=some Wr:=by kernel_rfl
def tT:aE:=(LS [LO 6 (.new [(.bool false),(.slice none 0 0),(.slice none 0 0)])] (.seq (LS [LM 8 1,LO 9 (.len (LT 8)),LO 10 (.bin .eql (LT 9) (LI 0))] (.cond (LT 10) (LS [LO 11 (.call 139 [(.const (.int .u64 1))]),LO 12 (.build [(.bool false),(.slice none 0 0),(.slice none 0 0)] [(0,1),(1,1),(2,1)] [(2,(LT 11))]),LN (.store 3 (LT 6) (LT 12))] .ret) .skip)) (LS [LM 13 1,LM 14 2,LO 15 (.call 175 [(LT 13),(LT 14)]),LM 7 15] (.seq (LS [LM 16 7,LO 17 (.len (LT 16)),LO 18 (.bin .eql (LT 17) (LI 1)),LM 19 18,LY 19 20 (.mv (LT 7)),LY 19 21 (.iaddr 1 (LT 20) (LI 0)),LY 19 22 (LL 21),LY 19 23 (.bin .eql (LT 22) (.const (.int .u32 1))),LO 24 (.pick (LT 19) (LT 23) LF)] (.cond (LT 24) (LS [LM 25 0,LM 26 1,LM 27 2,LO 28 (.build [(.bool false),(.slice none 0 0),(.slice none 0 0)] [(0,1),(1,1),(2,1)] [(0,(LT 25)),(1,(LT 26)),(2,(LT 27))]),LN (.store 3 (LT 6) (LT 28))] .ret) .skip)) (LS [LM 30 1,LM 31 7,LO 32 (.call 183 [(LT 30),(LT 31)]),LM 29 32,LO 33 (LX 29 0),LO 34 (LX 29 1),LM 1 33] (LS [LM 36 2,LM 37 7,LO 38 (.call 183 [(LT 36),(LT 37)]),LM 35 38,LO 39 (LX 35 0),LO 40 (LX 35 1),LM 2 39] (LS [LM 41 0,LM 42 1,LM 43 2,LO 44 (.build [(.bool false),(.slice none 0 0),(.slice none 0 0)] [(0,1),(1,1),(2,1)] [(0,(LT 41)),(1,(LT 42)),(2,(LT 43))]),LN (.store 3 (LT 6) (LT 44))] .ret)))))))
def zM:aT:=⟨45,[(.cell 6 true 3)],tT⟩
theorem Qp:fP 144=some zM:=by kernel_rfl
def Jf:aE:=(LS [LO 2 (.mv (.const (.slice none 0 0)))] (LS [LM 3 0,LO 4 (.cvt .u32 (LT 3)),LM 5 0,LO 6 (.bin .shr (LT 5) (.const (.int .u64 32))),LO 7 (.cvt .u32 (LT 6)),LO 8 (.lit [(.int .u32 0)] 2 [(0,(LT 4)),(1,(LT 7))]),LO 9 (.call 182 [(LT 8)]),LM 2 9] .ret))
def Oh:aT:=⟨10,[(.tmp 2)],Jf⟩
theorem Ss:fP 139=some Oh:=by kernel_rfl
def yS:aE:=(LS [LO 2 (.mv (.const (.int .u64 0)))] (.seq (LS [LM 3 0,LO 4 (.bin .lss (LT 3) (LI 0))] (.cond (LT 4) (LS [LM 5 0,LO 6 (.cvt .u64 (LT 5)),LO 7 (.un .neg (LT 6)),LM 2 7] .ret) .skip)) (LS [LM 8 0,LO 9 (.cvt .u64 (LT 8)),LM 2 9] .ret)))
def BM:aT:=⟨10,[(.tmp 2)],yS⟩
theorem Lr:fP 140=some BM:=by kernel_rfl
def vX:aE:=(LS [LO 27 (.bin .lss (LT 26) (LT 25))] (.seq (.cond (LT 27) .skip (.exit 2)) (.seq (.block 3 (LS [LM 28 26,LO 29 (.iaddr 1 (LT 24) (LT 26)),LO 30 (LL 29),LM 9 28,LM 10 30] (LS [LM 31 8,LM 32 7,LO 33 (.cvt .u64 (LT 32)),LM 34 10,LO 35 (.cvt .u64 (LT 34)),LO 36 (.bin .mul (LT 33) (LT 35)),LM 37 5,LM 38 6,LM 39 9,LO 40 (.bin .add (LT 38) (LT 39)),LO 41 (.iaddr 1 (LT 37) (LT 40)),LO 42 (LL 41),LO 43 (.cvt .u64 (LT 42)),LO 44 (.bin .add (LT 36) (LT 43)),LO 45 (.bin .add (LT 31) (LT 44)),LM 8 45] (LS [LM 46 5,LM 47 6,LM 48 9,LO 49 (.bin .add (LT 47) (LT 48)),LM 50 8,LO 51 (.cvt .u32 (LT 50)),LO 52 (.iaddr 1 (LT 46) (LT 49)),LN (.store 1 (LT 52) (LT 51))] (.cT [LM 53 8,LO 54 (.bin .shr (LT 53) (.const (.int .u64 32))),LM 8 54]))))) (.cT [LO 55 (.bin .add (LT 26) (LI 1)),LM 26 55]))))
def vV:aE:=(LS [LO 20 (.bin .lss (LT 19) (LT 18))] (.seq (.cond (LT 20) .skip (.exit 0)) (.seq (.block 1 (LS [LM 21 19,LO 22 (.iaddr 1 (LT 17) (LT 19)),LO 23 (LL 22),LM 6 21,LM 7 23] (LS [LO 8 (.mv (.const (.int .u64 0)))] (.seq (LS [LM 24 1,LO 25 (.len (LT 24)),LO 26 (.mv (LI 0))] (.block 2 (.loop vX))) (.cT [LM 56 5,LM 57 6,LM 58 1,LO 59 (.len (LT 58)),LO 60 (.bin .add (LT 57) (LT 59)),LM 61 8,LO 62 (.cvt .u32 (LT 61)),LO 63 (.iaddr 1 (LT 56) (LT 60)),LN (.store 1 (LT 63) (LT 62))]))))) (.cT [LO 64 (.bin .add (LT 19) (LI 1)),LM 19 64]))))
def Dm:aE:=(LS [LO 4 (.mv (.const (.slice none 0 0)))] (LS [LM 11 0,LO 12 (.len (LT 11)),LM 13 1,LO 14 (.len (LT 13)),LO 15 (.bin .add (LT 12) (LT 14)),LO 16 (.make [(.int .u32 0)] 4 (LT 15) (LT 15)),LM 5 16] (.seq (LS [LM 17 0,LO 18 (.len (LT 17)),LO 19 (.mv (LI 0))] (.block 0 (.loop vV))) (LS [LM 65 5,LO 66 (.call 182 [(LT 65)]),LM 4 66] .ret))))
def Gq:aT:=⟨67,[(.tmp 4)],Dm⟩
theorem KV:fP 143=some Gq:=by kernel_rfl
def nC:aE:=(.seq (LS [LM 19 5,LO 20 (.bin .geq (LT 19) (LI 0))] (.cond (LT 20) .skip (.exit 0))) (.seq (.block 1 (LS [LM 23 0,LM 24 5,LO 25 (.iaddr 1 (LT 23) (LT 24)),LO 26 (LL 25),LM 27 1,LM 28 5,LO 29 (.iaddr 1 (LT 27) (LT 28)),LO 30 (LL 29),LO 31 (.bin .neq (LT 26) (LT 30))] (.cond (LT 31) (.seq (LS [LM 32 0,LM 33 5,LO 34 (.iaddr 1 (LT 32) (LT 33)),LO 35 (LL 34),LM 36 1,LM 37 5,LO 38 (.iaddr 1 (LT 36) (LT 37)),LO 39 (LL 38),LO 40 (.bin .lss (LT 35) (LT 39))] (.cond (LT 40) (LS [LO 4 (.mv (LI (-1)))] .ret) .skip)) (LS [LO 4 (.mv (LI 1))] .ret)) .skip))) (.cT [LM 21 5,LO 22 (.bin .sub (LT 21) (LI 1)),LM 5 22])))
def sS:aE:=(LS [LO 4 (.mv (LI 0))] (.seq (LS [LM 6 0,LO 7 (.len (LT 6)),LM 8 1,LO 9 (.len (LT 8)),LO 10 (.bin .neq (LT 7) (LT 9))] (.cond (LT 10) (.seq (LS [LM 11 0,LO 12 (.len (LT 11)),LM 13 1,LO 14 (.len (LT 13)),LO 15 (.bin .lss (LT 12) (LT 14))] (.cond (LT 15) (LS [LO 4 (.mv (LI (-1)))] .ret) .skip)) (LS [LO 4 (.mv (LI 1))] .ret)) .skip)) (.seq (LS [LM 16 0,LO 17 (.len (LT 16)),LO 18 (.bin .sub (LT 17) (LI 1)),LM 5 18] (.block 0 (.loop nC))) (LS [LO 4 (.mv (LI 0))] .ret))))
def xD:aT:=⟨41,[(.tmp 4)],sS⟩
theorem Ku:fP 142=some xD:=by kernel_rfl
def pI:aE:=(LS [LO 1 (.box (LT 0)),LO 2 (.new [(.bool false),(.slice none 0 0),(.slice none 0 0)])] (LS [LO 3 (LA 0 1),LO 4 (LL 3),LO 5 (.un .not (LT 4)),LM 6 5,LY 6 7 (LA 1 1),LY 6 8 (LL 7),LY 6 9 (.len (LT 8)),LY 6 10 (.bin .gtr (LT 9) (LI 0)),LO 11 (.pick (LT 6) (LT 10) LF),LO 12 (LA 1 1),LO 13 (LL 12),LO 14 (LA 2 1),LO 15 (LL 14),LO 16 (.build [(.bool false),(.slice none 0 0),(.slice none 0 0)] [(0,1),(1,1),(2,1)] [(0,(LT 11)),(1,(LT 13)),(2,(LT 15))]),LN (.store 3 (LT 2) (LT 16))] .ret))
def sU:aT:=⟨17,[(.cell 2 true 3)],pI⟩
theorem Ij:fP 177=some sU:=by kernel_rfl
def mW:aE:=(LS [LO 22 (.bin .lss (LT 21) (LT 20))] (.seq (.cond (LT 22) .skip (.exit 0)) (.seq (.block 1 (LS [LM 23 21,LM 7 23] (LS [LM 24 6,LM 25 0,LM 26 7,LO 27 (.iaddr 1 (LT 25) (LT 26)),LO 28 (LL 27),LO 29 (.cvt .u64 (LT 28)),LO 30 (.bin .add (LT 24) (LT 29)),LM 6 30] (.seq (LS [LM 31 7,LM 32 1,LO 33 (.len (LT 32)),LO 34 (.bin .lss (LT 31) (LT 33))] (.cond (LT 34) (.cT [LM 35 6,LM 36 1,LM 37 7,LO 38 (.iaddr 1 (LT 36) (LT 37)),LO 39 (LL 38),LO 40 (.cvt .u64 (LT 39)),LO 41 (.bin .add (LT 35) (LT 40)),LM 6 41]) .skip)) (LS [LM 42 5,LM 43 7,LM 44 6,LO 45 (.cvt .u32 (LT 44)),LO 46 (.iaddr 1 (LT 42) (LT 43)),LN (.store 1 (LT 46) (LT 45))] (.cT [LM 47 6,LO 48 (.bin .shr (LT 47) (.const (.int .u64 32))),LM 6 48])))))) (.cT [LO 49 (.bin .add (LT 21) (LI 1)),LM 21 49]))))
def yI:aE:=(LS [LO 4 (.mv (.const (.slice none 0 0)))] (.seq (LS [LM 8 0,LO 9 (.len (LT 8)),LM 10 1,LO 11 (.len (LT 10)),LO 12 (.bin .lss (LT 9) (LT 11))] (.cond (LT 12) (.cT [LM 13 1,LM 14 0,LM 0 13,LM 1 14]) .skip)) (LS [LM 15 0,LO 16 (.len (LT 15)),LO 17 (.bin .add (LT 16) (LI 1)),LO 18 (.make [(.int .u32 0)] 4 (LT 17) (LT 17)),LM 5 18,LO 6 (.mv (.const (.int .u64 0)))] (.seq (LS [LM 19 0,LO 20 (.len (LT 19)),LO 21 (.mv (LI 0))] (.block 0 (.loop mW))) (LS [LM 50 5,LM 51 0,LO 52 (.len (LT 51)),LM 53 6,LO 54 (.cvt .u32 (LT 53)),LO 55 (.iaddr 1 (LT 50) (LT 52)),LN (.store 1 (LT 55) (LT 54))] (LS [LM 56 5,LO 57 (.call 182 [(LT 56)]),LM 4 57] .ret))))))
def Bm:aT:=⟨58,[(.tmp 4)],yI⟩
theorem KA:fP 145=some Bm:=by kernel_rfl
def kG:aE:=(LS [LO 15 (.bin .lss (LT 14) (LT 13))] (.seq (.cond (LT 15) .skip (.exit 0)) (.seq (.block 1 (LS [LM 16 14,LM 7 16] (LS [LM 17 0,LM 18 7,LO 19 (.iaddr 1 (LT 17) (LT 18)),LO 20 (LL 19),LO 21 (.cvt .i64 (LT 20)),LM 22 6,LO 23 (.bin .sub (LT 21) (LT 22)),LM 8 23] (.seq (LS [LM 24 7,LM 25 1,LO 26 (.len (LT 25)),LO 27 (.bin .lss (LT 24) (LT 26))] (.cond (LT 27) (.cT [LM 28 8,LM 29 1,LM 30 7,LO 31 (.iaddr 1 (LT 29) (LT 30)),LO 32 (LL 31),LO 33 (.cvt .i64 (LT 32)),LO 34 (.bin .sub (LT 28) (LT 33)),LM 8 34]) .skip)) (LS [LO 6 (.mv (LI 0))] (.seq (LS [LM 35 8,LO 36 (.bin .lss (LT 35) (LI 0))] (.cond (LT 36) (.cT [LO 6 (.mv (LI 1))]) .skip)) (.cT [LM 37 5,LM 38 7,LM 39 8,LO 40 (.cvt .u32 (LT 39)),LO 41 (.iaddr 1 (LT 37) (LT 38)),LN (.store 1 (LT 41) (LT 40))]))))))) (.cT [LO 42 (.bin .add (LT 14) (LI 1)),LM 14 42]))))
def C8:aE:=(LS [LO 4 (.mv (.const (.slice none 0 0)))] (LS [LM 9 0,LO 10 (.len (LT 9)),LO 11 (.make [(.int .u32 0)] 4 (LT 10) (LT 10)),LM 5 11,LO 6 (.mv (LI 0))] (.seq (LS [LM 12 0,LO 13 (.len (LT 12)),LO 14 (.mv (LI 0))] (.block 0 (.loop kG))) (LS [LM 43 5,LO 44 (.call 182 [(LT 43)]),LM 4 44] .ret))))
def Ge:aT:=⟨45,[(.tmp 4)],C8⟩
theorem Le:fP 146=some Ge:=by kernel_rfl
def vZ:aE:=(LS [LO 1 (.box (LT 0)),LO 2 (.mv (.const (.string ⟨#[]⟩))),LO 3 (.mv LF)] (LS [LO 7 (LA 1 1),LO 8 (LL 7),LQ 9 (.call 196 [(LT 8)]),LO 10 (LA 2 1),LO 11 (LL 10),LQ 12 (.call 196 [(LT 11)]),LM 4 9,LM 5 12] (LS [LM 13 4,LM 6 13] (.seq (LS [LO 14 (LA 0 1),LO 15 (LL 14)] (.cond (LT 15) (.cT [LM 16 6,LO 17 (.bin .add (.const (.string ⟨#[45]⟩)) (LT 16)),LM 6 17]) .skip)) (.seq (LS [LM 18 5,LO 19 (.bin .neq (LT 18) (.const (.string ⟨#[49]⟩)))] (.cond (LT 19) (.cT [LM 20 6,LM 21 5,LO 22 (.bin .add (.const (.string ⟨#[47]⟩)) (LT 21)),LO 23 (.bin .add (LT 20) (LT 22)),LM 6 23]) .skip)) (LS [LM 24 6,LM 25 4,LO 26 (.slen (LT 25)),LO 27 (.bin .leq (LT 26) (LI 200)),LM 28 27,LY 28 29 (.mv (LT 5)),LY 28 30 (.slen (LT 29)),LY 28 31 (.bin .leq (LT 30) (LI 200)),LO 32 (.pick (LT 28) (LT 31) LF),LM 2 24,LM 3 32] .ret))))))
def Al:aT:=⟨33,[(.tmp 2),(.tmp 3)],vZ⟩
theorem IY:fP 180=some Al:=by kernel_rfl
def uR:aE:=(LS [LO 1 (.box (LT 0)),LO 2 (.mv LF)] (LS [LO 3 (LK 1),LQ 4 (.call 64 [(LI 1)]),LQ 5 (.call 148 [(LT 3),(LT 4)]),LO 6 (.bin .eql (LT 5) (LI 0)),LM 2 6] .ret))
def xU:aT:=⟨7,[(.tmp 2)],uR⟩
theorem Ib:fP 161=some xU:=by kernel_rfl
def dJ:aE:=(LS [LO 2 (.new [(.bool false),(.slice none 0 0),(.slice none 0 0)]),LO 3 (.mv LF)] (LS [LM 16 0,LO 17 (.call 172 [(LT 16),(.const (.string ⟨#[47]⟩))]),LM 15 17,LO 18 (LX 15 0),LO 19 (LX 15 1),LO 20 (LX 15 2),LM 4 18,LM 5 19,LM 6 20] (LS [LM 22 4,LO 23 (.call 173 [(LT 22),(.const (.string ⟨#[45]⟩))]),LM 21 23,LO 24 (LX 21 0),LO 25 (LX 21 1),LM 7 24,LM 8 25] (LS [LM 27 7,LO 28 (.call 174 [(LT 27)]),LM 26 28,LO 29 (LX 26 0),LO 30 (LX 26 1),LM 9 29,LM 10 30] (.seq (LS [LM 31 10,LO 32 (.un .not (LT 31)),LM 33 32,LZ 33 34 (.mv (LT 8)),LZ 33 35 (.mv (LT 34)),LY 35 36 (.mv (LT 9)),LY 35 37 (.len (LT 36)),LY 35 38 (.bin .eql (LT 37) (LI 0)),LZ 33 39 (.pick (LT 35) (LT 38) LF),LO 40 (.pick (LT 33) LG (LT 39))] (.cond (LT 40) (LS [LO 41 (.build [(.bool false),(.slice none 0 0),(.slice none 0 0)] [(0,1),(1,1),(2,1)] []),LN (.store 3 (LT 2) (LT 41)),LO 3 (.mv LF)] .ret) .skip)) (LS [LM 42 8,LM 43 9,LO 44 (.call 139 [(.const (.int .u64 1))]),LO 45 (.build [(.bool false),(.slice none 0 0),(.slice none 0 0)] [(0,1),(1,1),(2,1)] [(0,(LT 42)),(1,(LT 43)),(2,(LT 44))]),LO 11 (.new [(.bool false),(.slice none 0 0),(.slice none 0 0)]),LN (.store 3 (LT 11) (LT 45))] (.seq (LS [LM 46 6,LO 47 (.un .not (LT 46))] (.cond (LT 47) (LS [LO 48 (LK 11),LN (.store 3 (LT 2) (LT 48)),LO 3 (.mv LG)] .ret) .skip)) (LS [LM 50 5,LO 51 (.call 174 [(LT 50)]),LM 49 51,LO 52 (LX 49 0),LO 53 (LX 49 1),LM 12 52,LM 13 53] (.seq (LS [LM 54 13,LO 55 (.un .not (LT 54)),LM 56 55,LZ 56 57 (.mv (LT 12)),LZ 56 58 (.call 139 [(.const (.int .u64 1))]),LZ 56 59 (.call 142 [(LT 57),(LT 58)]),LZ 56 60 (.bin .leq (LT 59) (LI 0)),LO 61 (.pick (LT 56) LG (LT 60))] (.cond (LT 61) (LS [LO 62 (.build [(.bool false),(.slice none 0 0),(.slice none 0 0)] [(0,1),(1,1),(2,1)] []),LN (.store 3 (LT 2) (LT 62)),LO 3 (.mv LF)] .ret) .skip)) (.seq (LS [LM 63 9,LM 64 12,LO 65 (.call 175 [(LT 63),(LT 64)]),LM 14 65] (LS [LM 66 14,LO 67 (.call 139 [(.const (.int .u64 1))]),LO 68 (.call 142 [(LT 66),(LT 67)]),LO 69 (.bin .neq (LT 68) (LI 0))] (.cond (LT 69) (LS [LO 70 (.build [(.bool false),(.slice none 0 0),(.slice none 0 0)] [(0,1),(1,1),(2,1)] []),LN (.store 3 (LT 2) (LT 70)),LO 3 (.mv LF)] .ret) .skip))) (LS [LM 71 8,LM 72 9,LM 73 12,LO 74 (.build [(.bool false),(.slice none 0 0),(.slice none 0 0)] [(0,1),(1,1),(2,1)] [(0,(LT 71)),(1,(LT 72)),(2,(LT 73))]),LN (.store 3 (LT 2) (LT 74)),LO 3 (.mv LG)] .ret)))))))))))
def fH:aT:=⟨75,[(.cell 2 true 3),(.tmp 3)],dJ⟩
theorem PV:fP 115=some fH:=by kernel_rfl
def wA:aE:=(.seq (LS [LM 28 7,LO 29 (.bin .gtr (LT 28) (.const (.int .u64 0)))] (.cond (LT 29) .skip (.exit 2))) (.block 3 (.cT [LM 30 7,LM 31 5,LM 32 7,LO 33 (.bin .rem (LT 31) (LT 32)),LM 5 30,LM 7 33])))
def kC:aE:=(.seq (LS [LM 11 1,LO 12 (.len (LT 11)),LO 13 (.bin .gtr (LT 12) (LI 0))] (.cond (LT 13) .skip (.exit 0))) (.block 1 (LS [LM 15 0,LO 16 (.call 193 [(LT 15)]),LM 14 16,LO 17 (LX 14 0),LO 18 (LX 14 1),LM 5 17,LM 6 18] (LS [LM 20 1,LO 21 (.call 193 [(LT 20)]),LM 19 21,LO 22 (LX 19 0),LO 23 (LX 19 1),LM 7 22,LM 8 23] (.seq (LS [LM 24 6,LM 25 24,LY 25 26 (.mv (LT 8)),LO 27 (.pick (LT 25) (LT 26) LF)] (.cond (LT 27) (.seq (.block 2 (.loop wA)) (LS [LM 34 5,LO 35 (.call 139 [(LT 34)]),LM 4 35] .ret)) .skip)) (LS [LM 37 0,LM 38 1,LO 39 (.call 183 [(LT 37),(LT 38)]),LM 36 39,LO 40 (LX 36 0),LO 41 (LX 36 1),LM 9 40,LM 10 41] (.cT [LM 42 1,LM 43 10,LM 0 42,LM 1 43])))))))
def C2:aE:=(LS [LO 4 (.mv (.const (.slice none 0 0)))] (.seq (.block 0 (.loop kC)) (LS [LM 44 0,LM 4 44] .ret)))
def FM:aT:=⟨45,[(.tmp 4)],C2⟩
theorem K8:fP 175=some FM:=by kernel_rfl
def iD:aE:=(.seq (LS [LM 105 17,LO 106 (.bin .geq (LT 105) (.const (.int .u64 4294967296))),LM 107 106,LZ 107 108 (.mv (LT 17)),LZ 107 109 (.mv (LT 12)),LZ 107 110 (.bin .mul (LT 108) (LT 109)),LZ 107 111 (.mv (LT 18)),LZ 107 112 (.bin .shl (LT 111) (.const (.int .u64 32))),LZ 107 113 (.mv (LT 9)),LZ 107 114 (.mv (LT 15)),LZ 107 115 (.bin .sub (LT 114) (LI 2)),LZ 107 116 (.iaddr 1 (LT 113) (LT 115)),LZ 107 117 (LL 116),LZ 107 118 (.cvt .u64 (LT 117)),LZ 107 119 (.bin .add (LT 112) (LT 118)),LZ 107 120 (.bin .gtr (LT 110) (LT 119)),LO 121 (.pick (LT 107) LG (LT 120))] (.cond (LT 121) .skip (.exit 2))) (.block 3 (LS [LM 122 17,LO 123 (.bin .sub (LT 122) (.const (.int .u64 1))),LM 17 123] (LS [LM 124 18,LM 125 11,LO 126 (.bin .add (LT 124) (LT 125)),LM 18 126] (LS [LM 127 18,LO 128 (.bin .geq (LT 127) (.const (.int .u64 4294967296)))] (.cond (LT 128) (.exit 2) .skip))))))
def qU:aE:=(.seq (LS [LM 78 14,LO 79 (.bin .geq (LT 78) (LI 0))] (.cond (LT 79) .skip (.exit 0))) (.seq (.block 1 (LS [LM 82 14,LM 83 10,LO 84 (.len (LT 83)),LO 85 (.bin .add (LT 82) (LT 84)),LM 15 85] (LS [LM 86 9,LM 87 15,LO 88 (.iaddr 1 (LT 86) (LT 87)),LO 89 (LL 88),LO 90 (.cvt .u64 (LT 89)),LO 91 (.bin .shl (LT 90) (.const (.int .u64 32))),LM 92 9,LM 93 15,LO 94 (.bin .sub (LT 93) (LI 1)),LO 95 (.iaddr 1 (LT 92) (LT 94)),LO 96 (LL 95),LO 97 (.cvt .u64 (LT 96)),LO 98 (.bin .add (LT 91) (LT 97)),LM 16 98] (LS [LM 99 16,LM 100 11,LO 101 (.bin .quo (LT 99) (LT 100)),LM 102 16,LM 103 11,LO 104 (.bin .rem (LT 102) (LT 103)),LM 17 101,LM 18 104] (.seq (.block 2 (.loop iD)) (.seq (LS [LM 129 9,LM 130 14,LM 131 15,LO 132 (.bin .add (LT 131) (LI 1)),LO 133 (.sub 1 (LT 129) (some (LT 130)) (some (LT 132)) none),LM 134 10,LM 135 17,LO 136 (.call 200 [(LT 133),(LT 134),(LT 135)])] (.cond (LT 136) (.cT [LM 137 17,LO 138 (.bin .sub (LT 137) (.const (.int .u64 1))),LM 17 138]) .skip)) (.cT [LM 139 13,LM 140 14,LM 141 17,LO 142 (.cvt .u32 (LT 141)),LO 143 (.iaddr 1 (LT 139) (LT 140)),LN (.store 1 (LT 143) (LT 142))]))))))) (.cT [LM 80 14,LO 81 (.bin .sub (LT 80) (LI 1)),LM 14 81])))
def nA:aE:=(LS [LO 149 (.bin .lss (LT 148) (LT 147))] (.seq (.cond (LT 149) .skip (.exit 4)) (.seq (.block 5 (LS [LM 150 148,LM 19 150] (LS [LO 20 (.mv (.const (.int .u64 0)))] (.seq (LS [LM 151 19,LO 152 (.bin .add (LT 151) (LI 1)),LM 153 9,LO 154 (.len (LT 153)),LO 155 (.bin .lss (LT 152) (LT 154))] (.cond (LT 155) (.cT [LM 156 9,LM 157 19,LO 158 (.bin .add (LT 157) (LI 1)),LO 159 (.iaddr 1 (LT 156) (LT 158)),LO 160 (LL 159),LO 161 (.cvt .u64 (LT 160)),LM 20 161]) .skip)) (.cT [LM 162 9,LM 163 19,LM 164 20,LO 165 (.bin .shl (LT 164) (.const (.int .u64 32))),LM 166 9,LM 167 19,LO 168 (.iaddr 1 (LT 166) (LT 167)),LO 169 (LL 168),LO 170 (.cvt .u64 (LT 169)),LO 171 (.bin .add (LT 165) (LT 170)),LM 172 8,LO 173 (.bin .shr (LT 171) (LT 172)),LO 174 (.cvt .u32 (LT 173)),LO 175 (.iaddr 1 (LT 162) (LT 163)),LN (.store 1 (LT 175) (LT 174))]))))) (.cT [LO 176 (.bin .add (LT 148) (LI 1)),LM 148 176]))))
def sW:aE:=(LS [LO 4 (.mv (.const (.slice none 0 0))),LO 5 (.mv (.const (.slice none 0 0)))] (.seq (LS [LM 21 0,LM 22 1,LO 23 (.call 142 [(LT 21),(LT 22)]),LO 24 (.bin .lss (LT 23) (LI 0))] (.cond (LT 24) (LS [LM 25 0,LO 4 (.mv (.const (.slice none 0 0))),LM 5 25] .ret) .skip)) (.seq (LS [LM 26 1,LO 27 (.len (LT 26)),LO 28 (.bin .eql (LT 27) (LI 1))] (.cond (LT 28) (LS [LM 30 0,LM 31 1,LO 32 (.iaddr 1 (LT 31) (LI 0)),LO 33 (LL 32),LO 34 (.call 197 [(LT 30),(LT 33)]),LM 29 34,LO 35 (LX 29 0),LO 36 (LX 29 1),LM 6 35,LM 7 36] (LS [LM 37 6,LM 38 7,LO 39 (.lit [(.int .u32 0)] 1 [(0,(LT 38))]),LO 40 (.call 182 [(LT 39)]),LM 4 37,LM 5 40] .ret)) .skip)) (LS [LM 41 1,LM 42 1,LO 43 (.len (LT 42)),LO 44 (.bin .sub (LT 43) (LI 1)),LO 45 (.iaddr 1 (LT 41) (LT 44)),LO 46 (LL 45),LO 47 (.call 198 [(LT 46)]),LM 8 47] (LS [LM 48 0,LM 49 8,LO 50 (.call 199 [(LT 48),(LT 49)]),LM 51 1,LM 52 8,LO 53 (.call 199 [(LT 51),(LT 52)]),LO 54 (.call 182 [(LT 53)]),LM 9 50,LM 10 54] (LS [LM 55 10,LM 56 10,LO 57 (.len (LT 56)),LO 58 (.bin .sub (LT 57) (LI 1)),LO 59 (.iaddr 1 (LT 55) (LT 58)),LO 60 (LL 59),LO 61 (.cvt .u64 (LT 60)),LM 11 61] (LS [LM 62 10,LM 63 10,LO 64 (.len (LT 63)),LO 65 (.bin .sub (LT 64) (LI 2)),LO 66 (.iaddr 1 (LT 62) (LT 65)),LO 67 (LL 66),LO 68 (.cvt .u64 (LT 67)),LM 12 68] (LS [LM 69 9,LO 70 (.len (LT 69)),LM 71 10,LO 72 (.len (LT 71)),LO 73 (.bin .sub (LT 70) (LT 72)),LO 74 (.make [(.int .u32 0)] 4 (LT 73) (LT 73)),LM 13 74] (.seq (LS [LM 75 13,LO 76 (.len (LT 75)),LO 77 (.bin .sub (LT 76) (LI 1)),LM 14 77] (.block 0 (.loop qU))) (LS [LM 144 9,LO 145 (.call 182 [(LT 144)]),LM 9 145] (.seq (LS [LM 146 9,LO 147 (.len (LT 146)),LO 148 (.mv (LI 0))] (.block 4 (.loop nA))) (LS [LM 177 13,LO 178 (.call 182 [(LT 177)]),LM 179 9,LO 180 (.call 182 [(LT 179)]),LM 4 178,LM 5 180] .ret))))))))))))
def wX:aT:=⟨181,[(.tmp 4),(.tmp 5)],sW⟩
theorem Li:fP 183=some wX:=by kernel_rfl
def gM:aE:=(.seq (LS [LM 3 0,LO 4 (.len (LT 3)),LO 5 (.bin .gtr (LT 4) (LI 0)),LM 6 5,LY 6 7 (.mv (LT 0)),LY 6 8 (.mv (LT 0)),LY 6 9 (.len (LT 8)),LY 6 10 (.bin .sub (LT 9) (LI 1)),LY 6 11 (.iaddr 1 (LT 7) (LT 10)),LY 6 12 (LL 11),LY 6 13 (.bin .eql (LT 12) (.const (.int .u32 0))),LO 14 (.pick (LT 6) (LT 13) LF)] (.cond (LT 14) .skip (.exit 0))) (.block 1 (.cT [LM 15 0,LM 16 0,LO 17 (.len (LT 16)),LO 18 (.bin .sub (LT 17) (LI 1)),LO 19 (.sub 1 (LT 15) none (some (LT 18)) none),LM 0 19])))
def vM:aE:=(LS [LO 2 (.mv (.const (.slice none 0 0)))] (.seq (.block 0 (.loop gM)) (LS [LM 20 0,LM 2 20] .ret)))
def Af:aT:=⟨21,[(.tmp 2)],vM⟩
theorem Ch:fP 182=some Af:=by kernel_rfl
def pM:aE:=(.seq (LS [LM 11 0,LO 12 (.len (LT 11)),LO 13 (.bin .gtr (LT 12) (LI 0))] (.cond (LT 13) .skip (.exit 0))) (.block 1 (LS [LM 15 0,LO 16 (.call 197 [(LT 15),(.const (.int .u32 1000000000))]),LM 14 16,LO 17 (LX 14 0),LO 18 (LX 14 1),LM 4 17,LM 5 18] (LS [LM 19 5,LO 20 (.cvt .u64 (LT 19)),LO 21 (.call 214 [(LT 20),(LI 10)]),LM 6 21] (.seq (LS [LM 22 4,LO 23 (.len (LT 22)),LO 24 (.bin .gtr (LT 23) (LI 0))] (.cond (LT 24) (.cT [LM 25 6,LO 26 (.slen (LT 25)),LO 27 (.bin .sub (LI 9) (LT 26)),LO 28 (.call 215 [(.const (.string ⟨#[48]⟩)),(LT 27)]),LM 29 6,LO 30 (.bin .add (LT 28) (LT 29)),LM 6 30]) .skip)) (.cT [LM 31 3,LM 32 6,LO 33 (.lit [(.string ⟨#[]⟩)] 1 [(0,(LT 32))]),LO 34 (.app 1 16 (LT 31) (LT 33)),LM 35 4,LM 3 34,LM 0 35]))))))
def vK:aE:=(LS [LO 2 (.mv (.const (.string ⟨#[]⟩)))] (.seq (LS [LM 7 0,LO 8 (.len (LT 7)),LO 9 (.bin .eql (LT 8) (LI 0))] (.cond (LT 9) (LS [LO 2 (.mv (.const (.string ⟨#[48]⟩)))] .ret) .skip)) (LS [LO 10 (.lit [(.string ⟨#[]⟩)] 0 []),LM 3 10] (.seq (.block 0 (.loop pM)) (LS [LM 36 3,LO 37 (.call 216 [(LT 36)])] (LS [LM 38 3,LO 39 (.call 217 [(LT 38),(.const (.string ⟨#[]⟩))]),LM 2 39] .ret))))))
def Ap:aT:=⟨40,[(.tmp 2)],vK⟩
theorem Ka:fP 196=some Ap:=by kernel_rfl
def mQ:aE:=(LS [LO 31 (.bin .lss (LT 30) (LT 29))] (.seq (.cond (LT 31) .skip (.exit 0)) (.seq (.block 1 (LS [LM 32 30,LM 5 32] (LS [LM 33 0,LM 34 5,LO 35 (.sidx (LT 33) (LT 34)),LO 36 (.bin .lss (LT 35) (.const (.int .u8 48))),LM 37 36,LZ 37 38 (.mv (LT 0)),LZ 37 39 (.mv (LT 5)),LZ 37 40 (.sidx (LT 38) (LT 39)),LZ 37 41 (.bin .gtr (LT 40) (.const (.int .u8 57))),LO 42 (.pick (LT 37) LG (LT 41))] (.cond (LT 42) (LS [LO 2 (.mv (.const (.slice none 0 0))),LO 3 (.mv LF)] .ret) .skip)))) (.cT [LO 43 (.bin .add (LT 30) (LI 1)),LM 30 43]))))
def uF:aE:=(LS [LO 60 (.bin .lss (LT 59) (LT 58))] (.seq (.cond (LT 60) .skip (.exit 4)) (.seq (.block 5 (.cT [LM 61 9,LO 62 (.bin .mul (LT 61) (.const (.int .u64 10))),LM 9 62])) (.cT [LO 63 (.bin .add (LT 59) (LI 1)),LM 59 63]))))
def pU:aE:=(.seq (LS [LM 44 0,LO 45 (.bin .neq (LT 44) (.const (.string ⟨#[]⟩)))] (.cond (LT 45) .skip (.exit 2))) (.block 3 (LS [LM 46 0,LO 47 (.slen (LT 46)),LO 48 (.bin .rem (LT 47) (LI 9)),LM 6 48] (.seq (LS [LM 49 6,LO 50 (.bin .eql (LT 49) (LI 0))] (.cond (LT 50) (.cT [LO 6 (.mv (LI 9))]) .skip)) (LS [LM 52 0,LM 53 6,LO 54 (.ssub (LT 52) none (some (LT 53))),LO 55 (.call 192 [(LT 54),(LI 10),(LI 64)]),LM 51 55,LO 56 (LX 51 0),LO 57 (LX 51 1),LM 7 56,LM 8 57] (LS [LO 9 (.mv (.const (.int .u64 1)))] (.seq (LS [LM 58 6,LO 59 (.mv (LI 0))] (.block 4 (.loop uF))) (.cT [LM 64 4,LM 65 9,LQ 66 (.call 139 [(LT 65)]),LQ 67 (.call 143 [(LT 64),(LT 66)]),LM 68 7,LQ 69 (.call 139 [(LT 68)]),LQ 70 (.call 145 [(LT 67),(LT 69)]),LM 71 0,LM 72 6,LO 73 (.ssub (LT 71) (some (LT 72)) none),LM 4 70,LM 0 73]))))))))
def oF:aE:=(LS [LO 2 (.mv (.const (.slice none 0 0))),LO 3 (.mv LF)] (.seq (LS [LM 10 0,LO 11 (.bin .eql (LT 10) (.const (.string ⟨#[]⟩))),LM 12 11,LZ 12 13 (.mv (LT 0)),LZ 12 14 (.slen (LT 13)),LZ 12 15 (.bin .gtr (LT 14) (LI 200)),LO 16 (.pick (LT 12) LG (LT 15)),LM 17 16,LZ 17 18 (.mv (LT 0)),LZ 17 19 (.sidx (LT 18) (LI 0)),LZ 17 20 (.bin .eql (LT 19) (.const (.int .u8 48))),LZ 17 21 (.mv (LT 20)),LY 21 22 (.mv (LT 0)),LY 21 23 (.slen (LT 22)),LY 21 24 (.bin .gtr (LT 23) (LI 1)),LZ 17 25 (.pick (LT 21) (LT 24) LF),LO 26 (.pick (LT 17) LG (LT 25))] (.cond (LT 26) (LS [LO 2 (.mv (.const (.slice none 0 0))),LO 3 (.mv LF)] .ret) .skip)) (LS [LO 27 (.lit [(.int .u32 0)] 0 []),LM 4 27] (.seq (LS [LM 28 0,LO 29 (.slen (LT 28)),LO 30 (.mv (LI 0))] (.block 0 (.loop mQ))) (.seq (.block 2 (.loop pU)) (LS [LM 74 4,LM 2 74,LO 3 (.mv LG)] .ret))))))
def sN:aT:=⟨75,[(.tmp 2),(.tmp 3)],oF⟩
theorem OP:fP 174=some sN:=by kernel_rfl
def nT:aE:=(.seq (LS [LM 9 5,LO 10 (.bin .geq (LT 9) (LI 0)),LM 11 10,LY 11 12 (.mv (LT 0)),LY 11 13 (.len (LT 12)),LY 11 14 (.bin .leq (LT 13) (LI 2)),LO 15 (.pick (LT 11) (LT 14) LF)] (.cond (LT 15) .skip (.exit 0))) (.seq (.block 1 (.cT [LM 18 4,LO 19 (.bin .shl (LT 18) (.const (.int .u64 32))),LM 20 0,LM 21 5,LO 22 (.iaddr 1 (LT 20) (LT 21)),LO 23 (LL 22),LO 24 (.cvt .u64 (LT 23)),LO 25 (.bin .add (LT 19) (LT 24)),LM 4 25])) (.cT [LM 16 5,LO 17 (.bin .sub (LT 16) (LI 1)),LM 5 17])))
def Ba:aE:=(LS [LO 2 (.mv (.const (.int .u64 0))),LO 3 (.mv LF)] (LS [LO 4 (.mv (.const (.int .u64 0)))] (.seq (LS [LM 6 0,LO 7 (.len (LT 6)),LO 8 (.bin .sub (LT 7) (LI 1)),LM 5 8] (.block 0 (.loop nT))) (LS [LM 26 4,LM 27 0,LO 28 (.len (LT 27)),LO 29 (.bin .leq (LT 28) (LI 2)),LM 2 26,LM 3 29] .ret))))
def DC:aT:=⟨30,[(.tmp 2),(.tmp 3)],Ba⟩
theorem H9:fP 193=some DC:=by kernel_rfl
def oU:aE:=(.seq (LS [LM 15 8,LO 16 (.bin .geq (LT 15) (LI 0))] (.cond (LT 16) .skip (.exit 0))) (.seq (.block 1 (LS [LM 19 7,LO 20 (.bin .shl (LT 19) (.const (.int .u64 32))),LM 21 0,LM 22 8,LO 23 (.iaddr 1 (LT 21) (LT 22)),LO 24 (LL 23),LO 25 (.cvt .u64 (LT 24)),LO 26 (.bin .add (LT 20) (LT 25)),LM 7 26] (LS [LM 27 6,LM 28 8,LM 29 7,LM 30 1,LO 31 (.cvt .u64 (LT 30)),LO 32 (.bin .quo (LT 29) (LT 31)),LO 33 (.cvt .u32 (LT 32)),LO 34 (.iaddr 1 (LT 27) (LT 28)),LN (.store 1 (LT 34) (LT 33))] (.cT [LM 35 7,LM 36 1,LO 37 (.cvt .u64 (LT 36)),LO 38 (.bin .rem (LT 35) (LT 37)),LM 7 38])))) (.cT [LM 17 8,LO 18 (.bin .sub (LT 17) (LI 1)),LM 8 18])))
def xN:aE:=(LS [LO 4 (.mv (.const (.slice none 0 0))),LO 5 (.mv (.const (.int .u32 0)))] (LS [LM 9 0,LO 10 (.len (LT 9)),LO 11 (.make [(.int .u32 0)] 4 (LT 10) (LT 10)),LM 6 11,LO 7 (.mv (.const (.int .u64 0)))] (.seq (LS [LM 12 0,LO 13 (.len (LT 12)),LO 14 (.bin .sub (LT 13) (LI 1)),LM 8 14] (.block 0 (.loop oU))) (LS [LM 39 6,LO 40 (.call 182 [(LT 39)]),LM 41 7,LO 42 (.cvt .u32 (LT 41)),LM 4 40,LM 5 42] .ret))))
def Aq:aT:=⟨43,[(.tmp 4),(.tmp 5)],xN⟩
theorem E4:fP 197=some Aq:=by kernel_rfl
def qI:aE:=(LS [LO 16 (.bin .lss (LT 15) (LT 14))] (.seq (.cond (LT 16) .skip (.exit 0)) (.seq (.block 1 (LS [LM 17 15,LO 18 (.iaddr 1 (LT 13) (LT 15)),LO 19 (LL 18),LM 6 17,LM 7 19] (LS [LM 20 7,LO 21 (.cvt .u64 (LT 20)),LM 22 1,LO 23 (.bin .shl (LT 21) (LT 22)),LM 8 23] (LS [LM 24 5,LM 25 6,LO 26 (.iaddr 1 (LT 24) (LT 25)),LO 27 (LL 26),LM 28 8,LO 29 (.cvt .u32 (LT 28)),LO 30 (.bin .or (LT 27) (LT 29)),LO 31 (.iaddr 1 (LT 24) (LT 25)),LN (.store 1 (LT 31) (LT 30))] (.cT [LM 32 5,LM 33 6,LO 34 (.bin .add (LT 33) (LI 1)),LM 35 8,LO 36 (.bin .shr (LT 35) (.const (.int .u64 32))),LO 37 (.cvt .u32 (LT 36)),LO 38 (.iaddr 1 (LT 32) (LT 34)),LN (.store 1 (LT 38) (LT 37))]))))) (.cT [LO 39 (.bin .add (LT 15) (LI 1)),LM 15 39]))))
def zE:aE:=(LS [LO 4 (.mv (.const (.slice none 0 0)))] (LS [LM 9 0,LO 10 (.len (LT 9)),LO 11 (.bin .add (LT 10) (LI 1)),LO 12 (.make [(.int .u32 0)] 4 (LT 11) (LT 11)),LM 5 12] (.seq (LS [LM 13 0,LO 14 (.len (LT 13)),LO 15 (.mv (LI 0))] (.block 0 (.loop qI))) (LS [LM 40 5,LM 4 40] .ret))))
def A7:aT:=⟨41,[(.tmp 4)],zE⟩
theorem Fm:fP 199=some A7:=by kernel_rfl
def gT:aE:=(LS [LO 15 (.bin .lss (LT 14) (LT 13))] (.seq (.cond (LT 15) .skip (.exit 0)) (.seq (.block 1 (LS [LM 16 14,LM 9 16] (.seq (LS [LM 17 9,LM 18 1,LO 19 (.len (LT 18)),LO 20 (.bin .lss (LT 17) (LT 19))] (.cond (LT 20) (.cT [LM 21 7,LM 22 2,LM 23 1,LM 24 9,LO 25 (.iaddr 1 (LT 23) (LT 24)),LO 26 (LL 25),LO 27 (.cvt .u64 (LT 26)),LO 28 (.bin .mul (LT 22) (LT 27)),LO 29 (.bin .add (LT 21) (LT 28)),LM 7 29]) .skip)) (LS [LM 30 0,LM 31 9,LO 32 (.iaddr 1 (LT 30) (LT 31)),LO 33 (LL 32),LO 34 (.cvt .i64 (LT 33)),LM 35 7,LO 36 (.cvt .u32 (LT 35)),LO 37 (.cvt .i64 (LT 36)),LO 38 (.bin .sub (LT 34) (LT 37)),LM 39 8,LO 40 (.bin .sub (LT 38) (LT 39)),LM 10 40] (LS [LM 41 7,LO 42 (.bin .shr (LT 41) (.const (.int .u64 32))),LM 7 42] (LS [LO 8 (.mv (LI 0))] (.seq (LS [LM 43 10,LO 44 (.bin .lss (LT 43) (LI 0))] (.cond (LT 44) (.cT [LO 8 (.mv (LI 1))]) .skip)) (.cT [LM 45 0,LM 46 9,LM 47 10,LO 48 (.cvt .u32 (LT 47)),LO 49 (.iaddr 1 (LT 45) (LT 46)),LN (.store 1 (LT 49) (LT 48))])))))))) (.cT [LO 50 (.bin .add (LT 14) (LI 1)),LM 14 50]))))
def oH:aE:=(LS [LO 60 (.bin .lss (LT 59) (LT 58))] (.seq (.cond (LT 60) .skip (.exit 2)) (.seq (.block 3 (LS [LM 61 59,LM 11 61] (LS [LM 62 7,LM 63 0,LM 64 11,LO 65 (.iaddr 1 (LT 63) (LT 64)),LO 66 (LL 65),LO 67 (.cvt .u64 (LT 66)),LO 68 (.bin .add (LT 62) (LT 67)),LM 7 68] (.seq (LS [LM 69 11,LM 70 1,LO 71 (.len (LT 70)),LO 72 (.bin .lss (LT 69) (LT 71))] (.cond (LT 72) (.cT [LM 73 7,LM 74 1,LM 75 11,LO 76 (.iaddr 1 (LT 74) (LT 75)),LO 77 (LL 76),LO 78 (.cvt .u64 (LT 77)),LO 79 (.bin .add (LT 73) (LT 78)),LM 7 79]) .skip)) (LS [LM 80 0,LM 81 11,LM 82 7,LO 83 (.cvt .u32 (LT 82)),LO 84 (.iaddr 1 (LT 80) (LT 81)),LN (.store 1 (LT 84) (LT 83))] (.cT [LM 85 7,LO 86 (.bin .shr (LT 85) (.const (.int .u64 32))),LM 7 86])))))) (.cT [LO 87 (.bin .add (LT 59) (LI 1)),LM 59 87]))))
def EZ:aE:=(LS [LO 6 (.mv LF)] (LS [LO 7 (.mv (.const (.int .u64 0))),LO 8 (.mv (LI 0))] (.seq (LS [LM 12 0,LO 13 (.len (LT 12)),LO 14 (.mv (LI 0))] (.block 0 (.loop gT))) (.seq (LS [LM 51 8,LO 52 (.bin .eql (LT 51) (LI 0)),LM 53 52,LY 53 54 (.mv (LT 7)),LY 53 55 (.bin .eql (LT 54) (.const (.int .u64 0))),LO 56 (.pick (LT 53) (LT 55) LF)] (.cond (LT 56) (LS [LO 6 (.mv LF)] .ret) .skip)) (LS [LO 7 (.mv (.const (.int .u64 0)))] (.seq (LS [LM 57 0,LO 58 (.len (LT 57)),LO 59 (.mv (LI 0))] (.block 2 (.loop oH))) (LS [LO 6 (.mv LG)] .ret)))))))
def HW:aT:=⟨88,[(.tmp 6)],EZ⟩
theorem MZ:fP 200=some HW:=by kernel_rfl
end Go.PM
namespace Go.PM
end Go.PM
namespace Go.PM
def JW:aE:=(LS [LO 6 (.mv LF)] (LS [LM 7 0,LM 8 1,LO 9 (.bin .geq (LT 7) (LT 8)),LM 10 9,LY 10 11 (.mv (LT 0)),LY 10 12 (.mv (LT 2)),LY 10 13 (.bin .leq (LT 11) (LT 12)),LO 14 (.pick (LT 10) (LT 13) LF),LM 6 14] .ret))
def OI:aT:=⟨15,[(.tmp 6)],JW⟩
theorem SW:fP 88=some OI:=by kernel_rfl
end Go.PM
namespace Go.PM
theorem adD (x a b:Int):TC 93 [VI x,VI a,VI b] (.sc (.bool (decide (a≤x∧x≤b)))):=by
 refine TC.walk ⟨true,false⟩ afP rfl (aMs rfl) rfl rfl ?_
 by_cases h1:a≤x<;>by_cases h2:x≤b<;>simp only[ZM,QY,h1,h2,VX,Nat.reduceEqDiff,Nat.reduceAdd]<;>exact aJ rfl
theorem SU (x a b:Int):TC 88 [VI x,VI a,VI b] (.sc (.bool (decide (a≤x∧x≤b)))):=by
 refine TC.walk ⟨true,false⟩ SW rfl (aMs rfl) rfl rfl ?_
 by_cases h1:a≤x<;>by_cases h2:x≤b<;>simp only[OI,JW,h1,h2,VX,Nat.reduceEqDiff,Nat.reduceAdd]<;>exact aJ rfl
end Go.PM
namespace Go.PM
end Go.PM
namespace Go.PM
theorem Zg {α:Type} {f:α→VV} {e b g c:Nat} {xs:List α} {H:aA} (hp:∀x,aY (f x)=true) (h:aG H b g=some (xs.map f,e,true)) (hc:xs.length≤c):fz depth H (.ref b g 0 xs.length c)=some (aC f xs):=by
 rw[IA h (by simp) hc (fN hp)]
theorem cJ {H H':aA} {b g:Nat} {x:List VV×Nat×Bool} (hh:H <+: H') (h:aG H b g=some x):aG H' b g=some x:=by
 obtain⟨L,rfl⟩:=hh
 exact eV h
def Seen {α:Type} (f:α→VV) (xs:List α) (H:aA) (r:VV):Prop:=∀H',H <+: H'→fz depth H' r=some (aC f xs)
theorem Seen.now {α:Type} {f:α→VV} {xs:List α} {H:aA} {r:VV} (h:Seen f xs H r):fz depth H r=some (aC f xs):=h H (List.prefix_refl _)
theorem Seen.pre {α:Type} {f:α→VV} {xs:List α} {H H':aA} {r:VV} (h:Seen f xs H r) (hh:H <+: H'):Seen f xs H' r:=fun Uo h'=>h Uo (hh.trans h')
def LV (lo hi:Nat) (cH:List Int) (H:aA) (v:VV):Prop :=
 (v = .tree [] .nil∧cH=[])∨∃b g c,lo≤b∧b<hi∧v = .ref b g 0 cH.length c∧cH.length≤c∧aG H b g=some (cH.map nV,1,true)
theorem LV.dB {lo hi:Nat} {cH:List Int} {H H':aA} {v:VV} (h:LV lo hi cH H v) (hk:∀b g x,lo≤b→b<hi→aG H b g=some x→aG H' b g=some x):LV lo hi cH H' v:=by
 rcases h with h | ⟨b,g,c,h1,h2,h3,h4,h5⟩
 ·exact .inl h
 ·exact .inr ⟨b,g,c,h1,h2,h3,h4,hk _ _ _ h1 h2 h5⟩
theorem LV.pre {lo hi:Nat} {cH:List Int} {H H':aA} {v:VV} (h:LV lo hi cH H v) (hh:H <+: H'):LV lo hi cH H' v:=h.dB fun _ _ _ _ _=>cJ hh
theorem LV.set {lo hi b':Nat} {x:fO} {cH:List Int} {H:aA} {v:VV} (h:LV lo hi cH H v) (hb:b'<lo∨hi≤b'):LV lo hi cH (H.set b' x) v:=h.dB fun _ _ _ h1 h2=>aX (by omega)
theorem LV.fz {lo hi:Nat} {cH:List Int} {H:aA} {v:VV} (h:LV lo hi cH H v):fz depth H v=some (aB9 cH):=by
 rcases h with⟨rfl,rfl⟩ | ⟨b,g,c,h1,h2,rfl,h4,h5⟩
 ·exact Yf
 ·exact Zg (fun _=>rfl) h5 h4
end Go.PM
namespace Go.PM
theorem lG {H:aA} {g e:Nat} {es:List VV} {w:Bool}:aG (H++[.row g es e w]) H.length g=some (es,e,w):=FO (i:=0) rfl
theorem Ps {H:aA} {x y:fO}:(H++[x]).set H.length y=H++[y]:=by
 rw[aMj _ _ (aKE _),aKX,List.set_cons_zero]
theorem Ce {H K:aA} {g:Nat}:aG (H++K) H.length g=aG K 0 g:=by
 unfold aG
 rw[aKW (aKE _),aKX]
theorem Nr {H K:aA} {g k:Nat}:aG (H++K) (H.length+k) g=aG K k g:=by
 unfold aG
 rw[aKW (aMw _ _),aMv]
theorem Ti {H K:aA} {y:fO}:(H++K).set H.length y=H++K.set 0 y:=by
 rw[aMj _ _ (aKE _),aKX]
theorem awY {H K:aA} {y:fO} {k:Nat}:(H++K).set (H.length+k) y=H++K.set k y:=by
 rw[aMj _ _ (aMw _ _),aMv]
theorem abT {H:aA} {z:List Value} {v:VV} (hz:(z.map kW).all bP=true) (hv:(aB v).length=z.length) (hs:(aB v).all bP=true):mV true z 1 [(0,v)] H=some (.ref H.length 0 0 1 1,H++[.row 0 [v] z.length true]):=by
 simp[mV,yW,hz,hv,hs]
def DI (n:Nat) (H:aA):Prop:=∃L,H=aLu n .dead++L∧mZ n L=true
theorem DI.app {n g e:Nat} {es:List VV} {w:Bool} {H:aA} (h:DI n H) (ho:AF n es=true):DI n (H++[.row g es e w]):=by
 obtain⟨L,rfl,hL⟩:=h
 exact⟨L++[.row g es e w],by rw[aMq],by simp only[mZ,List.all_append,Bool.and_eq_true,List.all_cons,List.all_nil,and_true];exact⟨hL,ho⟩⟩
theorem DI.set {n b g e:Nat} {es:List VV} {w:Bool} {H:aA} (h:DI n H) (hb:n≤b) (ho:AF n es=true):DI n (H.set b (.row g es e w)):=by
 obtain⟨L,rfl,hL⟩:=h
 refine⟨L.set (b-n) (.row g es e w),by rw[aMj _ _ (by simpa using hb),aMt],?_⟩
 unfold mZ at hL ⊢
 rw[List.all_eq_true] at hL ⊢
 intro x hx
 rcases List.mem_or_eq_of_mem_set hx with h | rfl
 ·exact hL x h
 ·exact ho
theorem DI.len {n:Nat} {H:aA} (h:DI n H):n≤H.length:=by
 obtain⟨L,rfl,_⟩:=h
 simp
def aEG (r:Nat×List Int):VV := .ref r.1 0 0 r.2.length r.2.length
structure aBs (lo hi b:Nat) (H:aA) (rs:List (Nat×List Int)):Prop where
 nd:(rs.map (·.1)).Nodup
 row:∀r∈rs,lo≤r.1∧r.1<hi∧r.1≠b∧aG H r.1 0=some (r.2.map nV,1,true)
def RR (lo hi:Nat) (cH:List (List Int)) (H:aA) (v:VV):Prop :=
 (v = .tree [] .nil∧cH=[])∨∃b g c rs,lo≤b∧b<hi∧v = .ref b g 0 cH.length c∧cH.length≤c∧aG H b g=some (rs.map aEG,1,true)∧rs.map (·.2)=cH∧aBs lo hi b H rs
theorem RR.dB {lo hi:Nat} {cH:List (List Int)} {H H':aA} {v:VV} (h:RR lo hi cH H v) (hk:∀b g x,lo≤b→b<hi→aG H b g=some x→aG H' b g=some x):RR lo hi cH H' v:=by
 rcases h with h | ⟨b,g,c,rs,h1,h2,h3,h4,h5,h6,h7⟩
 ·exact .inl h
 ·exact .inr ⟨b,g,c,rs,h1,h2,h3,h4,hk _ _ _ h1 h2 h5,h6,h7.nd,fun r hr=>by
   obtain⟨k1,k2,k3,k4⟩:=h7.row r hr
   exact⟨k1,k2,k3,hk _ _ _ k1 k2 k4⟩⟩
theorem RR.pre {lo hi:Nat} {cH:List (List Int)} {H H':aA} {v:VV} (h:RR lo hi cH H v) (hh:H <+: H'):RR lo hi cH H' v:=h.dB fun _ _ _ _ _=>cJ hh
theorem RR.set {lo hi b':Nat} {x:fO} {cH:List (List Int)} {H:aA} {v:VV} (h:RR lo hi cH H v) (hb:b'<lo∨hi≤b'):RR lo hi cH (H.set b' x) v:=h.dB fun _ _ _ h1 h2=>aX (by omega)
theorem mapM_map {α:Type} {g:VV→Option VV} {f f':α→VV}:∀ {xs:List α},(∀x∈xs,g (f x)=some (f' x))→(xs.map f).mapM g=some (xs.map f')
 | [],_=>rfl
 |
  x::xs,h=>by
  rw[List.map_cons,List.mapM_cons,h x List.mem_cons_self,mapM_map fun y hy=>h y (List.mem_cons_of_mem _ hy)]
  rfl
theorem K4 {H L:aA} {b g:Nat} {x:List VV×Nat×Bool} (hb:H.length≤b) (h:aG (aLu H.length .dead++L) b g=some x):aG (H++L) b g=some x:=by
 obtain⟨es,e,w⟩:=x
 rw[cB] at h ⊢
 rw[aKW (by simpa using hb),aMt] at h
 rw[aKW hb]
 exact h
end Go.PM
namespace Go.PM
abbrev lW (xs:List (List ByteArray)):VV:=aC gJ xs
theorem Bk (xs:List (List ByteArray)):aY (lW xs)=true:=mR (size:=1) (fun _=>rfl) kJ
theorem JY (xs ys:List (List ByteArray)) (hn:xs.length≤1000000000) (I4:∀x∈xs,x.length≤1000000000):TC 73 [lW xs,lW ys] (.sc (.bool (decide (xs=ys)))):=by
 refine TC.walk ⟨true,false⟩ Je rfl (aMs rfl) (by simp[aO,Bk]) rfl ?_
 by_cases hl:(xs.length:Int)=(ys.length:Int)
 ·simp only[Ac,vQ,hl,VX,Nat.reduceEqDiff,Nat.reduceAdd]
  refine aP (fun(i:Nat) ρ H=>i≤xs.length∧H=[]∧xs.take i=ys.take i∧ρ 0=lW xs∧ρ 1=lW ys∧ρ 5=VI i) (fun i=>xs.length-i) 0 ⟨aK8 _,rfl,by simp,rfl,rfl,rfl⟩ ?_
  rintro i ρ H ⟨hi,rfl,ht,h0,h1,h5⟩
  by_cases bW:(i:Int)<(xs.length:Int)
  ·obtain⟨x,hx⟩:∃x,xs[i]? = some x:=⟨_,aKL (by omega)⟩
   obtain⟨y,hy⟩:∃y,ys[i]? = some y:=⟨_,aKL (by omega)⟩
   have e1:=aH (f:=gJ) (t := .op) (H:=[]) (size:=1) (k := .i64) hx rfl
   have e2:=aH (f:=gJ) (t := .op) (H:=[]) (size:=1) (k := .i64) hy rfl
   have e3:=Dv x y (I4 x (aLy hx))
   have wi:IntKind.i64.wrap ((i:Int)+1)=((i+1:Nat):Int):=wrapN (i+1) (by omega) (by omega)
   by_cases CQ:x=y
   ·subst CQ
    rw[decide_eq_true rfl] at e3
    simp only[oV,e3,h0,h1,h5,bW,e1,e2,wi,VX,Nat.reduceEqDiff,Nat.reduceAdd]
    refine⟨i+1,by omega,by omega,?_⟩
    rw[aMu,aMu,hx,hy,ht]
    (repeat' apply aMk)<;>first | rfl | trivial
   ·rw[decide_eq_false CQ] at e3
    simp only[oV,e3,h0,h1,h5,bW,e1,e2,VX,Nat.reduceEqDiff,Nat.reduceAdd]
    have:¬xs=ys:=fun h=>CQ (by rw[h,hy] at hx;injection hx with hx;exact hx.symm)
    simp only[this,decide_false]
    exact aJ rfl
  ·simp only[oV,h0,h1,h5,bW,VX,Nat.reduceEqDiff,Nat.reduceAdd]
   have:xs=ys:=by
    rw[aLx (by omega),aLx (by omega)] at ht
    exact ht
   simp only[this,decide_true]
   exact aJ rfl
 ·simp only[Ac,vQ,hl,VX,Nat.reduceEqDiff,Nat.reduceAdd]
  have:¬xs=ys:=fun h=>hl (by rw[h])
  simp only[this,decide_false]
  exact aJ rfl
def szL:List ByteArray→Int→Int
 | [],l=>l
 | x::xs,l=>if l-x.size<0 then -1 else szL xs (l-x.size)
def HZ (xs:List ByteArray) (left:Int):Int:=if left-xs.length<0 then -1 else szL xs (left-xs.length)
def Vw:List (List ByteArray)→Int→Int
 | [],l=>l
 | x::xs,l=>if HZ x l<0 then -1 else Vw xs (HZ x l)
def FX (xs:List (List ByteArray)) (left:Int):Int:=if left-xs.length<0 then -1 else Vw xs (left-xs.length)
theorem ajE:∀(xs:List ByteArray) (l:Int),0≤szL xs l→szL xs l≤l∧∀x∈xs,(x.size:Int)≤l
 | [],l,_=>⟨Int.le_refl _,fun x hx=>(by cases hx)⟩
 |
  x::xs,l,h=>by
  unfold szL at h ⊢
  split at h
  ·omega
  ·rename_i hc
   rw[if_neg hc]
   obtain⟨h1,h2⟩:=ajE xs _ h
   refine⟨by omega,fun y hy => ?_⟩
   rcases List.mem_cons.1 hy with rfl | hy
   ·omega
   ·have:=h2 y hy;omega
theorem Ia {xs:List ByteArray} {l:Int} (h:0≤HZ xs l):HZ xs l≤l∧(xs.length:Int)≤l∧∀x∈xs,(x.size:Int)≤l:=by
 unfold HZ at h ⊢
 split at h
 ·omega
 ·rename_i hc
  rw[if_neg hc]
  obtain⟨h1,h2⟩:=ajE _ _ h
  exact⟨by omega,by omega,fun x hx=>by have:=h2 x hx;omega⟩
theorem ZS:∀(xs:List (List ByteArray)) (l:Int),0≤Vw xs l→Vw xs l≤l∧∀x∈xs,(x.length:Int)≤l∧∀y∈x,(y.size:Int)≤l
 | [],l,_=>⟨Int.le_refl _,fun x hx=>(by cases hx)⟩
 |
  x::xs,l,h=>by
  unfold Vw at h ⊢
  split at h
  ·omega
  ·rename_i hc
   rw[if_neg hc]
   obtain⟨h1,h2⟩:=ZS xs _ h
   obtain⟨h3,h4,h5⟩:=Ia (xs:=x) (l:=l) (by omega)
   refine⟨by omega,fun y hy => ?_⟩
   rcases List.mem_cons.1 hy with rfl | hy
   ·exact⟨h4,h5⟩
   ·obtain⟨h6,h7⟩:=h2 y hy
    exact⟨by omega,fun z hz=>by have:=h7 z hz;omega⟩
theorem Tk {xs:List (List ByteArray)} {l:Int} (h:0≤FX xs l):FX xs l≤l∧(xs.length:Int)≤l∧∀x∈xs,(x.length:Int)≤l∧∀y∈x,(y.size:Int)≤l:=by
 unfold FX at h ⊢
 split at h
 ·omega
 ·rename_i hc
  rw[if_neg hc]
  obtain⟨h1,h2⟩:=ZS _ _ h
  exact⟨by omega,by omega,fun x hx=>⟨by have:=(h2 x hx).1;omega,fun y hy=>by have:=(h2 x hx).2 y hy;omega⟩⟩
def okS (xs:List ByteArray):Prop:=xs.length≤9223372036854775807∧∀x∈xs,x.size≤9223372036854775807
def aB4 (xs:List (List ByteArray)):Prop:=xs.length≤9223372036854775807∧∀x∈xs,okS x
theorem VO {α:Type} {l:List α} {i:Nat} {x:α} (h:l[i]? = some x):l.drop i=x::l.drop (i+1):=by
 have bI:=aKD.1 h
 rw[List.drop_eq_getElem_cons bI.1,bI.2]
theorem yQ (xs:List ByteArray) (left:Int) (hx:okS xs) (hl:0≤left∧left≤1000000):TC 32 [gJ xs,VI left] (VI (HZ xs left)):=by
 refine TC.walk ⟨true,false⟩ Kr rfl (aMs rfl) (by simp[aO,kJ];rfl) rfl ?_
 have hn:=hx.1
 have w:IntKind.i64.wrap (left-(xs.length:Int))=left-(xs.length:Int):=wrap64 (by omega) (by omega)
 by_cases h:left-(xs.length:Int)<0
 ·simp only[By,yG,w,h,VX,Nat.reduceEqDiff,Nat.reduceAdd]
  unfold HZ
  rw[if_pos h]
  exact aJ rfl
 simp only[By,yG,w,h,VX,Nat.reduceEqDiff,Nat.reduceAdd]
 refine aP (fun(s:Nat×Int) ρ H=>s.1≤xs.length∧H=[]∧0≤s.2∧s.2≤left∧szL (xs.drop s.1) s.2=HZ xs left∧ρ 0=gJ xs∧ρ 1=VI s.2∧ρ 5=VI s.1) (fun s=>xs.length-s.1) (0,left-xs.length) ⟨aK8 _,rfl,by simp only;omega,by simp only;omega,by unfold HZ;rw[if_neg h];rfl,rfl,rfl,rfl⟩ ?_
 rintro⟨i,l⟩ ρ H ⟨hi,rfl,Ci,Dx,hs,h0,h1,h5⟩
 simp only at hi Ci Dx hs h1 h5
 by_cases bW:(i:Int)<(xs.length:Int)
 ·obtain⟨x,I4⟩:∃x,xs[i]? = some x:=⟨_,aKL (by omega)⟩
  have E7:=hx.2 x (aLy I4)
  have e1:=aH (f:=sV) (t := .op) (H:=[]) (size:=1) (k := .i64) I4 rfl
  have e2:DE (.string x)=some (.int .i64 (x.size:Int)):=rfl
  have wi:IntKind.i64.wrap ((i:Int)+1)=((i+1:Nat):Int):=wrapN (i+1) (by omega) (by omega)
  have w1:IntKind.i64.wrap (l-(x.size:Int))=l-(x.size:Int):=wrap64 (by omega) (by omega)
  rw[VO I4,szL] at hs
  by_cases mK:l-(x.size:Int)<0
  ·rw[if_pos mK] at hs
   simp only[qP,h0,h1,h5,bW,e1,e2,w1,mK,VX,Nat.reduceEqDiff,Nat.reduceAdd]
   rw[←hs]
   exact aJ rfl
  ·rw[if_neg mK] at hs
   simp only[qP,h0,h1,h5,bW,e1,e2,w1,mK,wi,VX,Nat.reduceEqDiff,Nat.reduceAdd]
   exact⟨(i+1,l-x.size),by simp only;omega,by simp only;omega,by simp only;omega,by simp only;omega,hs,by (repeat' apply aMk)<;>first | rfl | trivial⟩
 ·have mH:i=xs.length:=by omega
  subst mH
  rw[aMx (aKE _),szL] at hs
  simp only[qP,h0,h1,h5,bW,VX,Nat.reduceEqDiff,Nat.reduceAdd]
  rw[hs]
  exact aJ rfl
theorem J4 (xs:List (List ByteArray)) (left:Int) (hx:aB4 xs) (hl:0≤left∧left≤1000000):TC 15 [lW xs,VI left] (VI (FX xs left)):=by
 refine TC.walk ⟨true,false⟩ Ja rfl (aMs rfl) (by simp[aO,Bk];rfl) rfl ?_
 have hn:=hx.1
 have w:IntKind.i64.wrap (left-(xs.length:Int))=left-(xs.length:Int):=wrap64 (by omega) (by omega)
 by_cases h:left-(xs.length:Int)<0
 ·simp only[Ah,xC,w,h,VX,Nat.reduceEqDiff,Nat.reduceAdd]
  unfold FX
  rw[if_pos h]
  exact aJ rfl
 simp only[Ah,xC,w,h,VX,Nat.reduceEqDiff,Nat.reduceAdd]
 refine aP (fun(s:Nat×Int) ρ H=>s.1≤xs.length∧H=[]∧0≤s.2∧s.2≤left∧Vw (xs.drop s.1) s.2=FX xs left∧ρ 0=lW xs∧ρ 1=VI s.2∧ρ 5=VI s.1) (fun s=>xs.length-s.1) (0,left-xs.length) ⟨aK8 _,rfl,by simp only;omega,by simp only;omega,by unfold FX;rw[if_neg h];rfl,rfl,rfl,rfl⟩ ?_
 rintro⟨i,l⟩ ρ H ⟨hi,rfl,Ci,Dx,hs,h0,h1,h5⟩
 simp only at hi Ci Dx hs h1 h5
 by_cases bW:(i:Int)<(xs.length:Int)
 ·obtain⟨x,I4⟩:∃x,xs[i]? = some x:=⟨_,aKL (by omega)⟩
  have e1:=aH (f:=gJ) (t := .op) (H:=[]) (size:=1) (k := .i64) I4 rfl
  have e2:=yQ x l (hx.2 x (aLy I4)) (by omega)
  have wi:IntKind.i64.wrap ((i:Int)+1)=((i+1:Nat):Int):=wrapN (i+1) (by omega) (by omega)
  rw[VO I4,Vw] at hs
  by_cases mK:HZ x l<0
  ·rw[if_pos mK] at hs
   simp only[oX,h0,h1,h5,bW,e1,e2,mK,VX,Nat.reduceEqDiff,Nat.reduceAdd]
   rw[←hs]
   exact aJ rfl
  ·rw[if_neg mK] at hs
   have hle:=Ia (xs:=x) (l:=l) (by omega)
   simp only[oX,h0,h1,h5,bW,e1,e2,mK,wi,VX,Nat.reduceEqDiff,Nat.reduceAdd]
   exact⟨(i+1,HZ x l),by simp only;omega,by simp only;omega,by simp only;omega,by simp only;omega,hs,by (repeat' apply aMk)<;>first | rfl | trivial⟩
 ·have mH:i=xs.length:=by omega
  subst mH
  rw[aMx (aKE _),Vw] at hs
  simp only[oX,h0,h1,h5,bW,VX,Nat.reduceEqDiff,Nat.reduceAdd]
  rw[hs]
  exact aJ rfl
end Go.PM