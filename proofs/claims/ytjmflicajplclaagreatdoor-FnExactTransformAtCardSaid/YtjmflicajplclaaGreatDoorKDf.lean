/- Texts of a claim, in one: part 6. -/
import Derived.KernelRfl
import Derived.Laws.Strings
import Derived.Test.YtjmflicajplclaaGreatDoorKDe
open And renaming intro → aL1
open List renaming append_assoc → aL7,drop_of_length_le → aMe,getElem?_append_right → aKD,getElem?_eq_getElem → aKs,getElem?_eq_some_iff → aKk,length_replicate → aMa,mem_of_getElem? → aLf,replicate → aLb,set_append_right → aL0,take_add_one → aMb,take_of_length_le → aLe
open Nat renaming add_sub_cancel_left → aMc,le_add_right → aMd,le_of_ble_eq_true → aL9,le_refl → aKl,sub_self → aKE,zero_le → aKP
set_option linter.unusedSimpArgs false
set_option linter.unusedVariables false
namespace Go.PM
def qU:aE:=(.seq (LS [LM 11 5,LM 12 0,LO 13 (.len (LT 12)),LO 14 (.bin .lss (LT 11) (LT 13))] (.cond (LT 14) .skip (.exit 0))) (.seq (.block 1 (LS [LM 17 0,LM 18 5,LO 19 (.iaddr 1 (LT 17) (LT 18)),LO 20 (LL 19),LM 21 1,LM 22 5,LO 23 (.iaddr 1 (LT 21) (LT 22)),LO 24 (LL 23),LO 25 (.bin .neq (LT 20) (LT 24))] (.cond (LT 25) (LS [LO 4 (.mv LF)] .ret) .skip))) (.cV [LM 15 5,LO 16 (.bin .add (LT 15) (LI 1)),LM 5 16])))
def xL:aE:=(LS [LO 4 (.mv LF)] (.seq (LS [LM 6 0,LO 7 (.len (LT 6)),LM 8 1,LO 9 (.len (LT 8)),LO 10 (.bin .neq (LT 7) (LT 9))] (.cond (LT 10) (LS [LO 4 (.mv LF)] .ret) .skip)) (.seq (LS [LO 5 (.mv (LI 0))] (.block 0 (.loop qU))) (LS [LO 4 (.mv LG)] .ret))))
def Bz:aU:=⟨26,[(.tmp 4)],xL⟩
theorem K5:fQ 100=some Bz:=by kernel_rfl
def lH:aE:=(LS [LO 2 (.box (LT 0)),LO 4 (.mv (LI 0))] (LS [LO 5 (LA 0 2),LO 6 (LL 5),LM 7 1,LO 8 (.call 32 [(LT 6),(LT 7)]),LM 1 8] (.seq (LS [LM 9 1,LO 10 (.bin .lss (LT 9) (LI 0))] (.cond (LT 10) (LS [LO 4 (.mv (LI (-1)))] .ret) .skip)) (LS [LO 11 (LA 1 2),LO 12 (LL 11),LM 13 1,LO 14 (.call 15 [(LT 12),(LT 13)]),LM 1 14] (.seq (LS [LM 15 1,LO 16 (.bin .lss (LT 15) (LI 0))] (.cond (LT 16) (LS [LO 4 (.mv (LI (-1)))] .ret) .skip)) (LS [LO 17 (LA 2 2),LO 18 (LL 17),LM 19 1,LO 20 (.call 32 [(LT 18),(LT 19)]),LM 1 20] (.seq (LS [LM 21 1,LO 22 (.bin .lss (LT 21) (LI 0))] (.cond (LT 22) (LS [LO 4 (.mv (LI (-1)))] .ret) .skip)) (LS [LM 23 1,LM 4 23] .ret))))))))
def nQ:aU:=⟨24,[(.tmp 4)],lH⟩
theorem Da:fQ 44=some nQ:=by kernel_rfl
def Dr:aE:=(LS [LO 2 (.box (LT 0)),LO 4 (.new [(.slice none 0 0),(.slice none 0 0),(.slice none 0 0)])] (LS [LO 5 (.new [(.slice none 0 0),(.slice none 0 0),(.slice none 0 0)])] (LS [LO 6 (LA 0 2),LO 7 (LL 6),LM 8 1,LO 9 (.call 34 [(LT 7),(LT 8)]),LO 10 (LA 0 5),LN (.store 1 (LT 10) (LT 9))] (LS [LO 11 (LA 1 2),LO 12 (LL 11),LM 13 1,LO 14 (.call 17 [(LT 12),(LT 13)]),LO 15 (LA 1 5),LN (.store 1 (LT 15) (LT 14))] (LS [LO 16 (LA 2 2),LO 17 (LL 16),LM 18 1,LO 19 (.call 34 [(LT 17),(LT 18)]),LO 20 (LA 2 5),LN (.store 1 (LT 20) (LT 19))] (LS [LO 21 (LK 5),LN (.store 3 (LT 4) (LT 21))] .ret))))))
def E7:aU:=⟨22,[(.cell 4 true 3)],Dr⟩
theorem Lj:fQ 46=some E7:=by kernel_rfl
def zJ:aE:=(LS [LO 2 (.box (LT 0)),LO 3 (.box (LT 1)),LO 4 (.mv LF)] (.seq (LS [LO 5 (LA 0 2),LO 6 (LL 5),LO 7 (LA 0 3),LO 8 (LL 7),LO 9 (.call 36 [(LT 6),(LT 8)]),LO 10 (.un .not (LT 9))] (.cond (LT 10) (LS [LO 4 (.mv LF)] .ret) .skip)) (.seq (LS [LO 11 (LA 1 2),LO 12 (LL 11),LO 13 (LA 1 3),LO 14 (LL 13),LO 15 (.call 20 [(LT 12),(LT 14)]),LO 16 (.un .not (LT 15))] (.cond (LT 16) (LS [LO 4 (.mv LF)] .ret) .skip)) (.seq (LS [LO 17 (LA 2 2),LO 18 (LL 17),LO 19 (LA 2 3),LO 20 (LL 19),LO 21 (.call 36 [(LT 18),(LT 20)]),LO 22 (.un .not (LT 21))] (.cond (LT 22) (LS [LO 4 (.mv LF)] .ret) .skip)) (LS [LO 4 (.mv LG)] .ret)))))
def Bd:aU:=⟨23,[(.tmp 4)],zJ⟩
theorem E6:fQ 48=some Bd:=by kernel_rfl
def qN:aE:=(.seq (LS [LM 12 5,LM 13 0,LO 14 (.len (LT 13)),LO 15 (.bin .lss (LT 12) (LT 14))] (.cond (LT 15) .skip (.exit 0))) (.seq (.block 1 (LS [LM 18 1,LM 19 0,LM 20 5,LO 21 (.iaddr 1 (LT 19) (LT 20)),LO 22 (LL 21),LO 23 (.slen (LT 22)),LO 24 (.bin .sub (LT 18) (LT 23)),LM 1 24] (LS [LM 25 1,LO 26 (.bin .lss (LT 25) (LI 0))] (.cond (LT 26) (LS [LO 4 (.mv (LI (-1)))] .ret) .skip)))) (.cV [LM 16 5,LO 17 (.bin .add (LT 16) (LI 1)),LM 5 17])))
def sR:aE:=(LS [LO 4 (.mv (LI 0))] (LS [LM 6 1,LM 7 0,LO 8 (.len (LT 7)),LO 9 (.bin .sub (LT 6) (LT 8)),LM 1 9] (.seq (LS [LM 10 1,LO 11 (.bin .lss (LT 10) (LI 0))] (.cond (LT 11) (LS [LO 4 (.mv (LI (-1)))] .ret) .skip)) (.seq (LS [LO 5 (.mv (LI 0))] (.block 0 (.loop qN))) (LS [LM 27 1,LM 4 27] .ret)))))
def vV:aU:=⟨28,[(.tmp 4)],sR⟩
theorem C8:fQ 32=some vV:=by kernel_rfl
def qR:aE:=(.seq (LS [LM 21 6,LM 22 0,LO 23 (.len (LT 22)),LO 24 (.bin .lss (LT 21) (LT 23))] (.cond (LT 24) .skip (.exit 0))) (.seq (.block 1 (.cV [LM 27 5,LM 28 6,LM 29 0,LM 30 6,LO 31 (.iaddr 1 (LT 29) (LT 30)),LO 32 (LL 31),LO 33 (.iaddr 1 (LT 27) (LT 28)),LN (.store 1 (LT 33) (LT 32))])) (.cV [LM 25 6,LO 26 (.bin .add (LT 25) (LI 1)),LM 6 26])))
def qS:aE:=(.seq (LS [LM 36 7,LM 37 5,LO 38 (.len (LT 37)),LO 39 (.bin .lss (LT 36) (LT 38))] (.cond (LT 39) .skip (.exit 2))) (.seq (.block 3 (.cV [LM 42 5,LM 43 7,LO 44 (.iaddr 1 (LT 42) (LT 43)),LN (.store 1 (LT 44) (.const (.string ⟨#[126,115,112,97,114,101,126]⟩)))])) (.cV [LM 40 7,LO 41 (.bin .add (LT 40) (LI 1)),LM 7 41])))
def sM:aE:=(LS [LO 4 (.mv (.const (.slice none 0 0)))] (.seq (LS [LM 8 1,LM 9 8,LY 9 10 (.mv (LT 0)),LY 9 11 (.len (LT 10)),LY 9 12 (.bin .eql (LT 11) (LI 0)),LO 13 (.pick (LT 9) (LT 12) LF)] (.cond (LT 13) (LS [LO 4 (.mv (.const (.slice none 0 0)))] .ret) .skip)) (LS [LM 14 0,LO 15 (.len (LT 14)),LM 16 0,LO 17 (.len (LT 16)),LO 18 (.call 63 [(LT 17)]),LO 19 (.bin .add (LT 15) (LT 18)),LO 20 (.make [(.string ⟨#[]⟩)] 16 (LT 19) (LT 19)),LM 5 20] (.seq (LS [LO 6 (.mv (LI 0))] (.block 0 (.loop qR))) (.seq (LS [LM 34 0,LO 35 (.len (LT 34)),LM 7 35] (.block 2 (.loop qS))) (LS [LM 45 5,LM 46 0,LO 47 (.len (LT 46)),LO 48 (.sub 1 (LT 45) none (some (LT 47)) none),LM 4 48] .ret))))))
def vM:aU:=⟨49,[(.tmp 4)],sM⟩
theorem KC:fQ 34=some vM:=by kernel_rfl
def zN:aE:=(LS [LO 4 (.mv LF)] (LS [LM 6 1,LO 7 (.len (LT 6)),LM 8 1,LO 9 (.len (LT 8)),LO 10 (.call 63 [(LT 9)]),LO 11 (.bin .add (LT 7) (LT 10)),LM 5 11] (LS [LM 12 0,LO 13 (.len (LT 12)),LM 14 1,LO 15 (.len (LT 14)),LO 16 (.bin .eql (LT 13) (LT 15)),LM 17 16,LY 17 18 (.mv (LT 0)),LY 17 19 (.mv (LT 5)),LY 17 20 (.sub 1 (LT 18) none (some (LT 19)) none),LY 17 21 (.mv (LT 1)),LY 17 22 (.mv (LT 5)),LY 17 23 (.sub 1 (LT 21) none (some (LT 22)) none),⟨(some 24),(.call 100 [(LT 20),(LT 23)]),(some (17,true)),true,[]⟩,LO 25 (.pick (LT 17) (LT 24) LF),LM 4 25] .ret)))
def Bl:aU:=⟨26,[(.tmp 4)],zN⟩
theorem F5:fQ 36=some Bl:=by kernel_rfl
def pC:aE:=(.seq (LS [LM 12 5,LM 13 0,LO 14 (.len (LT 13)),LO 15 (.bin .lss (LT 12) (LT 14))] (.cond (LT 15) .skip (.exit 0))) (.seq (.block 1 (LS [LM 18 0,LM 19 5,LO 20 (.iaddr 1 (LT 18) (LT 19)),LO 21 (LL 20),LM 22 1,LO 23 (.call 32 [(LT 21),(LT 22)]),LM 1 23] (LS [LM 24 1,LO 25 (.bin .lss (LT 24) (LI 0))] (.cond (LT 25) (LS [LO 4 (.mv (LI (-1)))] .ret) .skip)))) (.cV [LM 16 5,LO 17 (.bin .add (LT 16) (LI 1)),LM 5 17])))
def vP:aE:=(LS [LO 4 (.mv (LI 0))] (LS [LM 6 1,LM 7 0,LO 8 (.len (LT 7)),LO 9 (.bin .sub (LT 6) (LT 8)),LM 1 9] (.seq (LS [LM 10 1,LO 11 (.bin .lss (LT 10) (LI 0))] (.cond (LT 11) (LS [LO 4 (.mv (LI (-1)))] .ret) .skip)) (.seq (LS [LO 5 (.mv (LI 0))] (.block 0 (.loop pC))) (LS [LM 26 1,LM 4 26] .ret)))))
def zT:aU:=⟨27,[(.tmp 4)],vP⟩
theorem JN:fQ 15=some zT:=by kernel_rfl
def oU:aE:=(.seq (LS [LM 21 6,LM 22 0,LO 23 (.len (LT 22)),LO 24 (.bin .lss (LT 21) (LT 23))] (.cond (LT 24) .skip (.exit 0))) (.seq (.block 1 (.cV [LM 27 5,LM 28 6,LM 29 0,LM 30 6,LO 31 (.iaddr 1 (LT 29) (LT 30)),LO 32 (LL 31),LM 33 1,LO 34 (.call 34 [(LT 32),(LT 33)]),LO 35 (.iaddr 1 (LT 27) (LT 28)),LN (.store 1 (LT 35) (LT 34))])) (.cV [LM 25 6,LO 26 (.bin .add (LT 25) (LI 1)),LM 6 26])))
def pN:aE:=(.seq (LS [LM 38 7,LM 39 5,LO 40 (.len (LT 39)),LO 41 (.bin .lss (LT 38) (LT 40))] (.cond (LT 41) .skip (.exit 2))) (.seq (.block 3 (.cV [LM 44 5,LM 45 7,LO 46 (.lit [(.string ⟨#[]⟩)] 1 [(0,(.const (.string ⟨#[126,115,112,97,114,101,126]⟩)))]),LO 47 (.iaddr 1 (LT 44) (LT 45)),LN (.store 1 (LT 47) (LT 46))])) (.cV [LM 42 7,LO 43 (.bin .add (LT 42) (LI 1)),LM 7 43])))
def qQ:aE:=(LS [LO 4 (.mv (.const (.slice none 0 0)))] (.seq (LS [LM 8 1,LM 9 8,LY 9 10 (.mv (LT 0)),LY 9 11 (.len (LT 10)),LY 9 12 (.bin .eql (LT 11) (LI 0)),LO 13 (.pick (LT 9) (LT 12) LF)] (.cond (LT 13) (LS [LO 4 (.mv (.const (.slice none 0 0)))] .ret) .skip)) (LS [LM 14 0,LO 15 (.len (LT 14)),LM 16 0,LO 17 (.len (LT 16)),LO 18 (.call 63 [(LT 17)]),LO 19 (.bin .add (LT 15) (LT 18)),LO 20 (.make [(.slice none 0 0)] 24 (LT 19) (LT 19)),LM 5 20] (.seq (LS [LO 6 (.mv (LI 0))] (.block 0 (.loop oU))) (.seq (LS [LM 36 0,LO 37 (.len (LT 36)),LM 7 37] (.block 2 (.loop pN))) (LS [LM 48 5,LM 49 0,LO 50 (.len (LT 49)),LO 51 (.sub 1 (LT 48) none (some (LT 50)) none),LM 4 51] .ret))))))
def uG:aU:=⟨52,[(.tmp 4)],qQ⟩
theorem IQ:fQ 17=some uG:=by kernel_rfl
def pB:aE:=(.seq (LS [LM 18 6,LM 19 1,LO 20 (.len (LT 19)),LO 21 (.bin .lss (LT 18) (LT 20))] (.cond (LT 21) .skip (.exit 0))) (.seq (.block 1 (LS [LM 24 0,LM 25 6,LO 26 (.iaddr 1 (LT 24) (LT 25)),LO 27 (LL 26),LM 28 1,LM 29 6,LO 30 (.iaddr 1 (LT 28) (LT 29)),LO 31 (LL 30),LQ 32 (.call 36 [(LT 27),(LT 31)]),LO 33 (.un .not (LT 32))] (.cond (LT 33) (LS [LO 4 (.mv LF)] .ret) .skip))) (.cV [LM 22 6,LO 23 (.bin .add (LT 22) (LI 1)),LM 6 23])))
def xG:aE:=(LS [LO 4 (.mv LF)] (LS [LM 7 1,LO 8 (.len (LT 7)),LM 9 1,LO 10 (.len (LT 9)),LO 11 (.call 63 [(LT 10)]),LO 12 (.bin .add (LT 8) (LT 11)),LM 5 12] (.seq (LS [LM 13 0,LO 14 (.len (LT 13)),LM 15 1,LO 16 (.len (LT 15)),LO 17 (.bin .neq (LT 14) (LT 16))] (.cond (LT 17) (LS [LO 4 (.mv LF)] .ret) .skip)) (.seq (LS [LO 6 (.mv (LI 0))] (.block 0 (.loop pB))) (LS [LM 34 0,LM 35 1,LO 36 (.len (LT 35)),LM 37 5,LO 38 (.sub 1 (LT 34) (some (LT 36)) (some (LT 37)) none),LM 39 1,LM 40 1,LO 41 (.len (LT 40)),LM 42 5,LO 43 (.sub 1 (LT 39) (some (LT 41)) (some (LT 42)) none),LQ 44 (.call 73 [(LT 38),(LT 43)]),LM 4 44] .ret)))))
def Ah:aU:=⟨45,[(.tmp 4)],xG⟩
theorem EL:fQ 20=some Ah:=by kernel_rfl
def qT:aE:=(LS [LO 2 (.mv (LI 0))] (.seq (LS [LM 3 0,LO 4 (.bin .rem (LT 3) (LI 6)),LO 5 (.bin .eql (LT 4) (LI 5))] (.cond (LT 5) (LS [LO 2 (.mv (LI 0))] .ret) .skip)) (.seq (LS [LM 6 0,LO 7 (.bin .rem (LT 6) (LI 3)),LO 8 (.bin .eql (LT 7) (LI 0))] (.cond (LT 8) (LS [LO 2 (.mv (LI 1))] .ret) .skip)) (LS [LM 9 0,LM 2 9] .ret))))
def uE:aU:=⟨10,[(.tmp 2)],qT⟩
theorem JC:fQ 63=some uE:=by kernel_rfl
def oQ:aE:=(.seq (LS [LM 11 5,LM 12 0,LO 13 (.len (LT 12)),LO 14 (.bin .lss (LT 11) (LT 13))] (.cond (LT 14) .skip (.exit 0))) (.seq (.block 1 (LS [LM 17 0,LM 18 5,LO 19 (.iaddr 1 (LT 17) (LT 18)),LO 20 (LL 19),LM 21 1,LM 22 5,LO 23 (.iaddr 1 (LT 21) (LT 22)),LO 24 (LL 23),LQ 25 (.call 100 [(LT 20),(LT 24)]),LO 26 (.un .not (LT 25))] (.cond (LT 26) (LS [LO 4 (.mv LF)] .ret) .skip))) (.cV [LM 15 5,LO 16 (.bin .add (LT 15) (LI 1)),LM 5 16])))
def wV:aE:=(LS [LO 4 (.mv LF)] (.seq (LS [LM 6 0,LO 7 (.len (LT 6)),LM 8 1,LO 9 (.len (LT 8)),LO 10 (.bin .neq (LT 7) (LT 9))] (.cond (LT 10) (LS [LO 4 (.mv LF)] .ret) .skip)) (.seq (LS [LO 5 (.mv (LI 0))] (.block 0 (.loop oQ))) (LS [LO 4 (.mv LG)] .ret))))
def Ae:aU:=⟨27,[(.tmp 4)],wV⟩
theorem IT:fQ 73=some Ae:=by kernel_rfl
end Go.PM
namespace Go.PM
def room (n:Nat):Nat:=if n % 6=5 then 0 else if n % 3=0 then 1 else n
theorem room_le (n:Nat):room n≤n+1:=by unfold room;split<;>(try split)<;>omega
theorem jY (n:Nat):TC 63 [VI n] (VI (room n)):=by
 refine TC.walk ⟨true,false⟩ JC rfl (aL9 rfl) rfl rfl ?_
 have e1:dK .rem (.int .i64 (n:Int)) (.int .i64 6)=some (.int .i64 (n % 6:Nat)):=by rw[V9 (by decide)];rfl
 have e2:dK .rem (.int .i64 (n:Int)) (.int .i64 3)=some (.int .i64 (n % 3:Nat)):=by rw[V9 (by decide)];rfl
 by_cases h1:((n % 6:Nat):Int)=5
 ·simp only[uE,qT,e1,h1,VX,Nat.reduceEqDiff,Nat.reduceAdd]
  unfold room
  rw[if_pos (by omega)]
  exact aH rfl
 ·by_cases h2:((n % 3:Nat):Int)=0
  ·simp only[uE,qT,e1,e2,h1,h2,VX,Nat.reduceEqDiff,Nat.reduceAdd]
   unfold room
   rw[if_neg (by omega),if_pos (by omega)]
   exact aH rfl
  ·simp only[uE,qT,e1,e2,h1,h2,VX,Nat.reduceEqDiff,Nat.reduceAdd]
   unfold room
   rw[if_neg (by omega),if_neg (by omega)]
   exact aH rfl
abbrev nV (n:Int):VV := .sc (.int .i64 n)
abbrev aCd (xs:List Int):VV:=aC nV xs
theorem Lq {n g e:Nat} {es:List VV} {w:Bool} {K:aA}:aG (aLb n fK.dead ++ .row g es e w::K) n g=some (es,e,w):=UP (by simp)
theorem auA {n:Nat} {x y:fK} {K:aA}:(aLb n fK.dead++x::K).set n y=aLb n fK.dead++y::K:=by
 rw[aL0 _ _ (by simp)]
 simp
theorem JB {α:Type} (ys:List α) (k:Nat) (z x:α):(ys++aLb (k+1) z).set ys.length x=(ys++[x])++aLb k z:=by
 rw[aL0 _ _ (aKl _),aKE,List.replicate_succ,List.set_cons_zero,aL7]
 rfl
def lZ {α:Type} (fill:α) (xs:List α):List α:=xs++aLb (room xs.length) fill
theorem UZ {α:Type} (fill:α) (xs:List α):(lZ fill xs).length=xs.length+room xs.length:=by simp[lZ]
theorem Th {α:Type} (fill:α) (xs:List α):(lZ fill xs).take xs.length=xs:=by simp[lZ]
def ToR {α:Type} (f:α→VV) (e:Nat) (fill:α) (xs:List α) (bare:Bool) (n:Nat) (r:VV) (L:aA):Prop :=
 (bare=true∧xs=[]∧r = .tree [] .nil∧L=[])∨(r = .ref n 0 0 xs.length (xs.length+room xs.length)∧L=[.row 0 ((lZ fill xs).map f) e true])
theorem ToR.no {α:Type} {f:α→VV} {e:Nat} {fill:α} {xs:List α} {n:Nat} {r:VV} {L:aA} (h:ToR f e fill xs false n r L):r = .ref n 0 0 xs.length (xs.length+room xs.length)∧L=[.row 0 ((lZ fill xs).map f) e true]:=by
 rcases h with h | h
 ·cases h.1
 ·exact h
theorem PS {α:Type} {f:α→VV} {n:Nat} (hf:∀x,jS n (f x)=true) (xs:List α):Ap n (xs.map f)=true:=by
 rw[zA]
 intro x hx
 obtain⟨y,_,rfl⟩:=List.mem_map.1 hx
 exact hf y
end Go.PM
namespace Go.PM
abbrev sV (s:ByteArray):VV := .sc (.string s)
theorem ajF:∀s:ByteArray,(aB (sV s)).length=1:=fun _=>rfl
abbrev gB (xs:List ByteArray):VV:=aC sV xs
theorem jD (xs:List ByteArray):aX (gB xs)=true:=mN ajF fun _=>rfl
def kQ:ByteArray:=⟨#[126,115,112,97,114,101,126]⟩
instance:Inhabited ByteArray:=⟨ByteArray.empty⟩
theorem amM {a b:ByteArray}:(a.toList == b.toList)=decide (a=b):=by
 by_cases h:a=b
 ·subst h;simp
 ·rw[decide_eq_false h,beq_eq_false_iff_ne]
  intro he
  apply h
  obtain⟨⟨x⟩⟩:=a
  obtain⟨⟨y⟩⟩:=b
  rw[ByteArray.toList_eq,ByteArray.toList_eq] at he
  simp at he
  rw[he]
theorem Jf {a b:ByteArray}:dK .neq (.string a) (.string b)=some (.bool (!decide (a=b))):=by
 rw[←amM];rfl
end Go.PM
namespace Go.PM
set_option maxHeartbeats 1000000 in
theorem CE (xs:List ByteArray) (bare:Bool) (hn:xs.length≤1000000000):FC 34 [gB xs,.sc (.bool bare)] (ToR sV 1 kQ xs bare):=by
 refine FC.walk ⟨true,false⟩ KC (aL9 rfl) fun n => ?_
 have hr:=room_le xs.length
 by_cases hb:bare=true∧(xs.length:Int)=0
 ·obtain⟨rfl,h0⟩:=hb
  simp only[vM,sM,h0,VX,Nat.reduceEqDiff,Nat.reduceAdd]
  refine⟨[],by simp,rfl,rfl,.inl ⟨rfl,?_,rfl,rfl⟩⟩
  cases xs with
  | nil=>rfl
  | cons x xs=>simp at h0;omega
 have xD:bare=true→¬(xs.length:Int)=0:=fun h h'=>hb ⟨h,h'⟩
 clear hb
 have w1:IntKind.i64.wrap ((xs.length:Int)+(room xs.length:Int))=((xs.length+room xs.length:Nat):Int):=wrapN _ (by omega) (by omega)
 have em:=oG (H:=aLb n fK.dead) (z:=[.string ⟨#[]⟩]) (bytes:=16) (n:=xs.length+room xs.length) (f:=sV) (x:=⟨#[]⟩) rfl (by omega) (by omega)
 rw[aMa] at em
 have main:∀ρ:cT,ρ 0=gB xs→ρ 5 = .ref n 0 0 (xs.length+room xs.length) (xs.length+room xs.length)→ρ 6=VI 0→∀Q:VQ,
   (∀aP:cT,aP 0=gB xs→aP 5 = .ref n 0 0 (xs.length+room xs.length) (xs.length+room xs.length)→Q (.exit 0) aP (aLb n fK.dead++[.row 0 ((xs++aLb (room xs.length) (⟨#[]⟩:ByteArray)).map sV) 1 true])) →
   VW ⟨true,false⟩ n (.loop qR) Q ρ (aLb n fK.dead++[.row 0 ((aLb (xs.length+room xs.length) (⟨#[]⟩:ByteArray)).map sV) 1 true]):=by
  intro ρ h0 h5 h6 Q hQ
  refine aR (fun(i:Nat) ρ H=>i≤xs.length∧H=aLb n fK.dead++[.row 0 ((xs.take i++aLb (xs.length+room xs.length-i) (⟨#[]⟩:ByteArray)).map sV) 1 true]∧ρ 0=gB xs∧ρ 5 = .ref n 0 0 (xs.length+room xs.length) (xs.length+room xs.length)∧ρ 6=VI i) (fun i=>xs.length-i) 0 ⟨aKP _,by simp,h0,h5,h6⟩ ?_
  rintro i ρ H ⟨hi,rfl,h0,h5,h6⟩
  by_cases bX:(i:Int)<(xs.length:Int)
  ·obtain⟨x,hx⟩:∃x,xs[i]? = some x:=⟨_,aKs (by omega)⟩
   have e1:=aI (f:=sV) (t := .op) (H:=aLb n fK.dead++[.row 0 ((xs.take i++aLb (xs.length+room xs.length-i) (⟨#[]⟩:ByteArray)).map sV) 1 true]) (size:=1) (k := .i64) hx rfl
   have e3:=bA (H:=aLb n fK.dead++[.row 0 ((xs.take i++aLb (xs.length+room xs.length-i) (⟨#[]⟩:ByteArray)).map sV) 1 true]) (b:=n) (g:=0) (o:=0) (n:=xs.length+room xs.length) (c:=xs.length+room xs.length) (i:=i) (k := .i64) Lq (by omega)
   have bF:(xs.take i).length=i:=by simp;omega
   have e4:=dN (H:=aLb n fK.dead++[.row 0 ((xs.take i++aLb (xs.length+room xs.length-i) (⟨#[]⟩:ByteArray)).map sV) 1 true]) (f:=sV) (e:=1) (x:=x) (j:=i) (lo:=n) (b:=n) (g:=0) Lq (by simp;omega) (aKl _) rfl rfl
   have xA:=JB (xs.take i) (xs.length+room xs.length-(i+1)) (⟨#[]⟩:ByteArray) x
   rw[bF,show xs.length+room xs.length-(i+1)+1=xs.length+room xs.length-i by omega] at xA
   have QI:xs.take i++[x]=xs.take (i+1):=by rw[aMb,hx];rfl
   rw[auA,xA,QI] at e4
   have wi:IntKind.i64.wrap ((i:Int)+1)=((i+1:Nat):Int):=wrapN (i+1) (by omega) (by omega)
   simp only[qR,h0,h5,h6,bX,e1,e3,e4,wi,VX,Nat.reduceEqDiff,Nat.reduceAdd]
   exact⟨i+1,by omega,by omega,by (repeat' apply aL1)<;>first | rfl | trivial⟩
  ·have nC:i=xs.length:=by omega
   subst nC
   simp only[qR,h0,h5,h6,bX,VX,Nat.reduceEqDiff,Nat.reduceAdd]
   rw[List.take_length,aMc]
   exact hQ _ h0 h5
 have VZ:∀ρ:cT,ρ 0=gB xs→ρ 5 = .ref n 0 0 (xs.length+room xs.length) (xs.length+room xs.length)→ρ 7=VI xs.length→∀Q:VQ,
   (∀aP:cT,aP 0=gB xs→aP 5 = .ref n 0 0 (xs.length+room xs.length) (xs.length+room xs.length)→Q (.exit 2) aP (aLb n fK.dead++[.row 0 ((lZ kQ xs).map sV) 1 true])) →
   VW ⟨true,false⟩ n (.loop qS) Q ρ (aLb n fK.dead++[.row 0 ((xs++aLb (room xs.length) (⟨#[]⟩:ByteArray)).map sV) 1 true]):=by
  intro ρ h0 h5 h6 Q hQ
  refine aR (fun(j:Nat) ρ H=>j≤room xs.length∧H=aLb n fK.dead++[.row 0 ((xs++aLb j kQ++aLb (room xs.length-j) (⟨#[]⟩:ByteArray)).map sV) 1 true]∧ρ 0=gB xs∧ρ 5 = .ref n 0 0 (xs.length+room xs.length) (xs.length+room xs.length)∧ρ 7=VI (xs.length+j:Nat)) (fun j=>room xs.length-j) 0 ⟨aKP _,by simp,h0,h5,h6⟩ ?_
  rintro j ρ H ⟨hi,rfl,h0,h5,h6⟩
  have el:=eK (H:=aLb n fK.dead++[.row 0 ((xs++aLb j kQ++aLb (room xs.length-j) (⟨#[]⟩:ByteArray)).map sV) 1 true]) (b:=n) (g:=0) (o:=0) (n:=xs.length+room xs.length) (c:=xs.length+room xs.length) Lq
  by_cases bX:((xs.length+j:Nat):Int)<((xs.length+room xs.length:Nat):Int)
  ·have e3:=bA (H:=aLb n fK.dead++[.row 0 ((xs++aLb j kQ++aLb (room xs.length-j) (⟨#[]⟩:ByteArray)).map sV) 1 true]) (b:=n) (g:=0) (o:=0) (n:=xs.length+room xs.length) (c:=xs.length+room xs.length) (i:=xs.length+j) (k := .i64) Lq (by omega)
   have e4:=dN (H:=aLb n fK.dead++[.row 0 ((xs++aLb j kQ++aLb (room xs.length-j) (⟨#[]⟩:ByteArray)).map sV) 1 true]) (f:=sV) (e:=1) (x:=kQ) (j:=xs.length+j) (lo:=n) (b:=n) (g:=0) Lq (by simp;omega) (aKl _) rfl rfl
   have xA:=JB (xs++aLb j kQ) (room xs.length-(j+1)) (⟨#[]⟩:ByteArray) kQ
   rw[show (xs++aLb j kQ).length=xs.length+j by simp,show room xs.length-(j+1)+1=room xs.length-j by omega,show xs++aLb j kQ++[kQ]=xs++aLb (j+1) kQ by rw[aL7,←List.replicate_succ']] at xA
   rw[auA,xA] at e4
   have e4:bK n 1 (.ptr n 0 (xs.length+j) 0) (.sc (.string ⟨#[126,115,112,97,114,101,126]⟩)) _=_:=e4
   have wi:IntKind.i64.wrap (((xs.length+j:Nat):Int)+1)=((xs.length+(j+1):Nat):Int):=wrapN _ (by omega) (by omega)
   simp only[qS,h0,h5,h6,bX,el,e3,e4,wi,VX,Nat.reduceEqDiff,Nat.reduceAdd]
   exact⟨j+1,by omega,by omega,by (repeat' apply aL1)<;>first | rfl | trivial⟩
  ·have nC:j=room xs.length:=by omega
   subst nC
   simp only[qS,h0,h5,h6,bX,el,VX,Nat.reduceEqDiff,Nat.reduceAdd]
   rw[aKE,List.replicate_zero,List.append_nil]
   exact hQ _ h0 h5
 have fin:∀aP:cT,GQ 1 (.ref n 0 0 (xs.length+room xs.length) (xs.length+room xs.length)) none (some (VI xs.length)) none (aLb n fK.dead++[.row 0 ((lZ kQ xs).map sV) 1 true])=some (.ref n 0 0 xs.length (xs.length+room xs.length)):=by
  intro _
  rw[rP Lq (by omega)]
 cases bare with
 |
  true =>
  have Qw:=xD rfl
  simp only[vM,sM,Qw,w1,em,jY,VX,Nat.reduceEqDiff,Nat.reduceAdd]
  refine main _ rfl rfl rfl _ fun aP h0 h5 => ?_
  simp only[h0,h5,VX,Nat.reduceEqDiff,Nat.reduceAdd]
  refine VZ _ (by exact h0) (by exact h5) rfl _ fun BK h0 h5 => ?_
  simp only[h0,h5,fin BK,VX,Nat.reduceEqDiff,Nat.reduceAdd]
  refine⟨_,rfl,by simp[jS],by simp[mX,PS (f:=sV) (fun _=>rfl)],.inr ⟨rfl,rfl⟩⟩
 |
  false =>
  simp only[vM,sM,w1,em,jY,VX,Nat.reduceEqDiff,Nat.reduceAdd]
  refine main _ rfl rfl rfl _ fun aP h0 h5 => ?_
  simp only[h0,h5,VX,Nat.reduceEqDiff,Nat.reduceAdd]
  refine VZ _ (by exact h0) (by exact h5) rfl _ fun BK h0 h5 => ?_
  simp only[h0,h5,fin BK,VX,Nat.reduceEqDiff,Nat.reduceAdd]
  refine⟨_,rfl,by simp[jS],by simp[mX,PS (f:=sV) (fun _=>rfl)],.inr ⟨rfl,rfl⟩⟩
theorem CI (xs ys:List ByteArray) (hn:xs.length≤1000000000):TC 100 [gB xs,gB ys] (.sc (.bool (decide (xs=ys)))):=by
 refine TC.walk ⟨true,false⟩ K5 rfl (aL9 rfl) (by simp[aO,jD]) rfl ?_
 by_cases hl:(xs.length:Int)=(ys.length:Int)
 ·simp only[Bz,xL,hl,VX,Nat.reduceEqDiff,Nat.reduceAdd]
  refine aR (fun(i:Nat) ρ H=>i≤xs.length∧H=[]∧xs.take i=ys.take i∧ρ 0=gB xs∧ρ 1=gB ys∧ρ 5=VI i) (fun i=>xs.length-i) 0 ⟨aKP _,rfl,by simp,rfl,rfl,rfl⟩ ?_
  rintro i ρ H ⟨hi,rfl,ht,h0,h1,h5⟩
  by_cases bX:(i:Int)<(xs.length:Int)
  ·obtain⟨x,hx⟩:∃x,xs[i]? = some x:=⟨_,aKs (by omega)⟩
   obtain⟨y,hy⟩:∃y,ys[i]? = some y:=⟨_,aKs (by omega)⟩
   have e1:=aI (f:=sV) (t := .op) (H:=[]) (size:=1) (k := .i64) hx rfl
   have e2:=aI (f:=sV) (t := .op) (H:=[]) (size:=1) (k := .i64) hy rfl
   have wi:IntKind.i64.wrap ((i:Int)+1)=((i+1:Nat):Int):=wrapN (i+1) (by omega) (by omega)
   by_cases CB:x=y
   ·simp only[qU,Jf,h0,h1,h5,bX,e1,e2,CB,wi,VX,Nat.reduceEqDiff,Nat.reduceAdd]
    refine⟨i+1,by omega,by omega,?_⟩
    rw[aMb,aMb,hx,hy,ht,CB]
    (repeat' apply aL1)<;>first | rfl | trivial
   ·simp only[qU,Jf,h0,h1,h5,bX,e1,e2,CB,VX,Nat.reduceEqDiff,Nat.reduceAdd]
    have:¬xs=ys:=fun h=>CB (by rw[h,hy] at hx;injection hx with hx;exact hx.symm)
    simp only[this,decide_false]
    exact aH rfl
  ·simp only[qU,h0,h1,h5,bX,VX,Nat.reduceEqDiff,Nat.reduceAdd]
   have:xs=ys:=by
    rw[aLe (by omega),aLe (by omega)] at ht
    exact ht
   simp only[this,decide_true]
   exact aH rfl
 ·simp only[Bz,xL,hl,VX,Nat.reduceEqDiff,Nat.reduceAdd]
  have:¬xs=ys:=fun h=>hl (by rw[h])
  simp only[this,decide_false]
  exact aH rfl
theorem sC {lo b b':Nat} {H:aA} (xs:List ByteArray) (hn:xs.length≤400000000) (hX:aG H b 0=some ((lZ kQ xs).map sV,1,true)) (hY:aG H b' 0=some ((lZ kQ xs).map sV,1,true)) {K:VV→aA→Prop} (hk:K (.sc (.bool true)) H) :
  dH 36 [.ref b 0 0 xs.length (xs.length+room xs.length),.ref b' 0 0 xs.length (xs.length+room xs.length)] lo H K:=by
 refine fS rfl (jA.walk ⟨true,false⟩ F5 (aL9 rfl) ?_)
 have hr:=room_le xs.length
 have hf:=UZ kQ xs
 have w1:IntKind.i64.wrap ((xs.length:Int)+(room xs.length:Int))=((xs.length+room xs.length:Nat):Int):=wrapN _ (by omega) (by omega)
 have l1:=eK (o:=0) (n:=xs.length) (c:=xs.length+room xs.length) hX
 have l2:=eK (o:=0) (n:=xs.length) (c:=xs.length+room xs.length) hY
 have e1:=rP (o:=0) (n:=xs.length) (c:=xs.length+room xs.length) (h:=xs.length+room xs.length) (k2 := .i64) hX (aKl _)
 have e2:=rP (o:=0) (n:=xs.length) (c:=xs.length+room xs.length) (h:=xs.length+room xs.length) (k2 := .i64) hY (aKl _)
 have f1:fz depth H (.ref b 0 0 (xs.length+room xs.length) (xs.length+room xs.length))=some (gB (lZ kQ xs)):=HN hX (by simp[hf]) (aKl _) (fM fun _=>rfl)
 have f2:fz depth H (.ref b' 0 0 (xs.length+room xs.length) (xs.length+room xs.length))=some (gB (lZ kQ xs)):=HN hY (by simp[hf]) (aKl _) (fM fun _=>rfl)
 have e3:=(CI (lZ kQ xs) (lZ kQ xs) (by omega)).flat (H:=H) rfl (by simp[aO,jD]) (fz2 f1 f2) rfl
 simp only[Bl,zN,jY,l1,l2,w1,e1,e2,e3,eq_self,VX,Nat.reduceEqDiff,Nat.reduceAdd]
 exact hk
end Go.PM
namespace Go.PM
end Go.PM
namespace Go.PM
end Go.PM
namespace Go.PM
end Go.PM
namespace Go.PM
theorem gP {H L:aA} {b g:Nat} {x:List VV×Nat×Bool} (h:aG H b g=some x):aG (H++L) b g=some x:=by
 obtain⟨es,e,w⟩:=x
 rw[cH] at h ⊢
 rw[List.getElem?_append_left (aKk.1 h).1]
 exact h
theorem FF {H L:aA} {i g e:Nat} {es:List VV} {w:Bool} (h:L[i]? = some (.row g es e w)):aG (H++L) (H.length+i) g=some (es,e,w):=by
 rw[cH,aKD (aMd _ _),aMc]
 exact h
theorem bC {H:aA} {b b' g:Nat} {x:fK} {y:List VV×Nat×Bool} (hn:b'≠b) (h:aG H b g=some y):aG (H.set b' x) b g=some y:=by
 obtain⟨es,e,w⟩:=y
 rw[cH] at h ⊢
 rw[List.getElem?_set_ne hn]
 exact h
theorem cA {H:aA} {b g e:Nat} {es:List VV} {w:Bool} {y:List VV×Nat×Bool} {g':Nat} (h:aG H b g'=some y):aG (H.set b (.row g es e w)) b g=some (es,e,w):=by
 obtain⟨pJ,e',w'⟩:=y
 rw[cH] at h ⊢
 rw[List.getElem?_set_self (aKk.1 h).1]
theorem kW {H:aA} {b g:Nat} {x:List VV×Nat×Bool} (h:aG H b g=some x):b<H.length:=by
 obtain⟨es,e,w⟩:=x
 exact(aKk.1 (cH.1 h)).1
end Go.PM
namespace Go.PM
def iD:aE:=(LS [LO 4 (.mv LF)] (LS [LM 5 0,LM 6 1,LO 7 (.call 141 [(LT 5),(LT 6)]),LO 8 (.bin .geq (LT 7) (LI 0)),LM 4 8] .ret))
def iW:aU:=⟨9,[(.tmp 4)],iD⟩
theorem oZ:fQ 66=some iW:=by kernel_rfl
def jF:aE:=(LS [LO 4 (.mv LF)] (LS [LM 5 0,LM 6 1,LO 7 (.call 213 [(LT 5),(LT 6)]),LO 8 (.bin .geq (LT 7) (LI 0)),LM 4 8] .ret))
def kM:aU:=⟨9,[(.tmp 4)],jF⟩
theorem yH:fQ 194=some kM:=by kernel_rfl
def fC:aE:=(.seq (LS [LM 34 8,LM 35 7,LO 36 (.len (LT 35)),LO 37 (.bin .lss (LT 34) (LT 36))] (.cond (LT 37) .skip (.exit 0))) (.block 1 (.cV [LM 38 8,LM 39 7,LM 40 8,LO 41 (.sub 3 (LT 39) (some (LT 40)) none none),LM 42 7,LM 43 8,LO 44 (.sub 3 (LT 42) none (some (LT 43)) none),LO 45 (.copy 3 (LT 41) (LT 44)),LO 46 (.bin .add (LT 38) (LT 45)),LM 8 46])))
def kR:aE:=(LS [LO 4 (.mv (.const (.slice none 0 0)))] (.seq (LS [LM 9 1,LO 10 (.bin .lss (LT 9) (LI 0))] (.cond (LT 10) (.cV [LO 11 .die,LN .die]) .skip)) (LS [LM 13 0,LO 14 (.len (LT 13)),LO 15 (.cvt .u64 (LT 14)),LM 16 1,LO 17 (.cvt .u64 (LT 16)),LO 18 (.call 187 [(LT 15),(LT 17)]),LM 12 18,LO 19 (LX 12 0),LO 20 (LX 12 1),LM 5 19,LM 6 20] (.seq (LS [LM 21 5,LO 22 (.bin .gtr (LT 21) (.const (.int .u64 0))),LM 23 22,LZ 23 24 (.mv (LT 6)),LZ 23 25 (.bin .gtr (LT 24) (.const (.int .u64 9223372036854775807))),LO 26 (.pick (LT 23) LG (LT 25))] (.cond (LT 26) (.cV [LO 27 .die,LN .die]) .skip)) (LS [LM 28 6,LO 29 (.cvt .i64 (LT 28)),LO 30 (.make [(.bool false),(.slice none 0 0),(.slice none 0 0)] 56 (LT 29) (LT 29)),LM 7 30] (LS [LM 31 7,LM 32 0,LO 33 (.copy 3 (LT 31) (LT 32)),LM 8 33] (.seq (.block 0 (.loop fC)) (LS [LM 47 7,LM 4 47] .ret))))))))
def lL:aU:=⟨48,[(.tmp 4)],kR⟩
theorem tF:fQ 162=some lL:=by kernel_rfl
def cS:aE:=(LS [LO 9 (.bin .lss (LT 8) (LT 7))] (.seq (.cond (LT 9) .skip (.exit 0)) (.seq (.block 1 (LS [LM 10 8,LM 5 10] (LS [LM 11 1,LM 12 0,LM 13 5,LO 14 (.iaddr 3 (LT 12) (LT 13)),LO 15 (LK 14),LO 16 (.callv (LT 11) [(LT 15)])] (.cond (LT 16) (LS [LM 17 5,LM 4 17] .ret) .skip)))) (.cV [LO 18 (.bin .add (LT 8) (LI 1)),LM 8 18]))))
def jH:aE:=(LS [LO 4 (.mv (LI 0))] (.seq (LS [LM 6 0,LO 7 (.len (LT 6)),LO 8 (.mv (LI 0))] (.block 0 (.loop cS))) (LS [LO 4 (.mv (LI (-1)))] .ret)))
def jZ:aU:=⟨19,[(.tmp 4)],jH⟩
theorem qX:fQ 141=some jZ:=by kernel_rfl
def gH:aE:=(LS [LO 9 (.bin .lss (LT 8) (LT 7))] (.seq (.cond (LT 9) .skip (.exit 0)) (.seq (.block 1 (LS [LM 10 8,LM 5 10] (LS [LM 11 1,LM 12 0,LM 13 5,LO 14 (.iaddr 1 (LT 12) (LT 13)),LO 15 (LL 14),LO 16 (.eqb false (LT 11) (LT 15))] (.cond (LT 16) (LS [LM 17 5,LM 4 17] .ret) .skip)))) (.cV [LO 18 (.bin .add (LT 8) (LI 1)),LM 8 18]))))
def qP:aE:=(LS [LO 4 (.mv (LI 0))] (.seq (LS [LM 6 0,LO 7 (.len (LT 6)),LO 8 (.mv (LI 0))] (.block 0 (.loop gH))) (LS [LO 4 (.mv (LI (-1)))] .ret)))
def sZ:aU:=⟨19,[(.tmp 4)],qP⟩
theorem AA:fQ 213=some sZ:=by kernel_rfl
def Em:aE:=(LS [LO 4 (.mv (.const (.int .u64 0))),LO 5 (.mv (.const (.int .u64 0)))] (.seq (.cond LF (LS [LM 11 0,LO 12 (.cvt .u32 (LT 11)),LM 13 1,LO 14 (.cvt .u32 (LT 13)),LO 15 (.call 206 [(LT 12),(LT 14)]),LM 10 15,LO 16 (LX 10 0),LO 17 (LX 10 1),LM 6 16,LM 7 17] (LS [LM 18 6,LO 19 (.cvt .u64 (LT 18)),LM 20 7,LO 21 (.cvt .u64 (LT 20)),LM 4 19,LM 5 21] .ret)) .skip) (LS [LM 23 0,LM 24 1,LO 25 (.call 207 [(LT 23),(LT 24)]),LM 22 25,LO 26 (LX 22 0),LO 27 (LX 22 1),LM 8 26,LM 9 27] (LS [LM 28 8,LM 29 9,LM 4 28,LM 5 29] .ret))))
def Hl:aU:=⟨30,[(.tmp 4),(.tmp 5)],Em⟩
theorem MI:fQ 187=some Hl:=by kernel_rfl
def Hk:aE:=(LS [LO 4 (.mv (.const (.string ⟨#[]⟩))),LO 5 (.mv (.const (.string ⟨#[]⟩))),LO 6 (.mv LF)] (LS [LM 7 0,LM 8 1,LO 9 (.call 190 [(LT 7),(LT 8)]),LO 10 (LX 9 0),LO 11 (LX 9 1),LO 12 (LX 9 2),LM 4 10,LM 5 11,LM 6 12] .ret))
def Mv:aU:=⟨13,[(.tmp 4),(.tmp 5),(.tmp 6)],Hk⟩
theorem Ql:fQ 172=some Mv:=by kernel_rfl
def Al:aE:=(LS [LO 4 (.mv (.const (.string ⟨#[]⟩))),LO 5 (.mv LF)] (LS [LM 6 0,LM 7 1,LO 8 (.call 191 [(LT 6),(LT 7)]),LO 9 (LX 8 0),LO 10 (LX 8 1),LM 4 9,LM 5 10] .ret))
def B7:aU:=⟨11,[(.tmp 4),(.tmp 5)],Al⟩
theorem GX:fQ 173=some B7:=by kernel_rfl
def gN:aE:=(.seq (LS [LM 7 2,LM 8 3,LO 9 (.bin .lss (LT 7) (LT 8))] (.cond (LT 9) .skip (.exit 0))) (.seq (.block 1 (.cV [LM 14 0,LM 15 2,LM 16 0,LM 17 3,LM 18 0,LM 19 3,LO 20 (.iaddr 1 (LT 18) (LT 19)),LO 21 (LL 20),LM 22 0,LM 23 2,LO 24 (.iaddr 1 (LT 22) (LT 23)),LO 25 (LL 24),LO 26 (.iaddr 1 (LT 14) (LT 15)),LN (.store 1 (LT 26) (LT 21)),LO 27 (.iaddr 1 (LT 16) (LT 17)),LN (.store 1 (LT 27) (LT 25))])) (.cV [LM 10 2,LO 11 (.bin .add (LT 10) (LI 1)),LM 12 3,LO 13 (.bin .sub (LT 12) (LI 1)),LM 2 11,LM 3 13])))
def mC:aE:=(LS [LM 4 0,LO 5 (.len (LT 4)),LO 6 (.bin .sub (LT 5) (LI 1)),LO 2 (.mv (LI 0)),LM 3 6] (.block 0 (.loop gN)))
def nG:aU:=⟨28,[],mC⟩
theorem vG:fQ 216=some nG:=by kernel_rfl
def Cb:aE:=(LS [LO 4 (.mv (.const (.int .u64 0))),LO 5 (.mv (.const (.int .u64 0)))] (LS [LM 14 0,LO 15 (.bin .and (LT 14) (.const (.int .u64 4294967295))),LM 6 15] (LS [LM 16 0,LO 17 (.bin .shr (LT 16) (.const (.int .u64 32))),LM 7 17] (LS [LM 18 1,LO 19 (.bin .and (LT 18) (.const (.int .u64 4294967295))),LM 8 19] (LS [LM 20 1,LO 21 (.bin .shr (LT 20) (.const (.int .u64 32))),LM 9 21] (LS [LM 22 6,LM 23 8,LO 24 (.bin .mul (LT 22) (LT 23)),LM 10 24] (LS [LM 25 7,LM 26 8,LO 27 (.bin .mul (LT 25) (LT 26)),LM 28 10,LO 29 (.bin .shr (LT 28) (.const (.int .u64 32))),LO 30 (.bin .add (LT 27) (LT 29)),LM 11 30] (LS [LM 31 11,LO 32 (.bin .and (LT 31) (.const (.int .u64 4294967295))),LM 12 32] (LS [LM 33 11,LO 34 (.bin .shr (LT 33) (.const (.int .u64 32))),LM 13 34] (LS [LM 35 12,LM 36 6,LM 37 9,LO 38 (.bin .mul (LT 36) (LT 37)),LO 39 (.bin .add (LT 35) (LT 38)),LM 12 39] (LS [LM 40 7,LM 41 9,LO 42 (.bin .mul (LT 40) (LT 41)),LM 43 13,LO 44 (.bin .add (LT 42) (LT 43)),LM 45 12,LO 46 (.bin .shr (LT 45) (.const (.int .u64 32))),LO 47 (.bin .add (LT 44) (LT 46)),LM 4 47] (LS [LM 48 0,LM 49 1,LO 50 (.bin .mul (LT 48) (LT 49)),LM 5 50] .ret))))))))))))
def Eo:aU:=⟨51,[(.tmp 4),(.tmp 5)],Cb⟩
theorem IX:fQ 207=some Eo:=by kernel_rfl
def lO:aE:=(LS [LO 4 (.mv (.const (.string ⟨#[]⟩))),LO 5 (.mv (.const (.string ⟨#[]⟩))),LO 6 (.mv LF)] (.seq (LS [LM 8 0,LM 9 1,LO 10 (.call 209 [(LT 8),(LT 9)]),LM 7 10] (LS [LM 11 7,LO 12 (.bin .geq (LT 11) (LI 0))] (.cond (LT 12) (LS [LM 13 0,LM 14 7,LO 15 (.ssub (LT 13) none (some (LT 14))),LM 16 0,LM 17 7,LM 18 1,LO 19 (.slen (LT 18)),LO 20 (.bin .add (LT 17) (LT 19)),LO 21 (.ssub (LT 16) (some (LT 20)) none),LM 4 15,LM 5 21,LO 6 (.mv LG)] .ret) .skip))) (LS [LM 22 0,LM 4 22,LO 5 (.mv (.const (.string ⟨#[]⟩))),LO 6 (.mv LF)] .ret)))
def nA:aU:=⟨23,[(.tmp 4),(.tmp 5),(.tmp 6)],lO⟩
theorem Br:fQ 190=some nA:=by kernel_rfl
def iJ:aE:=(LS [LO 4 (.mv (.const (.string ⟨#[]⟩))),LO 5 (.mv LF)] (.seq (LS [LM 6 0,LM 7 1,LO 8 (.call 210 [(LT 6),(LT 7)]),LO 9 (.un .not (LT 8))] (.cond (LT 9) (LS [LM 10 0,LM 4 10,LO 5 (.mv LF)] .ret) .skip)) (LS [LM 11 0,LM 12 1,LO 13 (.slen (LT 12)),LO 14 (.ssub (LT 11) (some (LT 13)) none),LM 4 14,LO 5 (.mv LG)] .ret)))
def jB:aU:=⟨15,[(.tmp 4),(.tmp 5)],iJ⟩
theorem wS:fQ 191=some jB:=by kernel_rfl
def iK:aE:=(LS [LO 4 (.mv LF)] (LS [LM 5 0,LO 6 (.slen (LT 5)),LM 7 1,LO 8 (.slen (LT 7)),LO 9 (.bin .geq (LT 6) (LT 8)),LM 10 9,LY 10 11 (.mv (LT 0)),LY 10 12 (.mv (LT 1)),LY 10 13 (.slen (LT 12)),LY 10 14 (.ssub (LT 11) none (some (LT 13))),LY 10 15 (.mv (LT 1)),LY 10 16 (.bin .eql (LT 14) (LT 15)),LO 17 (.pick (LT 10) (LT 16) LF),LM 4 17] .ret))
def jE:aU:=⟨18,[(.tmp 4)],iK⟩
theorem vO:fQ 210=some jE:=by kernel_rfl
def Cs:aE:=(LS [LO 2 (.mv (.const (.string ⟨#[]⟩)))] (.seq (LS [LM 3 0,LO 4 (.bin .lss (LT 3) (LI 10))] (.cond (LT 4) (LS [LM 5 0,LM 6 0,LO 7 (.bin .add (LT 6) (LI 1)),LO 8 (.ssub (.const (.string ⟨#[48,49,50,51,52,53,54,55,56,57,97,98,99,100,101,102,103,104,105,106,107,108,109,110,111,112,113,114,115,116,117,118,119,120,121,122]⟩)) (some (LT 5)) (some (LT 7))),LM 2 8] .ret) .skip)) (LS [LM 9 0,LO 10 (.bin .mul (LT 9) (LI 2)),LM 11 0,LO 12 (.bin .mul (LT 11) (LI 2)),LO 13 (.bin .add (LT 12) (LI 2)),LO 14 (.ssub (.const (.string ⟨#[48,48,48,49,48,50,48,51,48,52,48,53,48,54,48,55,48,56,48,57,49,48,49,49,49,50,49,51,49,52,49,53,49,54,49,55,49,56,49,57,50,48,50,49,50,50,50,51,50,52,50,53,50,54,50,55,50,56,50,57,51,48,51,49,51,50,51,51,51,52,51,53,51,54,51,55,51,56,51,57,52,48,52,49,52,50,52,51,52,52,52,53,52,54,52,55,52,56,52,57,53,48,53,49,53,50,53,51,53,52,53,53,53,54,53,55,53,56,53,57,54,48,54,49,54,50,54,51,54,52,54,53,54,54,54,55,54,56,54,57,55,48,55,49,55,50,55,51,55,52,55,53,55,54,55,55,55,56,55,57,56,48,56,49,56,50,56,51,56,52,56,53,56,54,56,55,56,56,56,57,57,48,57,49,57,50,57,51,57,52,57,53,57,54,57,55,57,56,57,57]⟩)) (some (LT 10)) (some (LT 13))),LM 2 14] .ret)))
def internal_strconv_small:aU:=⟨15,[(.tmp 2)],Cs⟩
def vR:aE:=(.seq (LS [LM 19 4,LO 20 (.bin .geq (LT 19) (LI 8))] (.cond (LT 20) .skip (.exit 0))) (.block 1 (LS [LM 21 1,LO 22 (.bin .rem (LT 21) (.const (.int .u64 100000000))),LO 23 (.cvt .u32 (LT 22)),LM 5 23] (LS [LM 24 1,LO 25 (.bin .quo (LT 24) (.const (.int .u64 100000000))),LM 1 25] (LS [LM 26 5,LO 27 (.bin .quo (LT 26) (.const (.int .u32 10000))),LM 28 5,LO 29 (.bin .rem (LT 28) (.const (.int .u32 10000))),LM 6 27,LM 7 29] (LS [LM 30 7,LO 31 (.bin .quo (LT 30) (.const (.int .u32 100))),LO 32 (.bin .mul (LT 31) (.const (.int .u32 2))),LM 33 7,LO 34 (.bin .rem (LT 33) (.const (.int .u32 100))),LO 35 (.bin .mul (LT 34) (.const (.int .u32 2))),LM 8 32,LM 9 35] (LS [LM 36 6,LO 37 (.bin .quo (LT 36) (.const (.int .u32 100))),LO 38 (.bin .mul (LT 37) (.const (.int .u32 2))),LM 39 6,LO 40 (.bin .rem (LT 39) (.const (.int .u32 100))),LO 41 (.bin .mul (LT 40) (.const (.int .u32 2))),LM 10 38,LM 11 41] (LS [LM 42 0,LM 43 4,LO 44 (.bin .sub (LT 43) (LI 1)),LM 45 0,LM 46 4,LO 47 (.bin .sub (LT 46) (LI 2)),LM 48 9,LO 49 (.bin .add (LT 48) (.const (.int .u32 1))),LO 50 (.sidx (.const (.string ⟨#[48,48,48,49,48,50,48,51,48,52,48,53,48,54,48,55,48,56,48,57,49,48,49,49,49,50,49,51,49,52,49,53,49,54,49,55,49,56,49,57,50,48,50,49,50,50,50,51,50,52,50,53,50,54,50,55,50,56,50,57,51,48,51,49,51,50,51,51,51,52,51,53,51,54,51,55,51,56,51,57,52,48,52,49,52,50,52,51,52,52,52,53,52,54,52,55,52,56,52,57,53,48,53,49,53,50,53,51,53,52,53,53,53,54,53,55,53,56,53,57,54,48,54,49,54,50,54,51,54,52,54,53,54,54,54,55,54,56,54,57,55,48,55,49,55,50,55,51,55,52,55,53,55,54,55,55,55,56,55,57,56,48,56,49,56,50,56,51,56,52,56,53,56,54,56,55,56,56,56,57,57,48,57,49,57,50,57,51,57,52,57,53,57,54,57,55,57,56,57,57]⟩)) (LT 49)),LM 51 9,LO 52 (.sidx (.const (.string ⟨#[48,48,48,49,48,50,48,51,48,52,48,53,48,54,48,55,48,56,48,57,49,48,49,49,49,50,49,51,49,52,49,53,49,54,49,55,49,56,49,57,50,48,50,49,50,50,50,51,50,52,50,53,50,54,50,55,50,56,50,57,51,48,51,49,51,50,51,51,51,52,51,53,51,54,51,55,51,56,51,57,52,48,52,49,52,50,52,51,52,52,52,53,52,54,52,55,52,56,52,57,53,48,53,49,53,50,53,51,53,52,53,53,53,54,53,55,53,56,53,57,54,48,54,49,54,50,54,51,54,52,54,53,54,54,54,55,54,56,54,57,55,48,55,49,55,50,55,51,55,52,55,53,55,54,55,55,55,56,55,57,56,48,56,49,56,50,56,51,56,52,56,53,56,54,56,55,56,56,56,57,57,48,57,49,57,50,57,51,57,52,57,53,57,54,57,55,57,56,57,57]⟩)) (LT 51)),LO 53 (.iaddr 1 (LT 42) (LT 44)),LN (.store 1 (LT 53) (LT 50)),LO 54 (.iaddr 1 (LT 45) (LT 47)),LN (.store 1 (LT 54) (LT 52))] (LS [LM 55 0,LM 56 4,LO 57 (.bin .sub (LT 56) (LI 3)),LM 58 0,LM 59 4,LO 60 (.bin .sub (LT 59) (LI 4)),LM 61 8,LO 62 (.bin .add (LT 61) (.const (.int .u32 1))),LO 63 (.sidx (.const (.string ⟨#[48,48,48,49,48,50,48,51,48,52,48,53,48,54,48,55,48,56,48,57,49,48,49,49,49,50,49,51,49,52,49,53,49,54,49,55,49,56,49,57,50,48,50,49,50,50,50,51,50,52,50,53,50,54,50,55,50,56,50,57,51,48,51,49,51,50,51,51,51,52,51,53,51,54,51,55,51,56,51,57,52,48,52,49,52,50,52,51,52,52,52,53,52,54,52,55,52,56,52,57,53,48,53,49,53,50,53,51,53,52,53,53,53,54,53,55,53,56,53,57,54,48,54,49,54,50,54,51,54,52,54,53,54,54,54,55,54,56,54,57,55,48,55,49,55,50,55,51,55,52,55,53,55,54,55,55,55,56,55,57,56,48,56,49,56,50,56,51,56,52,56,53,56,54,56,55,56,56,56,57,57,48,57,49,57,50,57,51,57,52,57,53,57,54,57,55,57,56,57,57]⟩)) (LT 62)),LM 64 8,LO 65 (.sidx (.const (.string ⟨#[48,48,48,49,48,50,48,51,48,52,48,53,48,54,48,55,48,56,48,57,49,48,49,49,49,50,49,51,49,52,49,53,49,54,49,55,49,56,49,57,50,48,50,49,50,50,50,51,50,52,50,53,50,54,50,55,50,56,50,57,51,48,51,49,51,50,51,51,51,52,51,53,51,54,51,55,51,56,51,57,52,48,52,49,52,50,52,51,52,52,52,53,52,54,52,55,52,56,52,57,53,48,53,49,53,50,53,51,53,52,53,53,53,54,53,55,53,56,53,57,54,48,54,49,54,50,54,51,54,52,54,53,54,54,54,55,54,56,54,57,55,48,55,49,55,50,55,51,55,52,55,53,55,54,55,55,55,56,55,57,56,48,56,49,56,50,56,51,56,52,56,53,56,54,56,55,56,56,56,57,57,48,57,49,57,50,57,51,57,52,57,53,57,54,57,55,57,56,57,57]⟩)) (LT 64)),LO 66 (.iaddr 1 (LT 55) (LT 57)),LN (.store 1 (LT 66) (LT 63)),LO 67 (.iaddr 1 (LT 58) (LT 60)),LN (.store 1 (LT 67) (LT 65))] (LS [LM 68 0,LM 69 4,LO 70 (.bin .sub (LT 69) (LI 5)),LM 71 0,LM 72 4,LO 73 (.bin .sub (LT 72) (LI 6)),LM 74 11,LO 75 (.bin .add (LT 74) (.const (.int .u32 1))),LO 76 (.sidx (.const (.string ⟨#[48,48,48,49,48,50,48,51,48,52,48,53,48,54,48,55,48,56,48,57,49,48,49,49,49,50,49,51,49,52,49,53,49,54,49,55,49,56,49,57,50,48,50,49,50,50,50,51,50,52,50,53,50,54,50,55,50,56,50,57,51,48,51,49,51,50,51,51,51,52,51,53,51,54,51,55,51,56,51,57,52,48,52,49,52,50,52,51,52,52,52,53,52,54,52,55,52,56,52,57,53,48,53,49,53,50,53,51,53,52,53,53,53,54,53,55,53,56,53,57,54,48,54,49,54,50,54,51,54,52,54,53,54,54,54,55,54,56,54,57,55,48,55,49,55,50,55,51,55,52,55,53,55,54,55,55,55,56,55,57,56,48,56,49,56,50,56,51,56,52,56,53,56,54,56,55,56,56,56,57,57,48,57,49,57,50,57,51,57,52,57,53,57,54,57,55,57,56,57,57]⟩)) (LT 75)),LM 77 11,LO 78 (.sidx (.const (.string ⟨#[48,48,48,49,48,50,48,51,48,52,48,53,48,54,48,55,48,56,48,57,49,48,49,49,49,50,49,51,49,52,49,53,49,54,49,55,49,56,49,57,50,48,50,49,50,50,50,51,50,52,50,53,50,54,50,55,50,56,50,57,51,48,51,49,51,50,51,51,51,52,51,53,51,54,51,55,51,56,51,57,52,48,52,49,52,50,52,51,52,52,52,53,52,54,52,55,52,56,52,57,53,48,53,49,53,50,53,51,53,52,53,53,53,54,53,55,53,56,53,57,54,48,54,49,54,50,54,51,54,52,54,53,54,54,54,55,54,56,54,57,55,48,55,49,55,50,55,51,55,52,55,53,55,54,55,55,55,56,55,57,56,48,56,49,56,50,56,51,56,52,56,53,56,54,56,55,56,56,56,57,57,48,57,49,57,50,57,51,57,52,57,53,57,54,57,55,57,56,57,57]⟩)) (LT 77)),LO 79 (.iaddr 1 (LT 68) (LT 70)),LN (.store 1 (LT 79) (LT 76)),LO 80 (.iaddr 1 (LT 71) (LT 73)),LN (.store 1 (LT 80) (LT 78))] (LS [LM 81 0,LM 82 4,LO 83 (.bin .sub (LT 82) (LI 7)),LM 84 0,LM 85 4,LO 86 (.bin .sub (LT 85) (LI 8)),LM 87 10,LO 88 (.bin .add (LT 87) (.const (.int .u32 1))),LO 89 (.sidx (.const (.string ⟨#[48,48,48,49,48,50,48,51,48,52,48,53,48,54,48,55,48,56,48,57,49,48,49,49,49,50,49,51,49,52,49,53,49,54,49,55,49,56,49,57,50,48,50,49,50,50,50,51,50,52,50,53,50,54,50,55,50,56,50,57,51,48,51,49,51,50,51,51,51,52,51,53,51,54,51,55,51,56,51,57,52,48,52,49,52,50,52,51,52,52,52,53,52,54,52,55,52,56,52,57,53,48,53,49,53,50,53,51,53,52,53,53,53,54,53,55,53,56,53,57,54,48,54,49,54,50,54,51,54,52,54,53,54,54,54,55,54,56,54,57,55,48,55,49,55,50,55,51,55,52,55,53,55,54,55,55,55,56,55,57,56,48,56,49,56,50,56,51,56,52,56,53,56,54,56,55,56,56,56,57,57,48,57,49,57,50,57,51,57,52,57,53,57,54,57,55,57,56,57,57]⟩)) (LT 88)),LM 90 10,LO 91 (.sidx (.const (.string ⟨#[48,48,48,49,48,50,48,51,48,52,48,53,48,54,48,55,48,56,48,57,49,48,49,49,49,50,49,51,49,52,49,53,49,54,49,55,49,56,49,57,50,48,50,49,50,50,50,51,50,52,50,53,50,54,50,55,50,56,50,57,51,48,51,49,51,50,51,51,51,52,51,53,51,54,51,55,51,56,51,57,52,48,52,49,52,50,52,51,52,52,52,53,52,54,52,55,52,56,52,57,53,48,53,49,53,50,53,51,53,52,53,53,53,54,53,55,53,56,53,57,54,48,54,49,54,50,54,51,54,52,54,53,54,54,54,55,54,56,54,57,55,48,55,49,55,50,55,51,55,52,55,53,55,54,55,55,55,56,55,57,56,48,56,49,56,50,56,51,56,52,56,53,56,54,56,55,56,56,56,57,57,48,57,49,57,50,57,51,57,52,57,53,57,54,57,55,57,56,57,57]⟩)) (LT 90)),LO 92 (.iaddr 1 (LT 81) (LT 83)),LN (.store 1 (LT 92) (LT 89)),LO 93 (.iaddr 1 (LT 84) (LT 86)),LN (.store 1 (LT 93) (LT 91))] (.cV [LM 94 4,LO 95 (.bin .sub (LT 94) (LI 8)),LM 4 95]))))))))))))
def wZ:aE:=(LS [LM 17 0,LO 18 (.len (LT 17)),LM 4 18] (.seq (.block 0 (.loop vR)) (LS [LM 96 1,LO 97 (.cvt .u32 (LT 96)),LM 12 97] (.seq (LS [LM 98 4,LO 99 (.bin .geq (LT 98) (LI 4))] (.cond (LT 99) (LS [LM 100 12,LO 101 (.bin .rem (LT 100) (.const (.int .u32 10000))),LM 13 101] (LS [LM 102 12,LO 103 (.bin .quo (LT 102) (.const (.int .u32 10000))),LM 12 103] (LS [LM 104 13,LO 105 (.bin .quo (LT 104) (.const (.int .u32 100))),LO 106 (.bin .mul (LT 105) (.const (.int .u32 2))),LM 107 13,LO 108 (.bin .rem (LT 107) (.const (.int .u32 100))),LO 109 (.bin .mul (LT 108) (.const (.int .u32 2))),LM 14 106,LM 15 109] (LS [LM 110 0,LM 111 4,LO 112 (.bin .sub (LT 111) (LI 1)),LM 113 0,LM 114 4,LO 115 (.bin .sub (LT 114) (LI 2)),LM 116 15,LO 117 (.bin .add (LT 116) (.const (.int .u32 1))),LO 118 (.sidx (.const (.string ⟨#[48,48,48,49,48,50,48,51,48,52,48,53,48,54,48,55,48,56,48,57,49,48,49,49,49,50,49,51,49,52,49,53,49,54,49,55,49,56,49,57,50,48,50,49,50,50,50,51,50,52,50,53,50,54,50,55,50,56,50,57,51,48,51,49,51,50,51,51,51,52,51,53,51,54,51,55,51,56,51,57,52,48,52,49,52,50,52,51,52,52,52,53,52,54,52,55,52,56,52,57,53,48,53,49,53,50,53,51,53,52,53,53,53,54,53,55,53,56,53,57,54,48,54,49,54,50,54,51,54,52,54,53,54,54,54,55,54,56,54,57,55,48,55,49,55,50,55,51,55,52,55,53,55,54,55,55,55,56,55,57,56,48,56,49,56,50,56,51,56,52,56,53,56,54,56,55,56,56,56,57,57,48,57,49,57,50,57,51,57,52,57,53,57,54,57,55,57,56,57,57]⟩)) (LT 117)),LM 119 15,LO 120 (.sidx (.const (.string ⟨#[48,48,48,49,48,50,48,51,48,52,48,53,48,54,48,55,48,56,48,57,49,48,49,49,49,50,49,51,49,52,49,53,49,54,49,55,49,56,49,57,50,48,50,49,50,50,50,51,50,52,50,53,50,54,50,55,50,56,50,57,51,48,51,49,51,50,51,51,51,52,51,53,51,54,51,55,51,56,51,57,52,48,52,49,52,50,52,51,52,52,52,53,52,54,52,55,52,56,52,57,53,48,53,49,53,50,53,51,53,52,53,53,53,54,53,55,53,56,53,57,54,48,54,49,54,50,54,51,54,52,54,53,54,54,54,55,54,56,54,57,55,48,55,49,55,50,55,51,55,52,55,53,55,54,55,55,55,56,55,57,56,48,56,49,56,50,56,51,56,52,56,53,56,54,56,55,56,56,56,57,57,48,57,49,57,50,57,51,57,52,57,53,57,54,57,55,57,56,57,57]⟩)) (LT 119)),LO 121 (.iaddr 1 (LT 110) (LT 112)),LN (.store 1 (LT 121) (LT 118)),LO 122 (.iaddr 1 (LT 113) (LT 115)),LN (.store 1 (LT 122) (LT 120))] (LS [LM 123 0,LM 124 4,LO 125 (.bin .sub (LT 124) (LI 3)),LM 126 0,LM 127 4,LO 128 (.bin .sub (LT 127) (LI 4)),LM 129 14,LO 130 (.bin .add (LT 129) (.const (.int .u32 1))),LO 131 (.sidx (.const (.string ⟨#[48,48,48,49,48,50,48,51,48,52,48,53,48,54,48,55,48,56,48,57,49,48,49,49,49,50,49,51,49,52,49,53,49,54,49,55,49,56,49,57,50,48,50,49,50,50,50,51,50,52,50,53,50,54,50,55,50,56,50,57,51,48,51,49,51,50,51,51,51,52,51,53,51,54,51,55,51,56,51,57,52,48,52,49,52,50,52,51,52,52,52,53,52,54,52,55,52,56,52,57,53,48,53,49,53,50,53,51,53,52,53,53,53,54,53,55,53,56,53,57,54,48,54,49,54,50,54,51,54,52,54,53,54,54,54,55,54,56,54,57,55,48,55,49,55,50,55,51,55,52,55,53,55,54,55,55,55,56,55,57,56,48,56,49,56,50,56,51,56,52,56,53,56,54,56,55,56,56,56,57,57,48,57,49,57,50,57,51,57,52,57,53,57,54,57,55,57,56,57,57]⟩)) (LT 130)),LM 132 14,LO 133 (.sidx (.const (.string ⟨#[48,48,48,49,48,50,48,51,48,52,48,53,48,54,48,55,48,56,48,57,49,48,49,49,49,50,49,51,49,52,49,53,49,54,49,55,49,56,49,57,50,48,50,49,50,50,50,51,50,52,50,53,50,54,50,55,50,56,50,57,51,48,51,49,51,50,51,51,51,52,51,53,51,54,51,55,51,56,51,57,52,48,52,49,52,50,52,51,52,52,52,53,52,54,52,55,52,56,52,57,53,48,53,49,53,50,53,51,53,52,53,53,53,54,53,55,53,56,53,57,54,48,54,49,54,50,54,51,54,52,54,53,54,54,54,55,54,56,54,57,55,48,55,49,55,50,55,51,55,52,55,53,55,54,55,55,55,56,55,57,56,48,56,49,56,50,56,51,56,52,56,53,56,54,56,55,56,56,56,57,57,48,57,49,57,50,57,51,57,52,57,53,57,54,57,55,57,56,57,57]⟩)) (LT 132)),LO 134 (.iaddr 1 (LT 123) (LT 125)),LN (.store 1 (LT 134) (LT 131)),LO 135 (.iaddr 1 (LT 126) (LT 128)),LN (.store 1 (LT 135) (LT 133))] (.cV [LM 136 4,LO 137 (.bin .sub (LT 136) (LI 4)),LM 4 137])))))) .skip)) (.seq (LS [LM 138 4,LO 139 (.bin .geq (LT 138) (LI 2))] (.cond (LT 139) (LS [LM 140 12,LO 141 (.bin .rem (LT 140) (.const (.int .u32 100))),LO 142 (.bin .mul (LT 141) (.const (.int .u32 2))),LM 16 142] (LS [LM 143 12,LO 144 (.bin .quo (LT 143) (.const (.int .u32 100))),LM 12 144] (LS [LM 145 0,LM 146 4,LO 147 (.bin .sub (LT 146) (LI 1)),LM 148 0,LM 149 4,LO 150 (.bin .sub (LT 149) (LI 2)),LM 151 16,LO 152 (.bin .add (LT 151) (.const (.int .u32 1))),LO 153 (.sidx (.const (.string ⟨#[48,48,48,49,48,50,48,51,48,52,48,53,48,54,48,55,48,56,48,57,49,48,49,49,49,50,49,51,49,52,49,53,49,54,49,55,49,56,49,57,50,48,50,49,50,50,50,51,50,52,50,53,50,54,50,55,50,56,50,57,51,48,51,49,51,50,51,51,51,52,51,53,51,54,51,55,51,56,51,57,52,48,52,49,52,50,52,51,52,52,52,53,52,54,52,55,52,56,52,57,53,48,53,49,53,50,53,51,53,52,53,53,53,54,53,55,53,56,53,57,54,48,54,49,54,50,54,51,54,52,54,53,54,54,54,55,54,56,54,57,55,48,55,49,55,50,55,51,55,52,55,53,55,54,55,55,55,56,55,57,56,48,56,49,56,50,56,51,56,52,56,53,56,54,56,55,56,56,56,57,57,48,57,49,57,50,57,51,57,52,57,53,57,54,57,55,57,56,57,57]⟩)) (LT 152)),LM 154 16,LO 155 (.sidx (.const (.string ⟨#[48,48,48,49,48,50,48,51,48,52,48,53,48,54,48,55,48,56,48,57,49,48,49,49,49,50,49,51,49,52,49,53,49,54,49,55,49,56,49,57,50,48,50,49,50,50,50,51,50,52,50,53,50,54,50,55,50,56,50,57,51,48,51,49,51,50,51,51,51,52,51,53,51,54,51,55,51,56,51,57,52,48,52,49,52,50,52,51,52,52,52,53,52,54,52,55,52,56,52,57,53,48,53,49,53,50,53,51,53,52,53,53,53,54,53,55,53,56,53,57,54,48,54,49,54,50,54,51,54,52,54,53,54,54,54,55,54,56,54,57,55,48,55,49,55,50,55,51,55,52,55,53,55,54,55,55,55,56,55,57,56,48,56,49,56,50,56,51,56,52,56,53,56,54,56,55,56,56,56,57,57,48,57,49,57,50,57,51,57,52,57,53,57,54,57,55,57,56,57,57]⟩)) (LT 154)),LO 156 (.iaddr 1 (LT 145) (LT 147)),LN (.store 1 (LT 156) (LT 153)),LO 157 (.iaddr 1 (LT 148) (LT 150)),LN (.store 1 (LT 157) (LT 155))] (.cV [LM 158 4,LO 159 (.bin .sub (LT 158) (LI 2)),LM 4 159])))) .skip)) (LS [LM 160 4,LO 161 (.bin .gtr (LT 160) (LI 0))] (.cond (LT 161) (.cV [LM 162 0,LM 163 12,LO 164 (.bin .add (.const (.int .u32 48)) (LT 163)),LO 165 (.cvt .u8 (LT 164)),LO 166 (.iaddr 1 (LT 162) (LI 0)),LN (.store 1 (LT 166) (LT 165))]) .skip)))))))
def internal_strconv_formatBase10:aU:=⟨167,[],wZ⟩
def lB:aE:=(LS [LO 2 (.mv (.const (.slice none 0 0)))] (.seq (LS [LM 3 0,LO 4 (.isnil false (LT 3))] (.cond (LT 4) (LS [LO 2 (.mv (.const (.slice none 0 0)))] .ret) .skip)) (LS [LO 5 (.lit [(.bool false),(.slice none 0 0),(.slice none 0 0)] 0 []),LM 6 0,LO 7 (.app 3 56 (LT 5) (LT 6)),LM 2 7] .ret)))
def mE:aU:=⟨8,[(.tmp 2)],lB⟩
theorem tN:fQ 120=some mE:=by kernel_rfl
end Go.PM
namespace Go.PM
end Go.PM
namespace Go.PM
def JI:aE:=(LS [LO 2 (.new [(.bool false),(.slice none 0 0),(.slice none 0 0)])] (LS [LM 3 0,LO 4 (.bin .lss (LT 3) (LI 0)),LM 5 0,LO 6 (.call 140 [(LT 5)]),LO 7 (.call 139 [(LT 6)]),LO 8 (.call 139 [(.const (.int .u64 1))]),LO 9 (.build [(.bool false),(.slice none 0 0),(.slice none 0 0)] [(0,1),(1,1),(2,1)] [(0,(LT 4)),(1,(LT 7)),(2,(LT 8))]),LN (.store 3 (LT 2) (LT 9))] .ret))
def NV:aU:=⟨10,[(.cell 2 true 3)],JI⟩
theorem Sh:fQ 64=some NV:=by kernel_rfl
def sX:aE:=(LS [LO 2 (.box (LT 0)),LO 3 (.box (LT 1)),LO 4 (.mv (LI 0))] (.seq (LS [LO 6 (LK 2),LQ 7 (.call 68 [(LT 6)]),LO 8 (LK 3),LQ 9 (.call 68 [(LT 8)]),LO 10 (.bin .neq (LT 7) (LT 9))] (.cond (LT 10) (LS [LO 11 (LK 2),LQ 12 (.call 68 [(LT 11)]),LO 13 (LK 3),LQ 14 (.call 68 [(LT 13)]),LO 15 (.bin .sub (LT 12) (LT 14)),LM 4 15] .ret) .skip)) (LS [LO 16 (LA 1 2),LO 17 (LL 16),LO 18 (LA 2 3),LO 19 (LL 18),LQ 20 (.call 143 [(LT 17),(LT 19)]),LO 21 (LA 1 3),LO 22 (LL 21),LO 23 (LA 2 2),LO 24 (LL 23),LQ 25 (.call 143 [(LT 22),(LT 24)]),LQ 26 (.call 142 [(LT 20),(LT 25)]),LM 5 26] (.seq (LS [LO 27 (LA 0 2),LO 28 (LL 27)] (.cond (LT 28) (LS [LM 29 5,LO 30 (.un .neg (LT 29)),LM 4 30] .ret) .skip)) (LS [LM 31 5,LM 4 31] .ret)))))
def wH:aU:=⟨32,[(.tmp 4)],sX⟩
theorem KT:fQ 148=some wH:=by kernel_rfl
def CH:aE:=(LS [LO 2 (.box (LT 0)),LO 3 (.box (LT 1)),LO 4 (.new [(.bool false),(.slice none 0 0),(.slice none 0 0)])] (LS [LO 5 (LK 2),LO 6 (LK 3),LQ 7 (.call 177 [(LT 6)]),LQ 8 (.call 69 [(LT 5),(LT 7)]),LN (.store 3 (LT 4) (LT 8))] .ret))
def FU:aU:=⟨9,[(.cell 4 true 3)],CH⟩
theorem Ko:fQ 128=some FU:=by kernel_rfl
def Ce:aE:=(LS [LO 2 (.box (LT 0)),LO 3 (.box (LT 1)),LO 4 (.new [(.bool false),(.slice none 0 0),(.slice none 0 0)])] (LS [LO 5 (LK 2),LO 6 (LA 0 3),LO 7 (LL 6),LO 8 (LA 2 3),LO 9 (LL 8),LO 10 (LA 1 3),LO 11 (LL 10),LO 12 (.build [(.bool false),(.slice none 0 0),(.slice none 0 0)] [(0,1),(1,1),(2,1)] [(0,(LT 7)),(1,(LT 9)),(2,(LT 11))]),LO 13 (.call 132 [(LT 5),(LT 12)]),LN (.store 3 (LT 4) (LT 13))] .ret))
def Ek:aU:=⟨14,[(.cell 4 true 3)],Ce⟩
theorem JJ:fQ 129=some Ek:=by kernel_rfl
def fH:aE:=(LS [LO 2 (.box (LT 0)),LO 3 (.box (LT 1)),LO 4 (.new [(.bool false),(.slice none 0 0),(.slice none 0 0)])] (.seq (LS [LO 8 (LK 2),LO 9 (.call 68 [(LT 8)]),LO 10 (.bin .eql (LT 9) (LI 0))] (.cond (LT 10) (LS [LO 11 (LK 3),LN (.store 3 (LT 4) (LT 11))] .ret) .skip)) (.seq (LS [LO 12 (LK 3),LO 13 (.call 68 [(LT 12)]),LO 14 (.bin .eql (LT 13) (LI 0))] (.cond (LT 14) (LS [LO 15 (LK 2),LN (.store 3 (LT 4) (LT 15))] .ret) .skip)) (LS [LO 16 (LA 1 2),LO 17 (LL 16),LO 18 (LA 1 3),LO 19 (LL 18),LO 20 (LA 2 2),LO 21 (LL 20),LM 5 17,LM 6 19,LM 7 21] (.seq (LS [LO 22 (LA 2 2),LO 23 (LL 22),LO 24 (LA 2 3),LO 25 (LL 24),LO 26 (.call 142 [(LT 23),(LT 25)]),LO 27 (.bin .neq (LT 26) (LI 0))] (.cond (LT 27) (.cV [LO 28 (LA 1 2),LO 29 (LL 28),LO 30 (LA 2 3),LO 31 (LL 30),LQ 32 (.call 143 [(LT 29),(LT 31)]),LO 33 (LA 1 3),LO 34 (LL 33),LO 35 (LA 2 2),LO 36 (LL 35),LQ 37 (.call 143 [(LT 34),(LT 36)]),LO 38 (LA 2 2),LO 39 (LL 38),LO 40 (LA 2 3),LO 41 (LL 40),LQ 42 (.call 143 [(LT 39),(LT 41)]),LM 5 32,LM 6 37,LM 7 42]) .skip)) (.seq (.block 0 (LS [LO 44 (LA 0 2),LO 45 (LL 44),LO 46 (LA 0 3),LO 47 (LL 46),LO 48 (.eqb false (LT 45) (LT 47)),LM 43 48] (.cond (LT 43) (LS [LO 49 (LA 0 2),LO 50 (LL 49),LM 51 5,LM 52 6,LQ 53 (.call 145 [(LT 51),(LT 52)]),LM 54 7,LQ 55 (.call 144 [(LT 50),(LT 53),(LT 54)]),LN (.store 3 (LT 4) (LT 55))] .ret) (LS [LM 57 5,LM 58 6,LO 59 (.call 142 [(LT 57),(LT 58)]),LO 60 (.bin .geq (LT 59) (LI 0)),LM 56 60] (.cond (LT 56) (LS [LO 61 (LA 0 2),LO 62 (LL 61),LM 63 5,LM 64 6,LQ 65 (.call 146 [(LT 63),(LT 64)]),LM 66 7,LQ 67 (.call 144 [(LT 62),(LT 65),(LT 66)]),LN (.store 3 (LT 4) (LT 67))] .ret) .skip))))) (LS [LO 68 (LA 0 3),LO 69 (LL 68),LM 70 6,LM 71 5,LQ 72 (.call 146 [(LT 70),(LT 71)]),LM 73 7,LQ 74 (.call 144 [(LT 69),(LT 72),(LT 73)]),LN (.store 3 (LT 4) (LT 74))] .ret)))))))
def iI:aU:=⟨75,[(.cell 4 true 3)],fH⟩
theorem Ld:fQ 69=some iI:=by kernel_rfl
def sJ:aE:=(LS [LO 2 (.box (LT 0)),LO 3 (.box (LT 1)),LO 4 (.new [(.bool false),(.slice none 0 0),(.slice none 0 0)])] (.seq (LS [LO 7 (LK 2),LO 8 (.call 68 [(LT 7)]),LO 9 (.bin .eql (LT 8) (LI 0)),LM 10 9,LZ 10 11 (LK 3),LZ 10 12 (.call 68 [(LT 11)]),LZ 10 13 (.bin .eql (LT 12) (LI 0)),LO 14 (.pick (LT 10) LG (LT 13))] (.cond (LT 14) (LS [LO 15 (.call 64 [(LI 0)]),LN (.store 3 (LT 4) (LT 15))] .ret) .skip)) (LS [LO 16 (LA 1 2),LO 17 (LL 16),LO 18 (LA 2 3),LO 19 (LL 18),LQ 20 (.call 144 [LF,(LT 17),(LT 19)]),LO 21 (LA 1 3),LO 22 (LL 21),LO 23 (LA 2 2),LO 24 (LL 23),LQ 25 (.call 144 [LF,(LT 22),(LT 24)]),LQ 5 (.new [(.bool false),(.slice none 0 0),(.slice none 0 0)]),LQ 6 (.new [(.bool false),(.slice none 0 0),(.slice none 0 0)]),LN (.store 3 (LT 5) (LT 20)),LN (.store 3 (LT 6) (LT 25))] (LS [LO 26 (LA 0 2),LO 27 (LL 26),LO 28 (LA 0 3),LO 29 (LL 28),LO 30 (.eqb true (LT 27) (LT 29)),LO 31 (LA 1 5),LO 32 (LL 31),LO 33 (LA 1 6),LO 34 (LL 33),LQ 35 (.call 143 [(LT 32),(LT 34)]),LO 36 (LA 2 5),LO 37 (LL 36),LO 38 (LA 2 6),LO 39 (LL 38),LQ 40 (.call 143 [(LT 37),(LT 39)]),LO 41 (.build [(.bool false),(.slice none 0 0),(.slice none 0 0)] [(0,1),(1,1),(2,1)] [(0,(LT 30)),(1,(LT 35)),(2,(LT 40))]),LN (.store 3 (LT 4) (LT 41))] .ret))))
def vK:aU:=⟨42,[(.cell 4 true 3)],sJ⟩
theorem Lr:fQ 132=some vK:=by kernel_rfl
def qW:aE:=(LS [LO 1 (.box (LT 0)),LO 2 (.mv (LI 0))] (.seq (.block 0 (LS [LO 4 (LA 1 1),LO 5 (LL 4),LO 6 (.len (LT 5)),LO 7 (.bin .eql (LT 6) (LI 0)),LM 3 7] (.cond (LT 3) (LS [LO 2 (.mv (LI 0))] .ret) (LS [LO 9 (LA 0 1),LO 10 (LL 9),LM 8 10] (.cond (LT 8) (LS [LO 2 (.mv (LI (-1)))] .ret) .skip))))) (LS [LO 2 (.mv (LI 1))] .ret)))
def uK:aU:=⟨11,[(.tmp 2)],qW⟩
theorem I8:fQ 68=some uK:=by kernel_rfl
def nY:aE:=(LS [LO 2 (.mv (.const (.slice none 0 0))),LO 3 (.mv LF)] (LS [LM 7 0,LO 8 (.call 65 [(LT 7)]),LM 6 8,LO 9 (LX 6 0),LO 10 (LX 6 1),LM 4 9,LM 5 10] (.seq (LS [LM 11 5,LO 12 (.un .not (LT 11)),LM 13 12,LZ 13 14 (.mv (LT 4)),LZ 13 15 (.call 66 [(LT 14),(.func 67)]),LO 16 (.pick (LT 13) LG (LT 15)),LM 17 16,LZ 17 18 (.mv (LT 4)),LZ 17 19 (.call 70 [(LT 18)]),LZ 17 20 (.call 161 [(LT 19)]),LZ 17 21 (.un .not (LT 20)),LO 22 (.pick (LT 17) LG (LT 21))] (.cond (LT 22) (LS [LO 2 (.mv (.const (.slice none 0 0))),LO 3 (.mv LF)] .ret) .skip)) (LS [LM 23 4,LM 2 23,LO 3 (.mv LG)] .ret))))
def rO:aU:=⟨24,[(.tmp 2),(.tmp 3)],nY⟩
theorem Li:fQ 98=some rO:=by kernel_rfl
def FM:aE:=(LS [LO 1 (.box (LT 0)),LO 2 (.mv (.const (.string ⟨#[]⟩))),LO 3 (.mv LF)] (LS [LO 7 (LK 1),LO 8 (.call 180 [(LT 7)]),LM 6 8,LO 9 (LX 6 0),LO 10 (LX 6 1),LM 4 9,LM 5 10] (.seq (LS [LM 11 5,LO 12 (.un .not (LT 11))] (.cond (LT 12) (LS [LO 2 (.mv (.const (.string ⟨#[]⟩))),LO 3 (.mv LF)] .ret) .skip)) (LS [LM 13 4,LM 2 13,LO 3 (.mv LG)] .ret))))
def Kv:aU:=⟨14,[(.tmp 2),(.tmp 3)],FM⟩
theorem Wz:fQ 137=some Kv:=by kernel_rfl
def Ao:aE:=(LS [LO 16 (.bin .lss (LT 15) (LT 14))] (.seq (.cond (LT 16) .skip (.exit 0)) (.seq (.block 1 (LS [LO 17 (.iaddr 1 (LT 13) (LT 15)),LO 18 (LL 17),LM 6 18] (LS [LM 20 6,LO 21 (.call 115 [(LT 20)]),LM 19 21,LO 22 (LX 19 0),LO 23 (LX 19 1),LO 7 (.new [(.bool false),(.slice none 0 0),(.slice none 0 0)]),LN (.store 3 (LT 7) (LT 22)),LM 8 23] (.seq (LS [LM 24 8,LO 25 (.un .not (LT 24))] (.cond (LT 25) (LS [LO 2 (.mv (.const (.slice none 0 0))),LO 3 (.mv LF)] .ret) .skip)) (.cV [LM 26 4,LO 27 (LK 7),LO 28 (.lit [(.bool false),(.slice none 0 0),(.slice none 0 0)] 1 [(0,(LT 27))]),LO 29 (.app 3 56 (LT 26) (LT 28)),LM 4 29]))))) (.cV [LO 30 (.bin .add (LT 15) (LI 1)),LM 15 30]))))
def FI:aE:=(LS [LO 2 (.mv (.const (.slice none 0 0))),LO 3 (.mv LF)] (.seq (LS [LM 9 0,LO 10 (.len (LT 9)),LO 11 (.bin .gtr (LT 10) (LI 300))] (.cond (LT 11) (LS [LO 2 (.mv (.const (.slice none 0 0))),LO 3 (.mv LF)] .ret) .skip)) (LS [LO 12 (.lit [(.bool false),(.slice none 0 0),(.slice none 0 0)] 0 []),LM 4 12] (.seq (LS [LM 13 0,LO 14 (.len (LT 13)),LO 15 (.mv (LI 0))] (.block 0 (.loop Ao))) (LS [LM 31 4,LM 2 31,LO 3 (.mv LG)] .ret)))))
def Ku:aU:=⟨32,[(.tmp 2),(.tmp 3)],FI⟩
theorem VJ:fQ 65=some Ku:=by kernel_rfl
def Bs:aE:=(LS [LO 1 (.box (LT 0)),LO 2 (.mv LF)] (LS [LO 3 (LK 1),LO 4 (.call 68 [(LT 3)]),LO 5 (.bin .lss (LT 4) (LI 0)),LM 2 5] .ret))
def DC:aU:=⟨6,[(.tmp 2)],Bs⟩
theorem OU:fQ 67=some DC:=by kernel_rfl
def FD:aE:=(LS [LO 10 (.bin .lss (LT 9) (LT 8))] (.seq (.cond (LT 10) .skip (.exit 0)) (.seq (.block 1 (LS [LO 11 (.iaddr 3 (LT 7) (LT 9)),LO 12 (LK 11),LO 5 (.new [(.bool false),(.slice none 0 0),(.slice none 0 0)]),LN (.store 3 (LT 5) (LT 12))] (.cV [LO 13 (LK 3),LO 14 (LK 5),LO 15 (.call 69 [(LT 13),(LT 14)]),LN (.store 3 (LT 3) (LT 15))]))) (.cV [LO 16 (.bin .add (LT 9) (LI 1)),LM 9 16]))))
def PN:aE:=(LS [LO 2 (.new [(.bool false),(.slice none 0 0),(.slice none 0 0)])] (LS [LO 6 (.call 64 [(LI 0)]),LO 3 (.new [(.bool false),(.slice none 0 0),(.slice none 0 0)]),LN (.store 3 (LT 3) (LT 6))] (.seq (LS [LM 7 0,LO 8 (.len (LT 7)),LO 9 (.mv (LI 0))] (.block 0 (.loop FD))) (LS [LO 17 (LK 3),LN (.store 3 (LT 2) (LT 17))] .ret))))
def UI:aU:=⟨18,[(.cell 2 true 3)],PN⟩
theorem Yo:fQ 70=some UI:=by kernel_rfl
def tP:aE:=(LS [LO 6 (.new [(.bool false),(.slice none 0 0),(.slice none 0 0)])] (.seq (LS [LM 8 1,LO 9 (.len (LT 8)),LO 10 (.bin .eql (LT 9) (LI 0))] (.cond (LT 10) (LS [LO 11 (.call 139 [(.const (.int .u64 1))]),LO 12 (.build [(.bool false),(.slice none 0 0),(.slice none 0 0)] [(0,1),(1,1),(2,1)] [(2,(LT 11))]),LN (.store 3 (LT 6) (LT 12))] .ret) .skip)) (LS [LM 13 1,LM 14 2,LO 15 (.call 175 [(LT 13),(LT 14)]),LM 7 15] (.seq (LS [LM 16 7,LO 17 (.len (LT 16)),LO 18 (.bin .eql (LT 17) (LI 1)),LM 19 18,LY 19 20 (.mv (LT 7)),LY 19 21 (.iaddr 1 (LT 20) (LI 0)),LY 19 22 (LL 21),LY 19 23 (.bin .eql (LT 22) (.const (.int .u32 1))),LO 24 (.pick (LT 19) (LT 23) LF)] (.cond (LT 24) (LS [LM 25 0,LM 26 1,LM 27 2,LO 28 (.build [(.bool false),(.slice none 0 0),(.slice none 0 0)] [(0,1),(1,1),(2,1)] [(0,(LT 25)),(1,(LT 26)),(2,(LT 27))]),LN (.store 3 (LT 6) (LT 28))] .ret) .skip)) (LS [LM 30 1,LM 31 7,LO 32 (.call 183 [(LT 30),(LT 31)]),LM 29 32,LO 33 (LX 29 0),LO 34 (LX 29 1),LM 1 33] (LS [LM 36 2,LM 37 7,LO 38 (.call 183 [(LT 36),(LT 37)]),LM 35 38,LO 39 (LX 35 0),LO 40 (LX 35 1),LM 2 39] (LS [LM 41 0,LM 42 1,LM 43 2,LO 44 (.build [(.bool false),(.slice none 0 0),(.slice none 0 0)] [(0,1),(1,1),(2,1)] [(0,(LT 41)),(1,(LT 42)),(2,(LT 43))]),LN (.store 3 (LT 6) (LT 44))] .ret)))))))
def zP:aU:=⟨45,[(.cell 6 true 3)],tP⟩
theorem Qy:fQ 144=some zP:=by kernel_rfl
def J8:aE:=(LS [LO 2 (.mv (.const (.slice none 0 0)))] (LS [LM 3 0,LO 4 (.cvt .u32 (LT 3)),LM 5 0,LO 6 (.bin .shr (LT 5) (.const (.int .u64 32))),LO 7 (.cvt .u32 (LT 6)),LO 8 (.lit [(.int .u32 0)] 2 [(0,(LT 4)),(1,(LT 7))]),LO 9 (.call 182 [(LT 8)]),LM 2 9] .ret))
def NQ:aU:=⟨10,[(.tmp 2)],J8⟩
theorem SG:fQ 139=some NQ:=by kernel_rfl
def yC:aE:=(LS [LO 2 (.mv (.const (.int .u64 0)))] (.seq (LS [LM 3 0,LO 4 (.bin .lss (LT 3) (LI 0))] (.cond (LT 4) (LS [LM 5 0,LO 6 (.cvt .u64 (LT 5)),LO 7 (.un .neg (LT 6)),LM 2 7] .ret) .skip)) (LS [LM 8 0,LO 9 (.cvt .u64 (LT 8)),LM 2 9] .ret)))
def A6:aU:=⟨10,[(.tmp 2)],yC⟩
theorem KY:fQ 140=some A6:=by kernel_rfl
def vW:aE:=(LS [LO 27 (.bin .lss (LT 26) (LT 25))] (.seq (.cond (LT 27) .skip (.exit 2)) (.seq (.block 3 (LS [LM 28 26,LO 29 (.iaddr 1 (LT 24) (LT 26)),LO 30 (LL 29),LM 9 28,LM 10 30] (LS [LM 31 8,LM 32 7,LO 33 (.cvt .u64 (LT 32)),LM 34 10,LO 35 (.cvt .u64 (LT 34)),LO 36 (.bin .mul (LT 33) (LT 35)),LM 37 5,LM 38 6,LM 39 9,LO 40 (.bin .add (LT 38) (LT 39)),LO 41 (.iaddr 1 (LT 37) (LT 40)),LO 42 (LL 41),LO 43 (.cvt .u64 (LT 42)),LO 44 (.bin .add (LT 36) (LT 43)),LO 45 (.bin .add (LT 31) (LT 44)),LM 8 45] (LS [LM 46 5,LM 47 6,LM 48 9,LO 49 (.bin .add (LT 47) (LT 48)),LM 50 8,LO 51 (.cvt .u32 (LT 50)),LO 52 (.iaddr 1 (LT 46) (LT 49)),LN (.store 1 (LT 52) (LT 51))] (.cV [LM 53 8,LO 54 (.bin .shr (LT 53) (.const (.int .u64 32))),LM 8 54]))))) (.cV [LO 55 (.bin .add (LT 26) (LI 1)),LM 26 55]))))
def wF:aE:=(LS [LO 20 (.bin .lss (LT 19) (LT 18))] (.seq (.cond (LT 20) .skip (.exit 0)) (.seq (.block 1 (LS [LM 21 19,LO 22 (.iaddr 1 (LT 17) (LT 19)),LO 23 (LL 22),LM 6 21,LM 7 23] (LS [LO 8 (.mv (.const (.int .u64 0)))] (.seq (LS [LM 24 1,LO 25 (.len (LT 24)),LO 26 (.mv (LI 0))] (.block 2 (.loop vW))) (.cV [LM 56 5,LM 57 6,LM 58 1,LO 59 (.len (LT 58)),LO 60 (.bin .add (LT 57) (LT 59)),LM 61 8,LO 62 (.cvt .u32 (LT 61)),LO 63 (.iaddr 1 (LT 56) (LT 60)),LN (.store 1 (LT 63) (LT 62))]))))) (.cV [LO 64 (.bin .add (LT 19) (LI 1)),LM 19 64]))))
def CD:aE:=(LS [LO 4 (.mv (.const (.slice none 0 0)))] (LS [LM 11 0,LO 12 (.len (LT 11)),LM 13 1,LO 14 (.len (LT 13)),LO 15 (.bin .add (LT 12) (LT 14)),LO 16 (.make [(.int .u32 0)] 4 (LT 15) (LT 15)),LM 5 16] (.seq (LS [LM 17 0,LO 18 (.len (LT 17)),LO 19 (.mv (LI 0))] (.block 0 (.loop wF))) (LS [LM 65 5,LO 66 (.call 182 [(LT 65)]),LM 4 66] .ret))))
def Fo:aU:=⟨67,[(.tmp 4)],CD⟩
theorem K4:fQ 143=some Fo:=by kernel_rfl
def mW:aE:=(.seq (LS [LM 19 5,LO 20 (.bin .geq (LT 19) (LI 0))] (.cond (LT 20) .skip (.exit 0))) (.seq (.block 1 (LS [LM 23 0,LM 24 5,LO 25 (.iaddr 1 (LT 23) (LT 24)),LO 26 (LL 25),LM 27 1,LM 28 5,LO 29 (.iaddr 1 (LT 27) (LT 28)),LO 30 (LL 29),LO 31 (.bin .neq (LT 26) (LT 30))] (.cond (LT 31) (.seq (LS [LM 32 0,LM 33 5,LO 34 (.iaddr 1 (LT 32) (LT 33)),LO 35 (LL 34),LM 36 1,LM 37 5,LO 38 (.iaddr 1 (LT 36) (LT 37)),LO 39 (LL 38),LO 40 (.bin .lss (LT 35) (LT 39))] (.cond (LT 40) (LS [LO 4 (.mv (LI (-1)))] .ret) .skip)) (LS [LO 4 (.mv (LI 1))] .ret)) .skip))) (.cV [LM 21 5,LO 22 (.bin .sub (LT 21) (LI 1)),LM 5 22])))
def sE:aE:=(LS [LO 4 (.mv (LI 0))] (.seq (LS [LM 6 0,LO 7 (.len (LT 6)),LM 8 1,LO 9 (.len (LT 8)),LO 10 (.bin .neq (LT 7) (LT 9))] (.cond (LT 10) (.seq (LS [LM 11 0,LO 12 (.len (LT 11)),LM 13 1,LO 14 (.len (LT 13)),LO 15 (.bin .lss (LT 12) (LT 14))] (.cond (LT 15) (LS [LO 4 (.mv (LI (-1)))] .ret) .skip)) (LS [LO 4 (.mv (LI 1))] .ret)) .skip)) (.seq (LS [LM 16 0,LO 17 (.len (LT 16)),LO 18 (.bin .sub (LT 17) (LI 1)),LM 5 18] (.block 0 (.loop mW))) (LS [LO 4 (.mv (LI 0))] .ret))))
def vJ:aU:=⟨41,[(.tmp 4)],sE⟩
theorem Kk:fQ 142=some vJ:=by kernel_rfl
def pL:aE:=(LS [LO 1 (.box (LT 0)),LO 2 (.new [(.bool false),(.slice none 0 0),(.slice none 0 0)])] (LS [LO 3 (LA 0 1),LO 4 (LL 3),LO 5 (.un .not (LT 4)),LM 6 5,LY 6 7 (LA 1 1),LY 6 8 (LL 7),LY 6 9 (.len (LT 8)),LY 6 10 (.bin .gtr (LT 9) (LI 0)),LO 11 (.pick (LT 6) (LT 10) LF),LO 12 (LA 1 1),LO 13 (LL 12),LO 14 (LA 2 1),LO 15 (LL 14),LO 16 (.build [(.bool false),(.slice none 0 0),(.slice none 0 0)] [(0,1),(1,1),(2,1)] [(0,(LT 11)),(1,(LT 13)),(2,(LT 15))]),LN (.store 3 (LT 2) (LT 16))] .ret))
def sP:aU:=⟨17,[(.cell 2 true 3)],pL⟩
theorem HQ:fQ 177=some sP:=by kernel_rfl
def mU:aE:=(LS [LO 22 (.bin .lss (LT 21) (LT 20))] (.seq (.cond (LT 22) .skip (.exit 0)) (.seq (.block 1 (LS [LM 23 21,LM 7 23] (LS [LM 24 6,LM 25 0,LM 26 7,LO 27 (.iaddr 1 (LT 25) (LT 26)),LO 28 (LL 27),LO 29 (.cvt .u64 (LT 28)),LO 30 (.bin .add (LT 24) (LT 29)),LM 6 30] (.seq (LS [LM 31 7,LM 32 1,LO 33 (.len (LT 32)),LO 34 (.bin .lss (LT 31) (LT 33))] (.cond (LT 34) (.cV [LM 35 6,LM 36 1,LM 37 7,LO 38 (.iaddr 1 (LT 36) (LT 37)),LO 39 (LL 38),LO 40 (.cvt .u64 (LT 39)),LO 41 (.bin .add (LT 35) (LT 40)),LM 6 41]) .skip)) (LS [LM 42 5,LM 43 7,LM 44 6,LO 45 (.cvt .u32 (LT 44)),LO 46 (.iaddr 1 (LT 42) (LT 43)),LN (.store 1 (LT 46) (LT 45))] (.cV [LM 47 6,LO 48 (.bin .shr (LT 47) (.const (.int .u64 32))),LM 6 48])))))) (.cV [LO 49 (.bin .add (LT 21) (LI 1)),LM 21 49]))))
def yJ:aE:=(LS [LO 4 (.mv (.const (.slice none 0 0)))] (.seq (LS [LM 8 0,LO 9 (.len (LT 8)),LM 10 1,LO 11 (.len (LT 10)),LO 12 (.bin .lss (LT 9) (LT 11))] (.cond (LT 12) (.cV [LM 13 1,LM 14 0,LM 0 13,LM 1 14]) .skip)) (LS [LM 15 0,LO 16 (.len (LT 15)),LO 17 (.bin .add (LT 16) (LI 1)),LO 18 (.make [(.int .u32 0)] 4 (LT 17) (LT 17)),LM 5 18,LO 6 (.mv (.const (.int .u64 0)))] (.seq (LS [LM 19 0,LO 20 (.len (LT 19)),LO 21 (.mv (LI 0))] (.block 0 (.loop mU))) (LS [LM 50 5,LM 51 0,LO 52 (.len (LT 51)),LM 53 6,LO 54 (.cvt .u32 (LT 53)),LO 55 (.iaddr 1 (LT 50) (LT 52)),LN (.store 1 (LT 55) (LT 54))] (LS [LM 56 5,LO 57 (.call 182 [(LT 56)]),LM 4 57] .ret))))))
def Bk:aU:=⟨58,[(.tmp 4)],yJ⟩
theorem K7:fQ 145=some Bk:=by kernel_rfl
def jX:aE:=(LS [LO 15 (.bin .lss (LT 14) (LT 13))] (.seq (.cond (LT 15) .skip (.exit 0)) (.seq (.block 1 (LS [LM 16 14,LM 7 16] (LS [LM 17 0,LM 18 7,LO 19 (.iaddr 1 (LT 17) (LT 18)),LO 20 (LL 19),LO 21 (.cvt .i64 (LT 20)),LM 22 6,LO 23 (.bin .sub (LT 21) (LT 22)),LM 8 23] (.seq (LS [LM 24 7,LM 25 1,LO 26 (.len (LT 25)),LO 27 (.bin .lss (LT 24) (LT 26))] (.cond (LT 27) (.cV [LM 28 8,LM 29 1,LM 30 7,LO 31 (.iaddr 1 (LT 29) (LT 30)),LO 32 (LL 31),LO 33 (.cvt .i64 (LT 32)),LO 34 (.bin .sub (LT 28) (LT 33)),LM 8 34]) .skip)) (LS [LO 6 (.mv (LI 0))] (.seq (LS [LM 35 8,LO 36 (.bin .lss (LT 35) (LI 0))] (.cond (LT 36) (.cV [LO 6 (.mv (LI 1))]) .skip)) (.cV [LM 37 5,LM 38 7,LM 39 8,LO 40 (.cvt .u32 (LT 39)),LO 41 (.iaddr 1 (LT 37) (LT 38)),LN (.store 1 (LT 41) (LT 40))]))))))) (.cV [LO 42 (.bin .add (LT 14) (LI 1)),LM 14 42]))))
def CP:aE:=(LS [LO 4 (.mv (.const (.slice none 0 0)))] (LS [LM 9 0,LO 10 (.len (LT 9)),LO 11 (.make [(.int .u32 0)] 4 (LT 10) (LT 10)),LM 5 11,LO 6 (.mv (LI 0))] (.seq (LS [LM 12 0,LO 13 (.len (LT 12)),LO 14 (.mv (LI 0))] (.block 0 (.loop jX))) (LS [LM 43 5,LO 44 (.call 182 [(LT 43)]),LM 4 44] .ret))))
def Fu:aU:=⟨45,[(.tmp 4)],CP⟩
theorem Kg:fQ 146=some Fu:=by kernel_rfl
def wK:aE:=(LS [LO 1 (.box (LT 0)),LO 2 (.mv (.const (.string ⟨#[]⟩))),LO 3 (.mv LF)] (LS [LO 7 (LA 1 1),LO 8 (LL 7),LQ 9 (.call 196 [(LT 8)]),LO 10 (LA 2 1),LO 11 (LL 10),LQ 12 (.call 196 [(LT 11)]),LM 4 9,LM 5 12] (LS [LM 13 4,LM 6 13] (.seq (LS [LO 14 (LA 0 1),LO 15 (LL 14)] (.cond (LT 15) (.cV [LM 16 6,LO 17 (.bin .add (.const (.string ⟨#[45]⟩)) (LT 16)),LM 6 17]) .skip)) (.seq (LS [LM 18 5,LO 19 (.bin .neq (LT 18) (.const (.string ⟨#[49]⟩)))] (.cond (LT 19) (.cV [LM 20 6,LM 21 5,LO 22 (.bin .add (.const (.string ⟨#[47]⟩)) (LT 21)),LO 23 (.bin .add (LT 20) (LT 22)),LM 6 23]) .skip)) (LS [LM 24 6,LM 25 4,LO 26 (.slen (LT 25)),LO 27 (.bin .leq (LT 26) (LI 200)),LM 28 27,LY 28 29 (.mv (LT 5)),LY 28 30 (.slen (LT 29)),LY 28 31 (.bin .leq (LT 30) (LI 200)),LO 32 (.pick (LT 28) (LT 31) LF),LM 2 24,LM 3 32] .ret))))))
def zX:aU:=⟨33,[(.tmp 2),(.tmp 3)],wK⟩
theorem Jc:fQ 180=some zX:=by kernel_rfl
def uR:aE:=(LS [LO 1 (.box (LT 0)),LO 2 (.mv LF)] (LS [LO 3 (LK 1),LQ 4 (.call 64 [(LI 1)]),LQ 5 (.call 148 [(LT 3),(LT 4)]),LO 6 (.bin .eql (LT 5) (LI 0)),LM 2 6] .ret))
def xJ:aU:=⟨7,[(.tmp 2)],uR⟩
theorem Il:fQ 161=some xJ:=by kernel_rfl
def dJ:aE:=(LS [LO 2 (.new [(.bool false),(.slice none 0 0),(.slice none 0 0)]),LO 3 (.mv LF)] (LS [LM 16 0,LO 17 (.call 172 [(LT 16),(.const (.string ⟨#[47]⟩))]),LM 15 17,LO 18 (LX 15 0),LO 19 (LX 15 1),LO 20 (LX 15 2),LM 4 18,LM 5 19,LM 6 20] (LS [LM 22 4,LO 23 (.call 173 [(LT 22),(.const (.string ⟨#[45]⟩))]),LM 21 23,LO 24 (LX 21 0),LO 25 (LX 21 1),LM 7 24,LM 8 25] (LS [LM 27 7,LO 28 (.call 174 [(LT 27)]),LM 26 28,LO 29 (LX 26 0),LO 30 (LX 26 1),LM 9 29,LM 10 30] (.seq (LS [LM 31 10,LO 32 (.un .not (LT 31)),LM 33 32,LZ 33 34 (.mv (LT 8)),LZ 33 35 (.mv (LT 34)),LY 35 36 (.mv (LT 9)),LY 35 37 (.len (LT 36)),LY 35 38 (.bin .eql (LT 37) (LI 0)),LZ 33 39 (.pick (LT 35) (LT 38) LF),LO 40 (.pick (LT 33) LG (LT 39))] (.cond (LT 40) (LS [LO 41 (.build [(.bool false),(.slice none 0 0),(.slice none 0 0)] [(0,1),(1,1),(2,1)] []),LN (.store 3 (LT 2) (LT 41)),LO 3 (.mv LF)] .ret) .skip)) (LS [LM 42 8,LM 43 9,LO 44 (.call 139 [(.const (.int .u64 1))]),LO 45 (.build [(.bool false),(.slice none 0 0),(.slice none 0 0)] [(0,1),(1,1),(2,1)] [(0,(LT 42)),(1,(LT 43)),(2,(LT 44))]),LO 11 (.new [(.bool false),(.slice none 0 0),(.slice none 0 0)]),LN (.store 3 (LT 11) (LT 45))] (.seq (LS [LM 46 6,LO 47 (.un .not (LT 46))] (.cond (LT 47) (LS [LO 48 (LK 11),LN (.store 3 (LT 2) (LT 48)),LO 3 (.mv LG)] .ret) .skip)) (LS [LM 50 5,LO 51 (.call 174 [(LT 50)]),LM 49 51,LO 52 (LX 49 0),LO 53 (LX 49 1),LM 12 52,LM 13 53] (.seq (LS [LM 54 13,LO 55 (.un .not (LT 54)),LM 56 55,LZ 56 57 (.mv (LT 12)),LZ 56 58 (.call 139 [(.const (.int .u64 1))]),LZ 56 59 (.call 142 [(LT 57),(LT 58)]),LZ 56 60 (.bin .leq (LT 59) (LI 0)),LO 61 (.pick (LT 56) LG (LT 60))] (.cond (LT 61) (LS [LO 62 (.build [(.bool false),(.slice none 0 0),(.slice none 0 0)] [(0,1),(1,1),(2,1)] []),LN (.store 3 (LT 2) (LT 62)),LO 3 (.mv LF)] .ret) .skip)) (.seq (LS [LM 63 9,LM 64 12,LO 65 (.call 175 [(LT 63),(LT 64)]),LM 14 65] (LS [LM 66 14,LO 67 (.call 139 [(.const (.int .u64 1))]),LO 68 (.call 142 [(LT 66),(LT 67)]),LO 69 (.bin .neq (LT 68) (LI 0))] (.cond (LT 69) (LS [LO 70 (.build [(.bool false),(.slice none 0 0),(.slice none 0 0)] [(0,1),(1,1),(2,1)] []),LN (.store 3 (LT 2) (LT 70)),LO 3 (.mv LF)] .ret) .skip))) (LS [LM 71 8,LM 72 9,LM 73 12,LO 74 (.build [(.bool false),(.slice none 0 0),(.slice none 0 0)] [(0,1),(1,1),(2,1)] [(0,(LT 71)),(1,(LT 72)),(2,(LT 73))]),LN (.store 3 (LT 2) (LT 74)),LO 3 (.mv LG)] .ret)))))))))))
def fI:aU:=⟨75,[(.cell 2 true 3),(.tmp 3)],dJ⟩
theorem Pb:fQ 115=some fI:=by kernel_rfl
def wP:aE:=(.seq (LS [LM 28 7,LO 29 (.bin .gtr (LT 28) (.const (.int .u64 0)))] (.cond (LT 29) .skip (.exit 2))) (.block 3 (.cV [LM 30 7,LM 31 5,LM 32 7,LO 33 (.bin .rem (LT 31) (LT 32)),LM 5 30,LM 7 33])))
def kE:aE:=(.seq (LS [LM 11 1,LO 12 (.len (LT 11)),LO 13 (.bin .gtr (LT 12) (LI 0))] (.cond (LT 13) .skip (.exit 0))) (.block 1 (LS [LM 15 0,LO 16 (.call 193 [(LT 15)]),LM 14 16,LO 17 (LX 14 0),LO 18 (LX 14 1),LM 5 17,LM 6 18] (LS [LM 20 1,LO 21 (.call 193 [(LT 20)]),LM 19 21,LO 22 (LX 19 0),LO 23 (LX 19 1),LM 7 22,LM 8 23] (.seq (LS [LM 24 6,LM 25 24,LY 25 26 (.mv (LT 8)),LO 27 (.pick (LT 25) (LT 26) LF)] (.cond (LT 27) (.seq (.block 2 (.loop wP)) (LS [LM 34 5,LO 35 (.call 139 [(LT 34)]),LM 4 35] .ret)) .skip)) (LS [LM 37 0,LM 38 1,LO 39 (.call 183 [(LT 37),(LT 38)]),LM 36 39,LO 40 (LX 36 0),LO 41 (LX 36 1),LM 9 40,LM 10 41] (.cV [LM 42 1,LM 43 10,LM 0 42,LM 1 43])))))))
def Dt:aE:=(LS [LO 4 (.mv (.const (.slice none 0 0)))] (.seq (.block 0 (.loop kE)) (LS [LM 44 0,LM 4 44] .ret)))
def Ga:aU:=⟨45,[(.tmp 4)],Dt⟩
theorem Lb:fQ 175=some Ga:=by kernel_rfl
def iB:aE:=(.seq (LS [LM 105 17,LO 106 (.bin .geq (LT 105) (.const (.int .u64 4294967296))),LM 107 106,LZ 107 108 (.mv (LT 17)),LZ 107 109 (.mv (LT 12)),LZ 107 110 (.bin .mul (LT 108) (LT 109)),LZ 107 111 (.mv (LT 18)),LZ 107 112 (.bin .shl (LT 111) (.const (.int .u64 32))),LZ 107 113 (.mv (LT 9)),LZ 107 114 (.mv (LT 15)),LZ 107 115 (.bin .sub (LT 114) (LI 2)),LZ 107 116 (.iaddr 1 (LT 113) (LT 115)),LZ 107 117 (LL 116),LZ 107 118 (.cvt .u64 (LT 117)),LZ 107 119 (.bin .add (LT 112) (LT 118)),LZ 107 120 (.bin .gtr (LT 110) (LT 119)),LO 121 (.pick (LT 107) LG (LT 120))] (.cond (LT 121) .skip (.exit 2))) (.block 3 (LS [LM 122 17,LO 123 (.bin .sub (LT 122) (.const (.int .u64 1))),LM 17 123] (LS [LM 124 18,LM 125 11,LO 126 (.bin .add (LT 124) (LT 125)),LM 18 126] (LS [LM 127 18,LO 128 (.bin .geq (LT 127) (.const (.int .u64 4294967296)))] (.cond (LT 128) (.exit 2) .skip))))))
def qK:aE:=(.seq (LS [LM 78 14,LO 79 (.bin .geq (LT 78) (LI 0))] (.cond (LT 79) .skip (.exit 0))) (.seq (.block 1 (LS [LM 82 14,LM 83 10,LO 84 (.len (LT 83)),LO 85 (.bin .add (LT 82) (LT 84)),LM 15 85] (LS [LM 86 9,LM 87 15,LO 88 (.iaddr 1 (LT 86) (LT 87)),LO 89 (LL 88),LO 90 (.cvt .u64 (LT 89)),LO 91 (.bin .shl (LT 90) (.const (.int .u64 32))),LM 92 9,LM 93 15,LO 94 (.bin .sub (LT 93) (LI 1)),LO 95 (.iaddr 1 (LT 92) (LT 94)),LO 96 (LL 95),LO 97 (.cvt .u64 (LT 96)),LO 98 (.bin .add (LT 91) (LT 97)),LM 16 98] (LS [LM 99 16,LM 100 11,LO 101 (.bin .quo (LT 99) (LT 100)),LM 102 16,LM 103 11,LO 104 (.bin .rem (LT 102) (LT 103)),LM 17 101,LM 18 104] (.seq (.block 2 (.loop iB)) (.seq (LS [LM 129 9,LM 130 14,LM 131 15,LO 132 (.bin .add (LT 131) (LI 1)),LO 133 (.sub 1 (LT 129) (some (LT 130)) (some (LT 132)) none),LM 134 10,LM 135 17,LO 136 (.call 200 [(LT 133),(LT 134),(LT 135)])] (.cond (LT 136) (.cV [LM 137 17,LO 138 (.bin .sub (LT 137) (.const (.int .u64 1))),LM 17 138]) .skip)) (.cV [LM 139 13,LM 140 14,LM 141 17,LO 142 (.cvt .u32 (LT 141)),LO 143 (.iaddr 1 (LT 139) (LT 140)),LN (.store 1 (LT 143) (LT 142))]))))))) (.cV [LM 80 14,LO 81 (.bin .sub (LT 80) (LI 1)),LM 14 81])))
def mV:aE:=(LS [LO 149 (.bin .lss (LT 148) (LT 147))] (.seq (.cond (LT 149) .skip (.exit 4)) (.seq (.block 5 (LS [LM 150 148,LM 19 150] (LS [LO 20 (.mv (.const (.int .u64 0)))] (.seq (LS [LM 151 19,LO 152 (.bin .add (LT 151) (LI 1)),LM 153 9,LO 154 (.len (LT 153)),LO 155 (.bin .lss (LT 152) (LT 154))] (.cond (LT 155) (.cV [LM 156 9,LM 157 19,LO 158 (.bin .add (LT 157) (LI 1)),LO 159 (.iaddr 1 (LT 156) (LT 158)),LO 160 (LL 159),LO 161 (.cvt .u64 (LT 160)),LM 20 161]) .skip)) (.cV [LM 162 9,LM 163 19,LM 164 20,LO 165 (.bin .shl (LT 164) (.const (.int .u64 32))),LM 166 9,LM 167 19,LO 168 (.iaddr 1 (LT 166) (LT 167)),LO 169 (LL 168),LO 170 (.cvt .u64 (LT 169)),LO 171 (.bin .add (LT 165) (LT 170)),LM 172 8,LO 173 (.bin .shr (LT 171) (LT 172)),LO 174 (.cvt .u32 (LT 173)),LO 175 (.iaddr 1 (LT 162) (LT 163)),LN (.store 1 (LT 175) (LT 174))]))))) (.cV [LO 176 (.bin .add (LT 148) (LI 1)),LM 148 176]))))
def sL:aE:=(LS [LO 4 (.mv (.const (.slice none 0 0))),LO 5 (.mv (.const (.slice none 0 0)))] (.seq (LS [LM 21 0,LM 22 1,LO 23 (.call 142 [(LT 21),(LT 22)]),LO 24 (.bin .lss (LT 23) (LI 0))] (.cond (LT 24) (LS [LM 25 0,LO 4 (.mv (.const (.slice none 0 0))),LM 5 25] .ret) .skip)) (.seq (LS [LM 26 1,LO 27 (.len (LT 26)),LO 28 (.bin .eql (LT 27) (LI 1))] (.cond (LT 28) (LS [LM 30 0,LM 31 1,LO 32 (.iaddr 1 (LT 31) (LI 0)),LO 33 (LL 32),LO 34 (.call 197 [(LT 30),(LT 33)]),LM 29 34,LO 35 (LX 29 0),LO 36 (LX 29 1),LM 6 35,LM 7 36] (LS [LM 37 6,LM 38 7,LO 39 (.lit [(.int .u32 0)] 1 [(0,(LT 38))]),LO 40 (.call 182 [(LT 39)]),LM 4 37,LM 5 40] .ret)) .skip)) (LS [LM 41 1,LM 42 1,LO 43 (.len (LT 42)),LO 44 (.bin .sub (LT 43) (LI 1)),LO 45 (.iaddr 1 (LT 41) (LT 44)),LO 46 (LL 45),LO 47 (.call 198 [(LT 46)]),LM 8 47] (LS [LM 48 0,LM 49 8,LO 50 (.call 199 [(LT 48),(LT 49)]),LM 51 1,LM 52 8,LO 53 (.call 199 [(LT 51),(LT 52)]),LO 54 (.call 182 [(LT 53)]),LM 9 50,LM 10 54] (LS [LM 55 10,LM 56 10,LO 57 (.len (LT 56)),LO 58 (.bin .sub (LT 57) (LI 1)),LO 59 (.iaddr 1 (LT 55) (LT 58)),LO 60 (LL 59),LO 61 (.cvt .u64 (LT 60)),LM 11 61] (LS [LM 62 10,LM 63 10,LO 64 (.len (LT 63)),LO 65 (.bin .sub (LT 64) (LI 2)),LO 66 (.iaddr 1 (LT 62) (LT 65)),LO 67 (LL 66),LO 68 (.cvt .u64 (LT 67)),LM 12 68] (LS [LM 69 9,LO 70 (.len (LT 69)),LM 71 10,LO 72 (.len (LT 71)),LO 73 (.bin .sub (LT 70) (LT 72)),LO 74 (.make [(.int .u32 0)] 4 (LT 73) (LT 73)),LM 13 74] (.seq (LS [LM 75 13,LO 76 (.len (LT 75)),LO 77 (.bin .sub (LT 76) (LI 1)),LM 14 77] (.block 0 (.loop qK))) (LS [LM 144 9,LO 145 (.call 182 [(LT 144)]),LM 9 145] (.seq (LS [LM 146 9,LO 147 (.len (LT 146)),LO 148 (.mv (LI 0))] (.block 4 (.loop mV))) (LS [LM 177 13,LO 178 (.call 182 [(LT 177)]),LM 179 9,LO 180 (.call 182 [(LT 179)]),LM 4 178,LM 5 180] .ret))))))))))))
def wC:aU:=⟨181,[(.tmp 4),(.tmp 5)],sL⟩
theorem Lk:fQ 183=some wC:=by kernel_rfl
def gK:aE:=(.seq (LS [LM 3 0,LO 4 (.len (LT 3)),LO 5 (.bin .gtr (LT 4) (LI 0)),LM 6 5,LY 6 7 (.mv (LT 0)),LY 6 8 (.mv (LT 0)),LY 6 9 (.len (LT 8)),LY 6 10 (.bin .sub (LT 9) (LI 1)),LY 6 11 (.iaddr 1 (LT 7) (LT 10)),LY 6 12 (LL 11),LY 6 13 (.bin .eql (LT 12) (.const (.int .u32 0))),LO 14 (.pick (LT 6) (LT 13) LF)] (.cond (LT 14) .skip (.exit 0))) (.block 1 (.cV [LM 15 0,LM 16 0,LO 17 (.len (LT 16)),LO 18 (.bin .sub (LT 17) (LI 1)),LO 19 (.sub 1 (LT 15) none (some (LT 18)) none),LM 0 19])))
def vN:aE:=(LS [LO 2 (.mv (.const (.slice none 0 0)))] (.seq (.block 0 (.loop gK)) (LS [LM 20 0,LM 2 20] .ret)))
def Ab:aU:=⟨21,[(.tmp 2)],vN⟩
theorem B9:fQ 182=some Ab:=by kernel_rfl
def pD:aE:=(.seq (LS [LM 11 0,LO 12 (.len (LT 11)),LO 13 (.bin .gtr (LT 12) (LI 0))] (.cond (LT 13) .skip (.exit 0))) (.block 1 (LS [LM 15 0,LO 16 (.call 197 [(LT 15),(.const (.int .u32 1000000000))]),LM 14 16,LO 17 (LX 14 0),LO 18 (LX 14 1),LM 4 17,LM 5 18] (LS [LM 19 5,LO 20 (.cvt .u64 (LT 19)),LO 21 (.call 214 [(LT 20),(LI 10)]),LM 6 21] (.seq (LS [LM 22 4,LO 23 (.len (LT 22)),LO 24 (.bin .gtr (LT 23) (LI 0))] (.cond (LT 24) (.cV [LM 25 6,LO 26 (.slen (LT 25)),LO 27 (.bin .sub (LI 9) (LT 26)),LO 28 (.call 215 [(.const (.string ⟨#[48]⟩)),(LT 27)]),LM 29 6,LO 30 (.bin .add (LT 28) (LT 29)),LM 6 30]) .skip)) (.cV [LM 31 3,LM 32 6,LO 33 (.lit [(.string ⟨#[]⟩)] 1 [(0,(LT 32))]),LO 34 (.app 1 16 (LT 31) (LT 33)),LM 35 4,LM 3 34,LM 0 35]))))))
def wD:aE:=(LS [LO 2 (.mv (.const (.string ⟨#[]⟩)))] (.seq (LS [LM 7 0,LO 8 (.len (LT 7)),LO 9 (.bin .eql (LT 8) (LI 0))] (.cond (LT 9) (LS [LO 2 (.mv (.const (.string ⟨#[48]⟩)))] .ret) .skip)) (LS [LO 10 (.lit [(.string ⟨#[]⟩)] 0 []),LM 3 10] (.seq (.block 0 (.loop pD)) (LS [LM 36 3,LO 37 (.call 216 [(LT 36)])] (LS [LM 38 3,LO 39 (.call 217 [(LT 38),(.const (.string ⟨#[]⟩))]),LM 2 39] .ret))))))
def zZ:aU:=⟨40,[(.tmp 2)],wD⟩
theorem JD:fQ 196=some zZ:=by kernel_rfl
def mI:aE:=(LS [LO 31 (.bin .lss (LT 30) (LT 29))] (.seq (.cond (LT 31) .skip (.exit 0)) (.seq (.block 1 (LS [LM 32 30,LM 5 32] (LS [LM 33 0,LM 34 5,LO 35 (.sidx (LT 33) (LT 34)),LO 36 (.bin .lss (LT 35) (.const (.int .u8 48))),LM 37 36,LZ 37 38 (.mv (LT 0)),LZ 37 39 (.mv (LT 5)),LZ 37 40 (.sidx (LT 38) (LT 39)),LZ 37 41 (.bin .gtr (LT 40) (.const (.int .u8 57))),LO 42 (.pick (LT 37) LG (LT 41))] (.cond (LT 42) (LS [LO 2 (.mv (.const (.slice none 0 0))),LO 3 (.mv LF)] .ret) .skip)))) (.cV [LO 43 (.bin .add (LT 30) (LI 1)),LM 30 43]))))
def uJ:aE:=(LS [LO 60 (.bin .lss (LT 59) (LT 58))] (.seq (.cond (LT 60) .skip (.exit 4)) (.seq (.block 5 (.cV [LM 61 9,LO 62 (.bin .mul (LT 61) (.const (.int .u64 10))),LM 9 62])) (.cV [LO 63 (.bin .add (LT 59) (LI 1)),LM 59 63]))))
def pS:aE:=(.seq (LS [LM 44 0,LO 45 (.bin .neq (LT 44) (.const (.string ⟨#[]⟩)))] (.cond (LT 45) .skip (.exit 2))) (.block 3 (LS [LM 46 0,LO 47 (.slen (LT 46)),LO 48 (.bin .rem (LT 47) (LI 9)),LM 6 48] (.seq (LS [LM 49 6,LO 50 (.bin .eql (LT 49) (LI 0))] (.cond (LT 50) (.cV [LO 6 (.mv (LI 9))]) .skip)) (LS [LM 52 0,LM 53 6,LO 54 (.ssub (LT 52) none (some (LT 53))),LO 55 (.call 192 [(LT 54),(LI 10),(LI 64)]),LM 51 55,LO 56 (LX 51 0),LO 57 (LX 51 1),LM 7 56,LM 8 57] (LS [LO 9 (.mv (.const (.int .u64 1)))] (.seq (LS [LM 58 6,LO 59 (.mv (LI 0))] (.block 4 (.loop uJ))) (.cV [LM 64 4,LM 65 9,LQ 66 (.call 139 [(LT 65)]),LQ 67 (.call 143 [(LT 64),(LT 66)]),LM 68 7,LQ 69 (.call 139 [(LT 68)]),LQ 70 (.call 145 [(LT 67),(LT 69)]),LM 71 0,LM 72 6,LO 73 (.ssub (LT 71) (some (LT 72)) none),LM 4 70,LM 0 73]))))))))
def oA:aE:=(LS [LO 2 (.mv (.const (.slice none 0 0))),LO 3 (.mv LF)] (.seq (LS [LM 10 0,LO 11 (.bin .eql (LT 10) (.const (.string ⟨#[]⟩))),LM 12 11,LZ 12 13 (.mv (LT 0)),LZ 12 14 (.slen (LT 13)),LZ 12 15 (.bin .gtr (LT 14) (LI 200)),LO 16 (.pick (LT 12) LG (LT 15)),LM 17 16,LZ 17 18 (.mv (LT 0)),LZ 17 19 (.sidx (LT 18) (LI 0)),LZ 17 20 (.bin .eql (LT 19) (.const (.int .u8 48))),LZ 17 21 (.mv (LT 20)),LY 21 22 (.mv (LT 0)),LY 21 23 (.slen (LT 22)),LY 21 24 (.bin .gtr (LT 23) (LI 1)),LZ 17 25 (.pick (LT 21) (LT 24) LF),LO 26 (.pick (LT 17) LG (LT 25))] (.cond (LT 26) (LS [LO 2 (.mv (.const (.slice none 0 0))),LO 3 (.mv LF)] .ret) .skip)) (LS [LO 27 (.lit [(.int .u32 0)] 0 []),LM 4 27] (.seq (LS [LM 28 0,LO 29 (.slen (LT 28)),LO 30 (.mv (LI 0))] (.block 0 (.loop mI))) (.seq (.block 2 (.loop pS)) (LS [LM 74 4,LM 2 74,LO 3 (.mv LG)] .ret))))))
def sS:aU:=⟨75,[(.tmp 2),(.tmp 3)],oA⟩
theorem PC:fQ 174=some sS:=by kernel_rfl
def nL:aE:=(.seq (LS [LM 9 5,LO 10 (.bin .geq (LT 9) (LI 0)),LM 11 10,LY 11 12 (.mv (LT 0)),LY 11 13 (.len (LT 12)),LY 11 14 (.bin .leq (LT 13) (LI 2)),LO 15 (.pick (LT 11) (LT 14) LF)] (.cond (LT 15) .skip (.exit 0))) (.seq (.block 1 (.cV [LM 18 4,LO 19 (.bin .shl (LT 18) (.const (.int .u64 32))),LM 20 0,LM 21 5,LO 22 (.iaddr 1 (LT 20) (LT 21)),LO 23 (LL 22),LO 24 (.cvt .u64 (LT 23)),LO 25 (.bin .add (LT 19) (LT 24)),LM 4 25])) (.cV [LM 16 5,LO 17 (.bin .sub (LT 16) (LI 1)),LM 5 17])))
def AQ:aE:=(LS [LO 2 (.mv (.const (.int .u64 0))),LO 3 (.mv LF)] (LS [LO 4 (.mv (.const (.int .u64 0)))] (.seq (LS [LM 6 0,LO 7 (.len (LT 6)),LO 8 (.bin .sub (LT 7) (LI 1)),LM 5 8] (.block 0 (.loop nL))) (LS [LM 26 4,LM 27 0,LO 28 (.len (LT 27)),LO 29 (.bin .leq (LT 28) (LI 2)),LM 2 26,LM 3 29] .ret))))
def C0:aU:=⟨30,[(.tmp 2),(.tmp 3)],AQ⟩
theorem HP:fQ 193=some C0:=by kernel_rfl
def pK:aE:=(.seq (LS [LM 15 8,LO 16 (.bin .geq (LT 15) (LI 0))] (.cond (LT 16) .skip (.exit 0))) (.seq (.block 1 (LS [LM 19 7,LO 20 (.bin .shl (LT 19) (.const (.int .u64 32))),LM 21 0,LM 22 8,LO 23 (.iaddr 1 (LT 21) (LT 22)),LO 24 (LL 23),LO 25 (.cvt .u64 (LT 24)),LO 26 (.bin .add (LT 20) (LT 25)),LM 7 26] (LS [LM 27 6,LM 28 8,LM 29 7,LM 30 1,LO 31 (.cvt .u64 (LT 30)),LO 32 (.bin .quo (LT 29) (LT 31)),LO 33 (.cvt .u32 (LT 32)),LO 34 (.iaddr 1 (LT 27) (LT 28)),LN (.store 1 (LT 34) (LT 33))] (.cV [LM 35 7,LM 36 1,LO 37 (.cvt .u64 (LT 36)),LO 38 (.bin .rem (LT 35) (LT 37)),LM 7 38])))) (.cV [LM 17 8,LO 18 (.bin .sub (LT 17) (LI 1)),LM 8 18])))
def xE:aE:=(LS [LO 4 (.mv (.const (.slice none 0 0))),LO 5 (.mv (.const (.int .u32 0)))] (LS [LM 9 0,LO 10 (.len (LT 9)),LO 11 (.make [(.int .u32 0)] 4 (LT 10) (LT 10)),LM 6 11,LO 7 (.mv (.const (.int .u64 0)))] (.seq (LS [LM 12 0,LO 13 (.len (LT 12)),LO 14 (.bin .sub (LT 13) (LI 1)),LM 8 14] (.block 0 (.loop pK))) (LS [LM 39 6,LO 40 (.call 182 [(LT 39)]),LM 41 7,LO 42 (.cvt .u32 (LT 41)),LM 4 40,LM 5 42] .ret))))
def Aj:aU:=⟨43,[(.tmp 4),(.tmp 5)],xE⟩
theorem EP:fQ 197=some Aj:=by kernel_rfl
def qH:aE:=(LS [LO 16 (.bin .lss (LT 15) (LT 14))] (.seq (.cond (LT 16) .skip (.exit 0)) (.seq (.block 1 (LS [LM 17 15,LO 18 (.iaddr 1 (LT 13) (LT 15)),LO 19 (LL 18),LM 6 17,LM 7 19] (LS [LM 20 7,LO 21 (.cvt .u64 (LT 20)),LM 22 1,LO 23 (.bin .shl (LT 21) (LT 22)),LM 8 23] (LS [LM 24 5,LM 25 6,LO 26 (.iaddr 1 (LT 24) (LT 25)),LO 27 (LL 26),LM 28 8,LO 29 (.cvt .u32 (LT 28)),LO 30 (.bin .or (LT 27) (LT 29)),LO 31 (.iaddr 1 (LT 24) (LT 25)),LN (.store 1 (LT 31) (LT 30))] (.cV [LM 32 5,LM 33 6,LO 34 (.bin .add (LT 33) (LI 1)),LM 35 8,LO 36 (.bin .shr (LT 35) (.const (.int .u64 32))),LO 37 (.cvt .u32 (LT 36)),LO 38 (.iaddr 1 (LT 32) (LT 34)),LN (.store 1 (LT 38) (LT 37))]))))) (.cV [LO 39 (.bin .add (LT 15) (LI 1)),LM 15 39]))))
def zE:aE:=(LS [LO 4 (.mv (.const (.slice none 0 0)))] (LS [LM 9 0,LO 10 (.len (LT 9)),LO 11 (.bin .add (LT 10) (LI 1)),LO 12 (.make [(.int .u32 0)] 4 (LT 11) (LT 11)),LM 5 12] (.seq (LS [LM 13 0,LO 14 (.len (LT 13)),LO 15 (.mv (LI 0))] (.block 0 (.loop qH))) (LS [LM 40 5,LM 4 40] .ret))))
def A2:aU:=⟨41,[(.tmp 4)],zE⟩
theorem F4:fQ 199=some A2:=by kernel_rfl
def gR:aE:=(LS [LO 15 (.bin .lss (LT 14) (LT 13))] (.seq (.cond (LT 15) .skip (.exit 0)) (.seq (.block 1 (LS [LM 16 14,LM 9 16] (.seq (LS [LM 17 9,LM 18 1,LO 19 (.len (LT 18)),LO 20 (.bin .lss (LT 17) (LT 19))] (.cond (LT 20) (.cV [LM 21 7,LM 22 2,LM 23 1,LM 24 9,LO 25 (.iaddr 1 (LT 23) (LT 24)),LO 26 (LL 25),LO 27 (.cvt .u64 (LT 26)),LO 28 (.bin .mul (LT 22) (LT 27)),LO 29 (.bin .add (LT 21) (LT 28)),LM 7 29]) .skip)) (LS [LM 30 0,LM 31 9,LO 32 (.iaddr 1 (LT 30) (LT 31)),LO 33 (LL 32),LO 34 (.cvt .i64 (LT 33)),LM 35 7,LO 36 (.cvt .u32 (LT 35)),LO 37 (.cvt .i64 (LT 36)),LO 38 (.bin .sub (LT 34) (LT 37)),LM 39 8,LO 40 (.bin .sub (LT 38) (LT 39)),LM 10 40] (LS [LM 41 7,LO 42 (.bin .shr (LT 41) (.const (.int .u64 32))),LM 7 42] (LS [LO 8 (.mv (LI 0))] (.seq (LS [LM 43 10,LO 44 (.bin .lss (LT 43) (LI 0))] (.cond (LT 44) (.cV [LO 8 (.mv (LI 1))]) .skip)) (.cV [LM 45 0,LM 46 9,LM 47 10,LO 48 (.cvt .u32 (LT 47)),LO 49 (.iaddr 1 (LT 45) (LT 46)),LN (.store 1 (LT 49) (LT 48))])))))))) (.cV [LO 50 (.bin .add (LT 14) (LI 1)),LM 14 50]))))
def nT:aE:=(LS [LO 60 (.bin .lss (LT 59) (LT 58))] (.seq (.cond (LT 60) .skip (.exit 2)) (.seq (.block 3 (LS [LM 61 59,LM 11 61] (LS [LM 62 7,LM 63 0,LM 64 11,LO 65 (.iaddr 1 (LT 63) (LT 64)),LO 66 (LL 65),LO 67 (.cvt .u64 (LT 66)),LO 68 (.bin .add (LT 62) (LT 67)),LM 7 68] (.seq (LS [LM 69 11,LM 70 1,LO 71 (.len (LT 70)),LO 72 (.bin .lss (LT 69) (LT 71))] (.cond (LT 72) (.cV [LM 73 7,LM 74 1,LM 75 11,LO 76 (.iaddr 1 (LT 74) (LT 75)),LO 77 (LL 76),LO 78 (.cvt .u64 (LT 77)),LO 79 (.bin .add (LT 73) (LT 78)),LM 7 79]) .skip)) (LS [LM 80 0,LM 81 11,LM 82 7,LO 83 (.cvt .u32 (LT 82)),LO 84 (.iaddr 1 (LT 80) (LT 81)),LN (.store 1 (LT 84) (LT 83))] (.cV [LM 85 7,LO 86 (.bin .shr (LT 85) (.const (.int .u64 32))),LM 7 86])))))) (.cV [LO 87 (.bin .add (LT 59) (LI 1)),LM 59 87]))))
def Eg:aE:=(LS [LO 6 (.mv LF)] (LS [LO 7 (.mv (.const (.int .u64 0))),LO 8 (.mv (LI 0))] (.seq (LS [LM 12 0,LO 13 (.len (LT 12)),LO 14 (.mv (LI 0))] (.block 0 (.loop gR))) (.seq (LS [LM 51 8,LO 52 (.bin .eql (LT 51) (LI 0)),LM 53 52,LY 53 54 (.mv (LT 7)),LY 53 55 (.bin .eql (LT 54) (.const (.int .u64 0))),LO 56 (.pick (LT 53) (LT 55) LF)] (.cond (LT 56) (LS [LO 6 (.mv LF)] .ret) .skip)) (LS [LO 7 (.mv (.const (.int .u64 0)))] (.seq (LS [LM 57 0,LO 58 (.len (LT 57)),LO 59 (.mv (LI 0))] (.block 2 (.loop nT))) (LS [LO 6 (.mv LG)] .ret)))))))
def HH:aU:=⟨88,[(.tmp 6)],Eg⟩
theorem MK:fQ 200=some HH:=by kernel_rfl
end Go.PM
namespace Go.PM
end Go.PM
namespace Go.PM
end Go.PM
namespace Go.PM
end Go.PM
namespace Go.PM
end Go.PM
namespace Go.PM
theorem Zs {α:Type} {f:α→VV} {e b g c:Nat} {xs:List α} {H:aA} (hp:∀x,aX (f x)=true) (h:aG H b g=some (xs.map f,e,true)) (hc:xs.length≤c):fz depth H (.ref b g 0 xs.length c)=some (aC f xs):=by
 rw[HN h (by simp) hc (fM hp)]
theorem cR {H H':aA} {b g:Nat} {x:List VV×Nat×Bool} (hh:H <+: H') (h:aG H b g=some x):aG H' b g=some x:=by
 obtain⟨L,rfl⟩:=hh
 exact gP h
def Seen {α:Type} (f:α→VV) (xs:List α) (H:aA) (r:VV):Prop:=∀H',H <+: H'→fz depth H' r=some (aC f xs)
theorem Seen.now {α:Type} {f:α→VV} {xs:List α} {H:aA} {r:VV} (h:Seen f xs H r):fz depth H r=some (aC f xs):=h H (List.prefix_refl _)
theorem Seen.pre {α:Type} {f:α→VV} {xs:List α} {H H':aA} {r:VV} (h:Seen f xs H r) (hh:H <+: H'):Seen f xs H' r:=fun Vr h'=>h Vr (hh.trans h')
def LV (lo hi:Nat) (cE:List Int) (H:aA) (v:VV):Prop :=
 (v = .tree [] .nil∧cE=[])∨∃b g c,lo≤b∧b<hi∧v = .ref b g 0 cE.length c∧cE.length≤c∧aG H b g=some (cE.map nV,1,true)
theorem LV.dB {lo hi:Nat} {cE:List Int} {H H':aA} {v:VV} (h:LV lo hi cE H v) (hk:∀b g x,lo≤b→b<hi→aG H b g=some x→aG H' b g=some x):LV lo hi cE H' v:=by
 rcases h with h | ⟨b,g,c,h1,h2,h3,h4,h5⟩
 ·exact .inl h
 ·exact .inr ⟨b,g,c,h1,h2,h3,h4,hk _ _ _ h1 h2 h5⟩
theorem LV.pre {lo hi:Nat} {cE:List Int} {H H':aA} {v:VV} (h:LV lo hi cE H v) (hh:H <+: H'):LV lo hi cE H' v:=h.dB fun _ _ _ _ _=>cR hh
theorem LV.set {lo hi b':Nat} {x:fK} {cE:List Int} {H:aA} {v:VV} (h:LV lo hi cE H v) (hb:b'<lo∨hi≤b'):LV lo hi cE (H.set b' x) v:=h.dB fun _ _ _ h1 h2=>bC (by omega)
theorem LV.fz {lo hi:Nat} {cE:List Int} {H:aA} {v:VV} (h:LV lo hi cE H v):fz depth H v=some (aCd cE):=by
 rcases h with⟨rfl,rfl⟩ | ⟨b,g,c,h1,h2,rfl,h4,h5⟩
 ·exact Xg
 ·exact Zs (fun _=>rfl) h5 h4
end Go.PM
namespace Go.PM
theorem kD {H:aA} {g e:Nat} {es:List VV} {w:Bool}:aG (H++[.row g es e w]) H.length g=some (es,e,w):=FF (i:=0) rfl
theorem Oa {H:aA} {x y:fK}:(H++[x]).set H.length y=H++[y]:=by
 rw[aL0 _ _ (aKl _),aKE,List.set_cons_zero]
theorem BS {H K:aA} {g:Nat}:aG (H++K) H.length g=aG K 0 g:=by
 unfold aG
 rw[aKD (aKl _),aKE]
theorem NA {H K:aA} {g k:Nat}:aG (H++K) (H.length+k) g=aG K k g:=by
 unfold aG
 rw[aKD (aMd _ _),aMc]
theorem Sf {H K:aA} {y:fK}:(H++K).set H.length y=H++K.set 0 y:=by
 rw[aL0 _ _ (aKl _),aKE]
theorem axV {H K:aA} {y:fK} {k:Nat}:(H++K).set (H.length+k) y=H++K.set k y:=by
 rw[aL0 _ _ (aMd _ _),aMc]
theorem adY {H:aA} {z:List Value} {v:VV} (hz:(z.map kZ).all bL=true) (hv:(aB v).length=z.length) (hs:(aB v).all bL=true):oD true z 1 [(0,v)] H=some (.ref H.length 0 0 1 1,H++[.row 0 [v] z.length true]):=by
 simp[oD,yP,hz,hv,hs]
def Dl (n:Nat) (H:aA):Prop:=∃L,H=aLb n .dead++L∧mX n L=true
theorem Dl.app {n g e:Nat} {es:List VV} {w:Bool} {H:aA} (h:Dl n H) (ho:Ap n es=true):Dl n (H++[.row g es e w]):=by
 obtain⟨L,rfl,hL⟩:=h
 exact⟨L++[.row g es e w],by rw[aL7],by simp only[mX,List.all_append,Bool.and_eq_true,List.all_cons,List.all_nil,and_true];exact⟨hL,ho⟩⟩
theorem Dl.set {n b g e:Nat} {es:List VV} {w:Bool} {H:aA} (h:Dl n H) (hb:n≤b) (ho:Ap n es=true):Dl n (H.set b (.row g es e w)):=by
 obtain⟨L,rfl,hL⟩:=h
 refine⟨L.set (b-n) (.row g es e w),by rw[aL0 _ _ (by simpa using hb),aMa],?_⟩
 unfold mX at hL ⊢
 rw[List.all_eq_true] at hL ⊢
 intro x hx
 rcases List.mem_or_eq_of_mem_set hx with h | rfl
 ·exact hL x h
 ·exact ho
theorem Dl.len {n:Nat} {H:aA} (h:Dl n H):n≤H.length:=by
 obtain⟨L,rfl,_⟩:=h
 simp
def aEv (r:Nat×List Int):VV := .ref r.1 0 0 r.2.length r.2.length
structure aBr (lo hi b:Nat) (H:aA) (rs:List (Nat×List Int)):Prop where
 nd:(rs.map (·.1)).Nodup
 row:∀r∈rs,lo≤r.1∧r.1<hi∧r.1≠b∧aG H r.1 0=some (r.2.map nV,1,true)
def RR (lo hi:Nat) (cE:List (List Int)) (H:aA) (v:VV):Prop :=
 (v = .tree [] .nil∧cE=[])∨∃b g c rs,lo≤b∧b<hi∧v = .ref b g 0 cE.length c∧cE.length≤c∧aG H b g=some (rs.map aEv,1,true)∧rs.map (·.2)=cE∧aBr lo hi b H rs
theorem RR.dB {lo hi:Nat} {cE:List (List Int)} {H H':aA} {v:VV} (h:RR lo hi cE H v) (hk:∀b g x,lo≤b→b<hi→aG H b g=some x→aG H' b g=some x):RR lo hi cE H' v:=by
 rcases h with h | ⟨b,g,c,rs,h1,h2,h3,h4,h5,h6,h7⟩
 ·exact .inl h
 ·exact .inr ⟨b,g,c,rs,h1,h2,h3,h4,hk _ _ _ h1 h2 h5,h6,h7.nd,fun r hr=>by
   obtain⟨k1,k2,k3,k4⟩:=h7.row r hr
   exact⟨k1,k2,k3,hk _ _ _ k1 k2 k4⟩⟩
theorem RR.pre {lo hi:Nat} {cE:List (List Int)} {H H':aA} {v:VV} (h:RR lo hi cE H v) (hh:H <+: H'):RR lo hi cE H' v:=h.dB fun _ _ _ _ _=>cR hh
theorem RR.set {lo hi b':Nat} {x:fK} {cE:List (List Int)} {H:aA} {v:VV} (h:RR lo hi cE H v) (hb:b'<lo∨hi≤b'):RR lo hi cE (H.set b' x) v:=h.dB fun _ _ _ h1 h2=>bC (by omega)
theorem mapM_map {α:Type} {g:VV→Option VV} {f f':α→VV}:∀ {xs:List α},(∀x∈xs,g (f x)=some (f' x))→(xs.map f).mapM g=some (xs.map f')
 | [],_=>rfl
 |
  x::xs,h=>by
  rw[List.map_cons,List.mapM_cons,h x List.mem_cons_self,mapM_map fun y hy=>h y (List.mem_cons_of_mem _ hy)]
  rfl
theorem Kr {H L:aA} {b g:Nat} {x:List VV×Nat×Bool} (hb:H.length≤b) (h:aG (aLb H.length .dead++L) b g=some x):aG (H++L) b g=some x:=by
 obtain⟨es,e,w⟩:=x
 rw[cH] at h ⊢
 rw[aKD (by simpa using hb),aMa] at h
 rw[aKD hb]
 exact h
end Go.PM
namespace Go.PM
abbrev lW (xs:List (List ByteArray)):VV:=aC gB xs
theorem AL (xs:List (List ByteArray)):aX (lW xs)=true:=mN (size:=1) (fun _=>rfl) jD
theorem JX (xs ys:List (List ByteArray)) (hn:xs.length≤1000000000) (I1:∀x∈xs,x.length≤1000000000):TC 73 [lW xs,lW ys] (.sc (.bool (decide (xs=ys)))):=by
 refine TC.walk ⟨true,false⟩ IT rfl (aL9 rfl) (by simp[aO,AL]) rfl ?_
 by_cases hl:(xs.length:Int)=(ys.length:Int)
 ·simp only[Ae,wV,hl,VX,Nat.reduceEqDiff,Nat.reduceAdd]
  refine aR (fun(i:Nat) ρ H=>i≤xs.length∧H=[]∧xs.take i=ys.take i∧ρ 0=lW xs∧ρ 1=lW ys∧ρ 5=VI i) (fun i=>xs.length-i) 0 ⟨aKP _,rfl,by simp,rfl,rfl,rfl⟩ ?_
  rintro i ρ H ⟨hi,rfl,ht,h0,h1,h5⟩
  by_cases bX:(i:Int)<(xs.length:Int)
  ·obtain⟨x,hx⟩:∃x,xs[i]? = some x:=⟨_,aKs (by omega)⟩
   obtain⟨y,hy⟩:∃y,ys[i]? = some y:=⟨_,aKs (by omega)⟩
   have e1:=aI (f:=gB) (t := .op) (H:=[]) (size:=1) (k := .i64) hx rfl
   have e2:=aI (f:=gB) (t := .op) (H:=[]) (size:=1) (k := .i64) hy rfl
   have e3:=CI x y (I1 x (aLf hx))
   have wi:IntKind.i64.wrap ((i:Int)+1)=((i+1:Nat):Int):=wrapN (i+1) (by omega) (by omega)
   by_cases CB:x=y
   ·subst CB
    rw[decide_eq_true rfl] at e3
    simp only[oQ,e3,h0,h1,h5,bX,e1,e2,wi,VX,Nat.reduceEqDiff,Nat.reduceAdd]
    refine⟨i+1,by omega,by omega,?_⟩
    rw[aMb,aMb,hx,hy,ht]
    (repeat' apply aL1)<;>first | rfl | trivial
   ·rw[decide_eq_false CB] at e3
    simp only[oQ,e3,h0,h1,h5,bX,e1,e2,VX,Nat.reduceEqDiff,Nat.reduceAdd]
    have:¬xs=ys:=fun h=>CB (by rw[h,hy] at hx;injection hx with hx;exact hx.symm)
    simp only[this,decide_false]
    exact aH rfl
  ·simp only[oQ,h0,h1,h5,bX,VX,Nat.reduceEqDiff,Nat.reduceAdd]
   have:xs=ys:=by
    rw[aLe (by omega),aLe (by omega)] at ht
    exact ht
   simp only[this,decide_true]
   exact aH rfl
 ·simp only[Ae,wV,hl,VX,Nat.reduceEqDiff,Nat.reduceAdd]
  have:¬xs=ys:=fun h=>hl (by rw[h])
  simp only[this,decide_false]
  exact aH rfl
def szL:List ByteArray→Int→Int
 | [],l=>l
 | x::xs,l=>if l-x.size<0 then -1 else szL xs (l-x.size)
def HK (xs:List ByteArray) (left:Int):Int:=if left-xs.length<0 then -1 else szL xs (left-xs.length)
def U0:List (List ByteArray)→Int→Int
 | [],l=>l
 | x::xs,l=>if HK x l<0 then -1 else U0 xs (HK x l)
def Fe (xs:List (List ByteArray)) (left:Int):Int:=if left-xs.length<0 then -1 else U0 xs (left-xs.length)
theorem amT:∀(xs:List ByteArray) (l:Int),0≤szL xs l→szL xs l≤l∧∀x∈xs,(x.size:Int)≤l
 | [],l,_=>⟨Int.le_refl _,fun x hx=>(by cases hx)⟩
 |
  x::xs,l,h=>by
  unfold szL at h ⊢
  split at h
  ·omega
  ·rename_i hc
   rw[if_neg hc]
   obtain⟨h1,h2⟩:=amT xs _ h
   refine⟨by omega,fun y hy => ?_⟩
   rcases List.mem_cons.1 hy with rfl | hy
   ·omega
   ·have:=h2 y hy;omega
theorem ID {xs:List ByteArray} {l:Int} (h:0≤HK xs l):HK xs l≤l∧(xs.length:Int)≤l∧∀x∈xs,(x.size:Int)≤l:=by
 unfold HK at h ⊢
 split at h
 ·omega
 ·rename_i hc
  rw[if_neg hc]
  obtain⟨h1,h2⟩:=amT _ _ h
  exact⟨by omega,by omega,fun x hx=>by have:=h2 x hx;omega⟩
theorem ZK:∀(xs:List (List ByteArray)) (l:Int),0≤U0 xs l→U0 xs l≤l∧∀x∈xs,(x.length:Int)≤l∧∀y∈x,(y.size:Int)≤l
 | [],l,_=>⟨Int.le_refl _,fun x hx=>(by cases hx)⟩
 |
  x::xs,l,h=>by
  unfold U0 at h ⊢
  split at h
  ·omega
  ·rename_i hc
   rw[if_neg hc]
   obtain⟨h1,h2⟩:=ZK xs _ h
   obtain⟨h3,h4,h5⟩:=ID (xs:=x) (l:=l) (by omega)
   refine⟨by omega,fun y hy => ?_⟩
   rcases List.mem_cons.1 hy with rfl | hy
   ·exact⟨h4,h5⟩
   ·obtain⟨h6,h7⟩:=h2 y hy
    exact⟨by omega,fun z hz=>by have:=h7 z hz;omega⟩
theorem Sw {xs:List (List ByteArray)} {l:Int} (h:0≤Fe xs l):Fe xs l≤l∧(xs.length:Int)≤l∧∀x∈xs,(x.length:Int)≤l∧∀y∈x,(y.size:Int)≤l:=by
 unfold Fe at h ⊢
 split at h
 ·omega
 ·rename_i hc
  rw[if_neg hc]
  obtain⟨h1,h2⟩:=ZK _ _ h
  exact⟨by omega,by omega,fun x hx=>⟨by have:=(h2 x hx).1;omega,fun y hy=>by have:=(h2 x hx).2 y hy;omega⟩⟩
def okS (xs:List ByteArray):Prop:=xs.length≤9223372036854775807∧∀x∈xs,x.size≤9223372036854775807
def aCi (xs:List (List ByteArray)):Prop:=xs.length≤9223372036854775807∧∀x∈xs,okS x
theorem UW {α:Type} {l:List α} {i:Nat} {x:α} (h:l[i]? = some x):l.drop i=x::l.drop (i+1):=by
 have bF:=aKk.1 h
 rw[List.drop_eq_getElem_cons bF.1,bF.2]
theorem xV (xs:List ByteArray) (left:Int) (hx:okS xs) (hl:0≤left∧left≤1000000):TC 32 [gB xs,VI left] (VI (HK xs left)):=by
 refine TC.walk ⟨true,false⟩ C8 rfl (aL9 rfl) (by simp[aO,jD];rfl) rfl ?_
 have hn:=hx.1
 have w:IntKind.i64.wrap (left-(xs.length:Int))=left-(xs.length:Int):=wrap64 (by omega) (by omega)
 by_cases h:left-(xs.length:Int)<0
 ·simp only[vV,sR,w,h,VX,Nat.reduceEqDiff,Nat.reduceAdd]
  unfold HK
  rw[if_pos h]
  exact aH rfl
 simp only[vV,sR,w,h,VX,Nat.reduceEqDiff,Nat.reduceAdd]
 refine aR (fun(s:Nat×Int) ρ H=>s.1≤xs.length∧H=[]∧0≤s.2∧s.2≤left∧szL (xs.drop s.1) s.2=HK xs left∧ρ 0=gB xs∧ρ 1=VI s.2∧ρ 5=VI s.1) (fun s=>xs.length-s.1) (0,left-xs.length) ⟨aKP _,rfl,by simp only;omega,by simp only;omega,by unfold HK;rw[if_neg h];rfl,rfl,rfl,rfl⟩ ?_
 rintro⟨i,l⟩ ρ H ⟨hi,rfl,Cf,Dw,hs,h0,h1,h5⟩
 simp only at hi Cf Dw hs h1 h5
 by_cases bX:(i:Int)<(xs.length:Int)
 ·obtain⟨x,I1⟩:∃x,xs[i]? = some x:=⟨_,aKs (by omega)⟩
  have DO:=hx.2 x (aLf I1)
  have e1:=aI (f:=sV) (t := .op) (H:=[]) (size:=1) (k := .i64) I1 rfl
  have e2:Ak (.string x)=some (.int .i64 (x.size:Int)):=rfl
  have wi:IntKind.i64.wrap ((i:Int)+1)=((i+1:Nat):Int):=wrapN (i+1) (by omega) (by omega)
  have w1:IntKind.i64.wrap (l-(x.size:Int))=l-(x.size:Int):=wrap64 (by omega) (by omega)
  rw[UW I1,szL] at hs
  by_cases jV:l-(x.size:Int)<0
  ·rw[if_pos jV] at hs
   simp only[qN,h0,h1,h5,bX,e1,e2,w1,jV,VX,Nat.reduceEqDiff,Nat.reduceAdd]
   rw[←hs]
   exact aH rfl
  ·rw[if_neg jV] at hs
   simp only[qN,h0,h1,h5,bX,e1,e2,w1,jV,wi,VX,Nat.reduceEqDiff,Nat.reduceAdd]
   exact⟨(i+1,l-x.size),by simp only;omega,by simp only;omega,by simp only;omega,by simp only;omega,hs,by (repeat' apply aL1)<;>first | rfl | trivial⟩
 ·have nC:i=xs.length:=by omega
  subst nC
  rw[aMe (aKl _),szL] at hs
  simp only[qN,h0,h1,h5,bX,VX,Nat.reduceEqDiff,Nat.reduceAdd]
  rw[hs]
  exact aH rfl
theorem JK (xs:List (List ByteArray)) (left:Int) (hx:aCi xs) (hl:0≤left∧left≤1000000):TC 15 [lW xs,VI left] (VI (Fe xs left)):=by
 refine TC.walk ⟨true,false⟩ JN rfl (aL9 rfl) (by simp[aO,AL];rfl) rfl ?_
 have hn:=hx.1
 have w:IntKind.i64.wrap (left-(xs.length:Int))=left-(xs.length:Int):=wrap64 (by omega) (by omega)
 by_cases h:left-(xs.length:Int)<0
 ·simp only[zT,vP,w,h,VX,Nat.reduceEqDiff,Nat.reduceAdd]
  unfold Fe
  rw[if_pos h]
  exact aH rfl
 simp only[zT,vP,w,h,VX,Nat.reduceEqDiff,Nat.reduceAdd]
 refine aR (fun(s:Nat×Int) ρ H=>s.1≤xs.length∧H=[]∧0≤s.2∧s.2≤left∧U0 (xs.drop s.1) s.2=Fe xs left∧ρ 0=lW xs∧ρ 1=VI s.2∧ρ 5=VI s.1) (fun s=>xs.length-s.1) (0,left-xs.length) ⟨aKP _,rfl,by simp only;omega,by simp only;omega,by unfold Fe;rw[if_neg h];rfl,rfl,rfl,rfl⟩ ?_
 rintro⟨i,l⟩ ρ H ⟨hi,rfl,Cf,Dw,hs,h0,h1,h5⟩
 simp only at hi Cf Dw hs h1 h5
 by_cases bX:(i:Int)<(xs.length:Int)
 ·obtain⟨x,I1⟩:∃x,xs[i]? = some x:=⟨_,aKs (by omega)⟩
  have e1:=aI (f:=gB) (t := .op) (H:=[]) (size:=1) (k := .i64) I1 rfl
  have e2:=xV x l (hx.2 x (aLf I1)) (by omega)
  have wi:IntKind.i64.wrap ((i:Int)+1)=((i+1:Nat):Int):=wrapN (i+1) (by omega) (by omega)
  rw[UW I1,U0] at hs
  by_cases jV:HK x l<0
  ·rw[if_pos jV] at hs
   simp only[pC,h0,h1,h5,bX,e1,e2,jV,VX,Nat.reduceEqDiff,Nat.reduceAdd]
   rw[←hs]
   exact aH rfl
  ·rw[if_neg jV] at hs
   have hle:=ID (xs:=x) (l:=l) (by omega)
   simp only[pC,h0,h1,h5,bX,e1,e2,jV,wi,VX,Nat.reduceEqDiff,Nat.reduceAdd]
   exact⟨(i+1,HK x l),by simp only;omega,by simp only;omega,by simp only;omega,by simp only;omega,hs,by (repeat' apply aL1)<;>first | rfl | trivial⟩
 ·have nC:i=xs.length:=by omega
  subst nC
  rw[aMe (aKl _),U0] at hs
  simp only[pC,h0,h1,h5,bX,VX,Nat.reduceEqDiff,Nat.reduceAdd]
  rw[hs]
  exact aH rfl
end Go.PM