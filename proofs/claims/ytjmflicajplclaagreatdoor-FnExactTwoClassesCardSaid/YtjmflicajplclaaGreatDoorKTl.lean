/- Texts of a claim, in one: part 12. -/
import Derived.KernelRfl
import Derived.Test.YtjmflicajplclaaGreatDoorKTk
set_option linter.unusedSimpArgs false
set_option linter.unusedVariables false
namespace Go.PM
def kP:aD:=(LS [LO 13 (.bin .lss (LT 12) (LT 11))] (.seq (.cond (LT 13) .skip (.exit 0)) (.seq (.block 1 (LS [LO 14 (.iaddr 1 (LT 10) (LT 12)),LO 15 (LL 14),LM 6 15] (LS [LM 17 6,LO 18 (.call 159 [(LT 17)]),LM 16 18,LO 19 (LX 16 0),LO 20 (LX 16 1),LO 7 (.new [(.bool false),(.slice none 0 0),(.slice none 0 0)]),LN (.store 3 (LT 7) (LT 19)),LM 8 20] (.seq (LS [LM 21 8,LO 22 (.un .not (LT 21))] (.cond (LT 22) (LS [LO 2 (.mv (.const (.slice none 0 0))),LO 3 (.mv LF)] .ret) .skip)) (.dC [LM 23 4,LO 24 (LK 7),LO 25 (.lit [(.bool false),(.slice none 0 0),(.slice none 0 0)] 1 [(0,(LT 24))]),LO 26 (.app 3 56 (LT 23) (LT 25)),LM 4 26]))))) (.dC [LO 27 (.bin .add (LT 12) (LI 1)),LM 12 27]))))
def AE:aD:=(LS [LO 2 (.mv (.const (.slice none 0 0))),LO 3 (.mv LF)] (LS [LO 9 (.lit [(.bool false),(.slice none 0 0),(.slice none 0 0)] 0 []),LM 4 9] (.seq (LS [LM 10 0,LO 11 (.len (LT 10)),LO 12 (.mv (LI 0))] (.block 0 (.loop kP))) (LS [LM 28 4,LM 2 28,LO 3 (.mv LG)] .ret))))
def C6:aR:=⟨29,[(.tmp 2),(.tmp 3)],AE⟩
theorem HV:fR 92=some C6:=by kernel_rfl
def By:aD:=(LS [LO 15 (.bin .lss (LT 14) (LT 13))] (.seq (.cond (LT 15) .skip (.exit 0)) (.seq (.block 1 (LS [LO 16 (.iaddr 1 (LT 12) (LT 14)),LO 17 (LL 16),LM 5 17] (LS [LM 18 5,LO 19 (.call 70 [(LT 18)]),LO 6 (.new [(.bool false),(.slice none 0 0),(.slice none 0 0)]),LN (.store 3 (LT 6) (LT 19))] (LS [LO 20 (LK 6),LO 21 (LK 3),LO 22 (.call 148 [(LT 20),(LT 21)]),LO 23 (.bin .gtr (LT 22) (LI 0))] (.cond (LT 23) (.dC [LO 24 (LK 6),LN (.store 3 (LT 3) (LT 24))]) .skip))))) (.dC [LO 25 (.bin .add (LT 14) (LI 1)),LM 14 25]))))
def BK:aD:=(LS [LO 30 (.bin .lss (LT 29) (LT 28))] (.seq (.cond (LT 30) .skip (.exit 2)) (.seq (.block 3 (LS [LM 31 29,LO 32 (.iaddr 1 (LT 27) (LT 29)),LO 33 (LL 32),LM 8 31,LM 9 33] (LS [LM 34 9,LO 35 (LK 3),LO 36 (.call 149 [(LT 34),(LT 35)]),LM 10 36] (LS [LM 37 10,LM 38 8,LO 39 (.call 64 [(LI 1)]),LM 40 10,LO 41 (.call 70 [(LT 40)]),LO 42 (.call 128 [(LT 39),(LT 41)]),LO 43 (.iaddr 3 (LT 37) (LT 38)),LN (.store 3 (LT 43) (LT 42))] (.dC [LM 44 7,LM 45 10,LO 46 (.lit [(.slice none 0 0)] 1 [(0,(LT 45))]),LO 47 (.app 1 24 (LT 44) (LT 46)),LM 7 47]))))) (.dC [LO 48 (.bin .add (LT 29) (LI 1)),LM 29 48]))))
def JA:aD:=(LS [LO 2 (.mv (.const (.slice none 0 0)))] (LS [LO 11 (.call 64 [(LI 0)]),LO 3 (.new [(.bool false),(.slice none 0 0),(.slice none 0 0)]),LN (.store 3 (LT 3) (LT 11))] (.seq (LS [LM 12 0,LO 13 (.len (LT 12)),LO 14 (.mv (LI 0))] (.block 0 (.loop By))) (LS [LO 26 (.lit [(.slice none 0 0)] 0 []),LM 7 26] (.seq (LS [LM 27 0,LO 28 (.len (LT 27)),LO 29 (.mv (LI 0))] (.block 2 (.loop BK))) (LS [LM 49 7,LM 2 49] .ret))))))
def NP:aR:=⟨50,[(.tmp 2)],JA⟩
theorem QT:fR 72=some NP:=by kernel_rfl
def zD:aD:=(LS [LO 10 (.new [(.slice none 0 0)]),LO 11 (.mv LF)] (LS [LM 12 0,LM 13 1,LM 14 2,LM 15 3,LM 16 4,LO 17 (.call 106 [(LT 12),(LT 13),(LT 14),(LT 15),(LT 16)]),LO 18 (LX 17 0),LO 19 (LX 17 1),LO 20 (.call 103 [(LT 18),(LT 19)]),LO 21 (LX 20 0),LO 22 (LX 20 1),LN (.store 1 (LT 10) (LT 21)),LM 11 22] .ret))
def B8:aR:=⟨23,[(.cell 10 true 1),(.tmp 11)],zD⟩
theorem Hg:fR 41=some B8:=by kernel_rfl
def A5:aD:=(LS [LO 2 (.mv (.const (.slice none 0 0)))] (LS [LM 3 0,LO 4 (.call 99 [(LT 3)]),LM 2 4] .ret))
def Dv:aR:=⟨5,[(.tmp 2)],A5⟩
theorem HZ:fR 94=some Dv:=by kernel_rfl
def oB:aD:=(LS [LO 7 (.box (LT 3))] (LS [LM 8 1,LM 9 2,LO 10 (.bin .neq (LT 8) (LT 9))] (.cond (LT 10) (.dC [LM 11 0,LM 12 1,LO 13 (.iaddr 1 (LT 11) (LT 12)),LO 14 (LL 13),LM 15 2,LM 16 0,LM 17 1,LO 18 (.iaddr 1 (LT 16) (LT 17)),LO 19 (LL 18),LM 20 2,LO 21 (.iaddr 3 (LT 19) (LT 20)),LO 22 (LK 21),LO 23 (LK 7),LQ 24 (.call 69 [(LT 22),(LT 23)]),LO 25 (.iaddr 3 (LT 14) (LT 15)),LN (.store 3 (LT 25) (LT 24))]) .skip)))
def qY:aR:=⟨26,[],oB⟩
theorem DC:fR 95=some qY:=by kernel_rfl
def sJ:aD:=(LS [LO 4 (.new [(.slice none 0 0)]),LO 5 (.mv LF)] (.seq (LS [LM 6 1,LO 7 (.un .not (LT 6))] (.cond (LT 7) (LS [LO 8 (.build [(.slice none 0 0)] [(0,1)] []),LN (.store 1 (LT 4) (LT 8)),LO 5 (.mv LF)] .ret) .skip)) (LS [LM 9 0,LO 10 (.call 71 [(LT 9)]),LO 11 (LX 10 0),LO 12 (LX 10 1),LN (.store 1 (LT 4) (LT 11)),LM 5 12] .ret)))
def vL:aR:=⟨13,[(.cell 4 true 1),(.tmp 5)],sJ⟩
theorem Gq:fR 103=some vL:=by kernel_rfl
def qX:aD:=(LS [LO 61 (.bin .lss (LT 60) (LT 59))] (.seq (.cond (LT 61) .skip (.exit 2)) (.seq (.block 3 (LS [LM 62 60,LM 17 62] (LS [LM 63 14,LM 64 15,LM 65 16,LM 66 17,LQ 67 (.callv (LT 64) [(LT 65),(LT 66)]),LM 68 15,LM 69 16,LO 70 (.bin .add (LT 69) (LI 1)),LM 71 3,LO 72 (.min (LT 70) (LT 71)),LM 73 17,LQ 74 (.callv (LT 68) [(LT 72),(LT 73)]),LM 75 12,LO 76 (.iaddr 3 (LT 75) (LI 0)),LO 77 (LK 76),LO 78 (.call 95 [(LT 63),(LT 67),(LT 74),(LT 77)])] (LS [LM 79 14,LM 80 15,LM 81 16,LM 82 17,LQ 83 (.callv (LT 80) [(LT 81),(LT 82)]),LM 84 15,LM 85 16,LM 86 17,LO 87 (.bin .add (LT 86) (LI 1)),LO 88 (LL 9),LO 89 (.min (LT 87) (LT 88)),LQ 90 (.callv (LT 84) [(LT 85),(LT 89)]),LM 91 12,LO 92 (.iaddr 3 (LT 91) (LI 1)),LO 93 (LK 92),LO 94 (.call 95 [(LT 79),(LT 83),(LT 90),(LT 93)])] (LS [LM 95 16,LO 96 (.bin .gtr (LT 95) (LI 0))] (.cond (LT 96) (.dC [LM 97 14,LM 98 15,LM 99 16,LM 100 17,LQ 101 (.callv (LT 98) [(LT 99),(LT 100)]),LM 102 15,LM 103 16,LO 104 (.bin .sub (LT 103) (LI 1)),LM 105 17,LQ 106 (.callv (LT 102) [(LT 104),(LT 105)]),LM 107 12,LO 108 (.iaddr 3 (LT 107) (LI 2)),LO 109 (LK 108),LO 110 (.call 95 [(LT 97),(LT 101),(LT 106),(LT 109)])]) (.dC [LM 111 14,LM 112 15,LM 113 16,LM 114 17,LQ 115 (.callv (LT 112) [(LT 113),(LT 114)]),LM 116 15,LM 117 16,LM 118 17,LO 119 (.bin .sub (LT 118) (LI 1)),LO 120 (.max (LT 119) (LI 0)),LQ 121 (.callv (LT 116) [(LT 117),(LT 120)]),LM 122 12,LO 123 (.iaddr 3 (LT 122) (LI 2)),LO 124 (LK 123),LO 125 (.call 95 [(LT 111),(LT 115),(LT 121),(LT 124)])]))))))) (.dC [LO 126 (.bin .add (LT 60) (LI 1)),LM 60 126]))))
def qS:aD:=(LS [LO 56 (.bin .lss (LT 55) (LT 54))] (.seq (.cond (LT 56) .skip (.exit 0)) (.seq (.block 1 (LS [LM 57 55,LM 16 57] (LS [LO 58 (LL 9),LO 59 (.bin .add (LT 58) (LI 1)),LO 60 (.mv (LI 0))] (.block 2 (.loop qX))))) (.dC [LO 127 (.bin .add (LT 55) (LI 1)),LM 55 127]))))
def iN:aD:=(LS [LO 9 (.box (LT 4)),LO 10 (.mv (.const (.slice none 0 0))),LO 11 (.mv LF)] (LS [LM 19 0,LM 20 1,LM 21 2,LO 22 (.lit [(.string ⟨#[]⟩)] 3 [(0,(LT 19)),(1,(LT 20)),(2,(LT 21))]),LO 23 (.call 92 [(LT 22)]),LM 18 23,LO 24 (LX 18 0),LO 25 (LX 18 1),LM 12 24,LM 13 25] (.seq (LS [LM 26 13,LO 27 (.un .not (LT 26)),LM 28 27,LZ 28 29 (.mv (LT 3)),LZ 28 30 (.call 93 [(LT 29),(LI 1),(LI 12)]),LZ 28 31 (.un .not (LT 30)),LO 32 (.pick (LT 28) LG (LT 31)),LM 33 32,LZ 33 34 (LL 9),LZ 33 35 (.call 93 [(LT 34),(LI 1),(LI 12)]),LZ 33 36 (.un .not (LT 35)),LO 37 (.pick (LT 33) LG (LT 36)),LM 38 37,LZ 38 39 (.mv (LT 3)),LZ 38 40 (.bin .add (LT 39) (LI 1)),LZ 38 41 (LL 9),LZ 38 42 (.bin .add (LT 41) (LI 1)),LZ 38 43 (.bin .mul (LT 40) (LT 42)),LZ 38 44 (.bin .gtr (LT 43) (LI 12)),LO 45 (.pick (LT 38) LG (LT 44))] (.cond (LT 45) (LS [LO 10 (.mv (.const (.slice none 0 0))),LO 11 (.mv LF)] .ret) .skip)) (LS [LM 46 3,LO 47 (.bin .add (LT 46) (LI 1)),LO 48 (LL 9),LO 49 (.bin .add (LT 48) (LI 1)),LO 50 (.bin .mul (LT 47) (LT 49)),LO 51 (.call 94 [(LT 50)]),LM 14 51] (LS [LO 52 (.mkfn 163 [(LT 9)]),LM 15 52] (.seq (LS [LM 53 3,LO 54 (.bin .add (LT 53) (LI 1)),LO 55 (.mv (LI 0))] (.block 0 (.loop qS))) (LS [LM 128 14,LO 129 (.call 72 [(LT 128)]),LM 10 129,LO 11 (.mv LG)] .ret)))))))
def kI:aR:=⟨130,[(.tmp 10),(.tmp 11)],iN⟩
theorem G5:fR 106=some kI:=by kernel_rfl
def vN:aD:=(LS [LO 5 (.mv (LI 0))] (LS [LM 6 0,LO 7 (LL 2),LO 8 (.bin .add (LT 7) (LI 1)),LO 9 (.bin .mul (LT 6) (LT 8)),LM 10 1,LO 11 (.bin .add (LT 9) (LT 10)),LM 5 11] .ret))
def zU:aR:=⟨12,[(.tmp 5)],vN⟩
theorem Eh:fR 163=some zU:=by kernel_rfl
end Go.PM
namespace Go.PM
open Go.Lib
theorem akT {n k lo hi:Nat} {H:aA} {P:Nat→Nat→aA→VV→Prop} {v:VV} {ok:Bool} (hk:n≤k) (hl:k≤H.length) (hT:BM n k H) (hv:fB n v=true)
  (Jh:∀ {lo hi H H' v},P lo hi H v→dH lo hi H H'→P lo hi H' v) (aqR:∀ {lo hi gO kX:Nat} {H:aA} {v:VV},P lo hi H v→gO≤lo→hi≤kX→P gO kX H v) (hp:P lo hi H v) (dK:k≤lo) (hhi:hi≤H.length) :
  ∃L,G1 H (List.replicate n .dead++L)∧fB n (.dT [v,.sc (.bool ok)])=true∧eV n L=true∧Vn P ok n (.dT [v,.sc (.bool ok)]) L:=by
 obtain⟨L,k1,k2,k3⟩:=Q4 hk hl hT
 refine⟨L,k1,by simp[fB,nX,hv,kB],k2,v,rfl,?_⟩
 have hl3:=k1.1
 rw[List.length_append,List.length_replicate] at hl3
 exact aqR (Jh hp (H':=List.replicate n cO.dead++L) fun b g x h1 h2 h3=>k3 b g x (by omega) h3) (by omega) (by omega)
theorem CG.wide {bJ:List (List ByteArray)}:∀ {lo hi gO kX:Nat} {H:aA} {v:VV},CG bJ lo hi H v→gO≤lo→hi≤kX→CG bJ gO kX H v:=by
 rintro lo hi gO kX H v ⟨c,h1,h2⟩ hl hh
 exact⟨c,h1,h2.wide hl hh⟩
theorem CG.own {n lo hi:Nat} {H:aA} {v:VV} {bJ:List (List ByteArray)} (h:CG bJ lo hi H v) (hn:n≤lo):∃c,v = .agg [c]∧bP c=true∧aB c=[c]∧fB n c=true:=by
 obtain⟨c,rfl,h | ⟨b,g,cc,rs,h1,h2,rfl,h3⟩⟩:=h
 ·obtain⟨rfl,_⟩:=h
  exact⟨_,rfl,rfl,rfl,rfl⟩
 ·exact⟨_,rfl,rfl,rfl,by simp[fB];omega⟩
theorem WB.wide {s:Kn}:∀ {lo hi gO kX:Nat} {H:aA} {v:VV},WB s lo hi H v→gO≤lo→hi≤kX→WB s gO kX H v:=by
 rintro lo hi gO kX H v ⟨a,b,c,m1,m2,h1,k1,k2,k3,h2,h3,h4⟩ hl hh
 exact⟨a,b,c,m1,m2,h1,by omega,k2,by omega,h2.wide hl (Nat.le_refl _),h3,h4.wide (Nat.le_refl _) hh⟩
theorem BM.arE {n k:Nat} {H L:aA} (h:BM n k H) (hL:eV n L=true):BM n k (H++L):=by
 intro b g es e w hb hr
 rcases Nat.lt_or_ge b H.length with bF | EN
 ·rw[List.getElem?_append_left bF] at hr
  exact h b g es e w hb hr
 ·rw[List.getElem?_append_right EN] at hr
  exact List.all_eq_true.1 hL _ (List.mem_of_getElem? hr)
theorem BM.start {n:Nat} {H:aA}:BM n H.length H:=fun b g es e w hb hr=>by
 rw[List.getElem?_eq_none hb] at hr
 cases hr
def Ql (o:Option Rat):VV:=match o with
 | none => .dT [Fw,VB false]
 | some q => .dT [aQ q,VB (decide (0<q))]
theorem acW (o:Option Rat):gJ (Ql o)=true:=by
 unfold Ql
 split<;>simp[gJ,qB,qC,FY,kB]
theorem JM (x:ByteArray) (hx:x.size≤1000000000):TC 159 [sV x] (Ql (pQ x)):=by
 refine TC.walk ⟨true,false⟩ JS rfl (Nat.le_of_ble_eq_true rfl) rfl (acW _) ?_
 have e2:=Mo x.data.toList (by rw[Array.length_toList];show x.size≤_;omega)
 rw[←aeE] at e2
 cases hp:pQ x with
 |
  none =>
  rw[RQ hp] at e2
  simp only[uF,qL,e2,Ql,Di,Fj,Ld,aV,aY,aP,iU,Nat.reduceLeDiff,Nat.reduceLT,Nat.reduceSub,Eo,lB,nH,tD,AZ,AO,bne_iff_ne,ne_eq,not_false_eq_true,not_true_eq_false,dX,VX,Nat.reduceEqDiff,Nat.reduceAdd,Nat.reduceLeDiff,Nat.reduceLT,Nat.reduceSub]
  exact aF (tL OF rfl)
 |
  some q =>
  rw[Sm hp] at e2
  have e1:=iR q
  by_cases h:0<q
  ·have h':=OY.2 h
   simp only[uF,qL,e1,e2,Ql,h',h,decide_true,aH,dE,dF,aV,aY,aP,iU,Nat.reduceLeDiff,Nat.reduceLT,Nat.reduceSub,Eo,lB,nH,tD,AZ,AO,bne_iff_ne,ne_eq,not_false_eq_true,not_true_eq_false,dX,VX,Nat.reduceEqDiff,Nat.reduceAdd,Nat.reduceLeDiff,Nat.reduceLT,Nat.reduceSub]
   exact aF (tL (gW _) rfl)
  ·have h':¬0<kO q:=fun k=>h (OY.1 k)
   simp only[uF,qL,e1,e2,Ql,h',h,decide_false,aH,dE,dF,aV,aY,aP,iU,Nat.reduceLeDiff,Nat.reduceLT,Nat.reduceSub,Eo,lB,nH,tD,AZ,AO,bne_iff_ne,ne_eq,not_false_eq_true,not_true_eq_false,dX,VX,Nat.reduceEqDiff,Nat.reduceAdd,Nat.reduceLeDiff,Nat.reduceLT,Nat.reduceSub]
   exact aF (tL (gW _) rfl)
def tU (x:ByteArray):Option Rat:=match pQ x with
 | some q=>if 0<q then some q else none
 | none=>none
def Yw (xs:List ByteArray):Option (List Rat):=xs.mapM tU
theorem IU {x:ByteArray} {q:Rat} (h:tU x=some q):pQ x=some q∧0<q:=by
 unfold tU at h
 split at h
 ·rename_i p hp
  split at h
  ·rename_i h0
   cases h
   exact⟨hp,h0⟩
  ·cases h
 ·cases h
theorem aiF {x:ByteArray} {q:Rat} (h:pQ x=some q):aU q≤665:=by
 have h1:Vk [x]=some [q]:=by
  unfold Vk
  rw[if_pos (by simp),List.mapM_cons,h]
  rfl
 exact(T0 h1).1 q List.mem_cons_self
set_option maxHeartbeats 1000000 in
theorem Ip (xs:List ByteArray) (hn:xs.length≤1000000000) (hs:∀s∈xs,s.size≤1000000000):TC 92 [pU xs] (QM (Yw xs)):=by
 refine TC.walk ⟨true,false⟩ HV rfl (Nat.le_of_ble_eq_true rfl) (by simp[aM,qP]) (X5 _) ?_
 unfold Yw
 have e0:=fun H=>iE (H:=H) (lr:=false) (z:=[.bool false,.slice none 0 0,.slice none 0 0]) rfl
 simp only[C6,AE,e0,dX,VX,Nat.reduceEqDiff,Nat.reduceAdd,Nat.reduceLeDiff,Nat.reduceLT,Nat.reduceSub]
 refine Sy (fun(s:Nat×List Rat) ρ H=>s.1≤xs.length∧(xs.take s.1).mapM tU=some s.2∧H=[.row s.1 (s.2.map aQ) 3 true]∧ρ 4 = .ref 0 s.1 0 s.1 s.1∧ρ 10=pU xs∧ρ 11=VI xs.length∧ρ 12=VI s.1) (fun s=>xs.length-s.1) (0,[]) ⟨Nat.zero_le _,rfl,rfl,rfl,rfl,rfl,rfl⟩ ?_
 rintro⟨i,out⟩ ρ H ⟨hi,aaO,rfl,g4,g10,g11,g12⟩
 simp only at hi aaO g4 g12
 have jL:out.length=i:=by rw[sX aaO,List.length_take];omega
 by_cases dB:(i:Int)<(xs.length:Int)
 ·obtain⟨x,hx⟩:∃x,xs[i]? = some x:=⟨_,List.getElem?_eq_getElem (by omega)⟩
  have hxm:=List.mem_of_getElem? hx
  have e1:=fun H=>aK (f:=sV) (t := .op) (H:=H) (size:=1) (k := .i64) hx rfl
  have wi:IntKind.i64.wrap ((i:Int)+1)=((i+1:Nat):Int):=wrapN (i+1) (by omega) (by omega)
  have e2:=JM x (hs x hxm)
  cases hp:pQ x with
  |
   none =>
   rw[hp] at e2
   have hq:tU x=none:=by unfold tU;rw[hp]
   rw[mapM_none hq hxm]
   simp only[Ql] at e2
   simp only[kP,g4,g10,g11,g12,dB,e1,e2,Di,Fj,Ld,aV,aY,aP,iU,Nat.reduceLeDiff,Nat.reduceLT,Nat.reduceSub,Eo,lB,nH,tD,AZ,AO,bne_iff_ne,ne_eq,not_false_eq_true,not_true_eq_false,dX,VX,Nat.reduceEqDiff,Nat.reduceAdd,Nat.reduceLeDiff,Nat.reduceLT,Nat.reduceSub]
   exact Zi
  |
   some q =>
   rw[hp] at e2
   by_cases h0:0<q
   ·simp only[Ql,decide_eq_true h0] at e2
    have hq:tU x=some q:=by unfold tU;rw[hp];exact if_pos h0
    have eL:∀H,jC false [.bool false,.slice none 0 0,.slice none 0 0] 1 [(0,aQ q)] H=some (.tree [aQ q] (.cl 3),H):=fun H=>gE rfl rfl rfl
    have eS:∀H,cU 3 (.tree [aQ q] (.cl 3)) H=some [aQ q]:=fun H=>dQ rfl rfl
    have eP:eW 0 3 56 (.ref 0 i 0 i i) [aQ q] [.row i (out.map aQ) 3 true,.row 0 [aQ q] 3 true]=some (.ref 0 (i+1) 0 (i+1) (i+1),[.row (i+1) ((out++[q]).map aQ) 3 true,.row 0 [aQ q] 3 true]):=by
     rw[iC (f:=aQ) (xs:=out) (by rw[bA]) jL.symm (Nat.le_refl _) (by decide) (by decide) (by omega),List.set_cons_zero]
    simp only[kP,g4,g10,g11,g12,dB,e1,e2,eL,eS,eP,wi,aH,dE,dF,aV,aY,aP,iU,Nat.reduceLeDiff,Nat.reduceLT,Nat.reduceSub,Eo,lB,nH,tD,AZ,AO,bne_iff_ne,ne_eq,not_false_eq_true,not_true_eq_false,dX,VX,Nat.reduceEqDiff,Nat.reduceAdd,Nat.reduceLeDiff,Nat.reduceLT,Nat.reduceSub]
    refine⟨(i+1,out++[q]),by simp only;omega,?_,by simp only;omega,by simp only[gU hx];exact HK aaO hq,rfl,?_⟩
    ·rw[DK (oM _ (gP gW)),OL]
    ·simp only[BN,g10,g11,G0 (qP _),Oe (Nat.lt_succ_self 0),VX,Nat.reduceEqDiff,Nat.reduceAdd,List.take_zero,kL,List.all_nil,List.length_nil,BN,QV,G0]
   ·simp only[Ql,decide_eq_false h0] at e2
    have hq:tU x=none:=by unfold tU;rw[hp];exact if_neg h0
    rw[mapM_none hq hxm]
    simp only[kP,g4,g10,g11,g12,dB,e1,e2,aH,dE,dF,aV,aY,aP,iU,Nat.reduceLeDiff,Nat.reduceLT,Nat.reduceSub,Eo,lB,nH,tD,AZ,AO,bne_iff_ne,ne_eq,not_false_eq_true,not_true_eq_false,dX,VX,Nat.reduceEqDiff,Nat.reduceAdd,Nat.reduceLeDiff,Nat.reduceLT,Nat.reduceSub]
    exact Zi
 ·have nY:i=xs.length:=by omega
  subst nY
  rw[List.take_length] at aaO
  rw[aaO]
  simp only[kP,g4,g10,g11,g12,dB,dX,VX,Nat.reduceEqDiff,Nat.reduceAdd,Nat.reduceLeDiff,Nat.reduceLT,Nat.reduceSub]
  refine bO (d:=6) ?_ (aJ (v:=VB true) rfl)
  have:=ZC (d:=5) (w:=true) (f:=aQ) (e:=3) (b:=0) (g:=xs.length) (c:=xs.length) (xs:=out) (H:=[.row xs.length (out.map aQ) 3 true]) gW (by rw[bA]) (by omega)
  rw[jL] at this
  exact this
end Go.PM
namespace Go.PM
section
variable {α:Type}
def vec (n:Nat) (f:Nat→α):List α:=(List.range n).map f
def Nv (n m:Nat) (F:Nat→Nat→α):List (List α):=vec n fun a=>vec m (F a)
theorem uA (n:Nat) (f:Nat→α):(vec n f).length=n:=by simp[vec]
theorem Gu (n m:Nat) (F:Nat→Nat→α):(Nv n m F).length=n:=uA ..
theorem BT {n i:Nat} {f:Nat→α} (h:i<n):(vec n f)[i]? = some (f i):=by simp[vec,h]
theorem KR {n i:Nat} {f:Nat→α} (h:n≤i):(vec n f)[i]? = none:=by rw[List.getElem?_eq_none];rw[uA];exact h
theorem Bg {n:Nat} {f g:Nat→α} (h:∀i,i<n→f i=g i):vec n f=vec n g:=List.map_congr_left fun i hi=>h i (List.mem_range.1 hi)
theorem OC {n m:Nat} {F G:Nat→Nat→α} (h:∀a b,a<n→b<m→F a b=G a b):Nv n m F=Nv n m G:=Bg fun a ha=>Bg fun b hb=>h a b ha hb
theorem WO {n m i:Nat} {F:Nat→Nat→α} (h:i<n):(Nv n m F)[i]? = some (vec m (F i)):=BT h
theorem Wb {n j:Nat} {f:Nat→α} {y:α}:(vec n f).set j y=vec n fun b=>if b=j then y else f b:=by
 apply List.ext_getElem?
 intro b
 rw[List.getElem?_set,uA]
 by_cases hb:b<n
 ·rw[BT hb,BT hb]
  by_cases hj:j=b
  ·subst hj;simp[hb]
  ·simp[hj,Ne.symm hj]
 ·rw[KR (by omega),KR (by omega)]
  split
  ·rw[if_neg (by omega)]
  ·rfl
theorem agT {n m i:Nat} {F:Nat→Nat→α} {g:Nat→α}:(Nv n m F).set i (vec m g)=Nv n m fun a b=>if a=i then g b else F a b:=by
 rw[Nv,Wb]
 refine Bg fun a _ => ?_
 split
 ·rename_i h
  exact Bg fun b _=>(if_pos h).symm
 ·rename_i h
  exact Bg fun b _=>(if_neg h).symm
theorem OG {n:Nat} {x:α}:List.replicate n x=vec n fun _=>x:=by
 apply List.ext_getElem?
 intro i
 by_cases h:i<n
 ·rw[BT h,List.getElem?_replicate,if_pos h]
 ·rw[KR (by omega),List.getElem?_replicate,if_neg h]
theorem W8 {n m:Nat} {x:α}:List.replicate n (List.replicate m x)=Nv n m fun _ _=>x:=by rw[OG,OG];rfl
theorem Gh {n:Nat} {f:Nat→α} {x:α}:x∈vec n f↔∃i,i<n∧f i=x:=by simp[vec]
theorem Wt {n m:Nat} {F:Nat→Nat→α} {r:List α} (h:r∈Nv n m F):∃i,i<n∧r=vec m (F i):=by
 obtain⟨i,hi,rfl⟩:=Gh.1 h
 exact⟨i,hi,rfl⟩
end
end Go.PM
namespace Go.PM
open Go.Lib
theorem acZ {qs:List Rat} {B i:Nat} {y:Rat} (h:∀q∈qs,aU q≤B) (hy:aU y≤B):∀q∈qs.set i y,aU q≤B:=fun q hq=>by
 rcases List.mem_or_eq_of_mem_set hq with h1 | rfl
 ·exact h q h1
 ·exact hy
theorem WB.own {n lo hi:Nat} {s:Kn} {H:aA} {v:VV} (h:WB s lo hi H v) (hn:n≤lo):∃a b c,v = .agg [a,b,c]∧bP a=true∧bP b=true∧bP c=true∧fB n a=true∧fB n b=true∧fB n c=true:=by
 obtain⟨a,b,c,m1,m2,rfl,l1,l2,l3,ha,hb,hc⟩:=h
 refine⟨a,b,c,rfl,ha.cell,hb.cell,hc.cell,?_,?_,?_⟩
 ·rcases ha with⟨rfl,_⟩ | ⟨b,g,c,h1,h2,rfl,h3⟩
  ·rfl
  ·simp[fB];omega
 ·rcases hb with⟨rfl,_⟩ | ⟨b,g,c,rs,h1,h2,rfl,h3⟩
  ·rfl
  ·simp[fB];omega
 ·rcases hc with⟨rfl,_⟩ | ⟨b,g,c,h1,h2,rfl,h3⟩
  ·rfl
  ·simp[fB];omega
end Go.PM
namespace Go.PM
open Go.Lib
section
variable {α:Type} {f:α→VV} {e:Nat}
structure Y3 (f:α→VV) (e:Nat) (m:List (List α)) (H:aA) (v:VV):Prop where
 len:∀H',H <+: H'→oI v H'=some (VI m.length)
 get:∀H',H <+: H'→∀(i:Nat) r,m[i]? = some r→∃p w,bK 1 v (VI i) H'=some p∧bT false 1 p H'=some w∧Rd f e r H' w
theorem Y3.pre {m:List (List α)} {H H':aA} {v:VV} (h:Y3 f e m H v) (hh:H <+: H'):Y3 f e m H' v:=⟨fun H2 h2=>h.len H2 (hh.trans h2),fun H2 h2=>h.get H2 (hh.trans h2)⟩
theorem Y3.tree {m:List (List α)} {H:aA} {t:TK} (hs:∀x,(aB (f x)).length=e):Y3 f e m H (.tree (m.map (aT f)) t) :=
 ⟨fun _ _=>dW,fun _ _ i x hx=>⟨_,_,aK hx rfl,by rw[Kb];rfl,Rd.tree hs⟩⟩
theorem Y3.row {m:List (List α)} {H:aA} {b g n c:Nat} {w:Bool} (h:aI H b g=some (m.map (aT f),1,w)) (hn:n=m.length) (hs:∀x,(aB (f x)).length=e):Y3 f e m H (.ref b g 0 n c):=by
 subst hn
 refine⟨fun H' hh=>fQ (cT hh h),fun H' hh i x hx => ?_⟩
 have hi:=(List.getElem?_eq_some_iff.1 hx).1
 have e1:=bE (o:=0) (n:=m.length) (c:=c) (i:=i) (k := .i64) (cT hh h) hi
 rw[Nat.zero_add] at e1
 exact⟨_,_,e1,by rw[oV (f:=aT f) (cT hh h) hx];rfl,Rd.tree hs⟩
theorem MG.rdT {lo hi b g n c:Nat} {H:aA} {rs:List (vJ α)} (h:MG f e lo hi b g H rs) (hn:n=rs.length):Y3 f e (rs.map (·.xs)) H (.ref b g 0 n c):=by
 subst hn
 refine⟨fun H' hh=>by rw[List.length_map];exact(h.pre hh).len,fun H' hh i x hx => ?_⟩
 rw[List.getElem?_map] at hx
 obtain⟨r,hr,rfl⟩:=Option.map_eq_some_iff.1 hx
 have hi:=(List.getElem?_eq_some_iff.1 hr).1
 exact⟨_,_,(h.pre hh).addr hi,(h.pre hh).cell hr,Rd.row ((h.pre hh).row hr) rfl⟩
theorem MG.snoc {lo hi gO b g:Nat} {H:aA} {rs:List (vJ α)} (h:MG f e lo hi b g H rs) (hg:g=rs.length) (dK:gO≤lo) (hn:g≤1000000000) (r:vJ α) (hhi:hi≤r.b) (hc:r.xs.length≤r.c) (hr:aI H r.b r.g=some (r.xs.map f,e,true)) :
  eW gO 1 24 (.ref b g 0 g g) [.ref r.b r.g 0 r.xs.length r.c] H=some (.ref b (g+1) 0 (g+1) (g+1),H.set b (.row (g+1) ((rs++[r]).map nB) 1 true))∧MG f e lo H.length b (g+1) (H.set b (.row (g+1) ((rs++[r]).map nB) 1 true)) (rs++[r]):=by
 have aCM:=h.blo
 have aCj:=h.bhi
 have yS:=gN hr
 have rL:=iC (f:=nB) (xs:=rs) (x:=r) (lo:=gO) (bytes:=24) h.out hg (by omega) (by decide) (by decide) (by omega)
 refine⟨rL,bZ h.out,h.blo,gN h.out,?_,fun s hs => ?_⟩
 ·rw[List.map_append,List.nodup_append]
  refine⟨h.rows.nd,by simp,fun a ha c T1 => ?_⟩
  obtain⟨s,hs,rfl⟩:=List.mem_map.1 ha
  have:=h.rows.row s hs
  simp only[List.map_cons,List.map_nil,List.mem_singleton] at T1
  omega
 ·rcases List.mem_append.1 hs with hs | hs
  ·obtain⟨k1,k2,k3,k4,k5⟩:=h.rows.row s hs
   exact⟨k1,by omega,k3,k4,cD (by omega) k5⟩
  ·rw[List.mem_singleton] at hs
   subst hs
   exact⟨by omega,yS,by omega,hc,cD (by omega) hr⟩
end
def iS (m:List (List Rat)) (i:Nat):Rat:=(m.take i).foldl (fun a r=>if a<dZ r then dZ r else a) 0
def cL (m:List (List Rat)):Rat:=iS m m.length
theorem zE {m:List (List Rat)} {i:Nat} {r:List Rat} (h:m[i]? = some r):iS m (i+1)=if iS m i<dZ r then dZ r else iS m i:=by
 unfold iS
 rw[gU h,List.foldl_append]
 rfl
def kA (d:Rat) (i:Nat) (r:List Rat):List Rat:=(r.map (· / d)).set i (1-dZ (r.map (· / d)))
def nA (m:List (List Rat)):List (List Rat):=vec m.length fun i=>kA (cL m) i (m.getD i [])
theorem tX {qs:List Rat} {B n:Nat} (h:∀q∈qs,aU q≤B) (hn:qs.length≤n):aU (dZ qs)≤n*(B+1)+1:=by
 have h1:=E1 h qs.length
 rw[List.take_length] at h1
 have h2:qs.length*(B+1)≤n*(B+1):=Nat.mul_le_mul_right _ hn
 omega
theorem tR {m:List (List Rat)} {B n:Nat} (h:∀r∈m,r.length≤n∧∀q∈r,aU q≤B):∀i,aU (iS m i)≤n*(B+1)+1
 |
  0=>by
  show aU 0≤_
  rw[Fp]
  omega
 |
  i+1=>by
  cases hr:m[i]? with
  |
   none =>
   have:iS m (i+1)=iS m i:=by
    unfold iS
    rw[List.take_add_one,hr]
    simp
   rw[this]
   exact tR h i
  |
   some r =>
   rw[zE hr]
   have:=h r (List.mem_of_getElem? hr)
   split
   ·exact tX this.2 this.1
   ·exact tR h i
theorem Iu {qs:List Rat} {d:Rat} {B D:Nat} (h:∀q∈qs,aU q≤B) (hd:aU d≤D):∀q∈qs.map (· / d),aU q≤B+D+1:=fun q hq=>by
 obtain⟨p,hp,rfl⟩:=List.mem_map.1 hq
 have h1:=h p hp
 have h2:=XN p d
 omega
set_option maxHeartbeats 4000000 in
theorem RU {lo:Nat} {H:aA} {v:VV} (m:List (List Rat)) {n B:Nat} (hv:Y3 aQ 3 m H v) (dK:lo≤H.length) (hm:m.length=n) (hn:n≤100) (hB:B≤1000000) (hb:∀r∈m,r.length=n∧∀q∈r,aU q≤B) (hd:cL m≠0) :
  gV 72 [v] lo H (F1 (TabIs aQ 3 (nA m)) H):=by
 have hmul:n*(B+1)≤100*(B+1):=Nat.mul_le_mul_right _ hn
 have uC:∀r∈m,r.length≤n∧∀q∈r,aU q≤B:=fun r hr=>⟨Nat.le_of_eq (hb r hr).1,(hb r hr).2⟩
 refine gV.walk ⟨true,false⟩ QT (Nat.le_of_ble_eq_true rfl) ?_
 have e1:TC 64 [VI 0] (aQ 0):=sP 0 (by decide) (by decide)
 have s0:=Bc (lo:=lo) (H:=H) (q:=0) dK
 have e2:=hv.len _ (List.prefix_append H [.row 0 [aQ 0] 3 true])
 simp only[NP,JA,e1,s0,e2,dX,VX,Nat.reduceEqDiff,Nat.reduceAdd,Nat.reduceLeDiff,Nat.reduceLT,Nat.reduceSub]
 refine aS (fun(i:Nat) ρ H1=>i≤m.length∧H <+: H1∧aI H1 H.length 0=some ([aQ (iS m i)],3,true)∧ρ 0=v∧ρ 3 = .ptr H.length 0 0 0∧ρ 12=v∧ρ 13=VI m.length∧ρ 14=VI i) (fun i=>m.length-i) 0 ⟨Nat.zero_le _,List.prefix_append _ _,fN,rfl,rfl,rfl,rfl,rfl⟩ ?_
 rintro i ρ H1 ⟨hi,hp,Wo,g0,g3,g12,g13,g14⟩
 have Cz:=gN Wo
 by_cases dB:(i:Int)<(m.length:Int)
 ·obtain⟨r,hr⟩:∃r,m[i]? = some r:=⟨_,List.getElem?_eq_getElem (by omega)⟩
  have CC:=hb r (List.mem_of_getElem? hr)
  obtain⟨p,w,a1,a2,hw⟩:=hv.get H1 hp i r hr
  have wi:IntKind.i64.wrap ((i:Int)+1)=((i+1:Nat):Int):=wrapN (i+1) (by omega) (by omega)
  have yS:r.length*(B+1)≤100*(B+1):=Nat.mul_le_mul_right _ (by omega)
  simp only[By,g0,g3,g12,g13,g14,dB,a1,a2,dX,VX,Nat.reduceEqDiff,Nat.reduceAdd,Nat.reduceLeDiff,Nat.reduceLT,Nat.reduceSub]
  refine lC rfl (MO (H:=H1) r hw (by omega) CC.2 (by omega) (by omega) (by omega)) fun x L hx => ?_
  subst hx
  have FB:=cF (L:=L) Wo
  have Kq:=jN (L:=L) hp
  have E4:H1.length≤(H1++L).length:=by rw[List.length_append];omega
  generalize H1++L=H2 at *
  have s1:=Bc (lo:=lo) (H:=H2) (q:=dZ r) (by omega)
  have s2:=Ki (H:=H2) (K:=[]) (q:=dZ r)
  have s3:bT true 3 (.ptr H.length 0 0 0) (H2++[cO.row 0 [aQ (dZ r)] 3 true])=some (aQ (iS m i)):=by
   rw[bQ,cF FB]
   exact dF _
  have b1:=tX CC.2 (Nat.le_of_eq CC.1)
  have b2:=tR uC i
  have e3:=Lq (dZ r) (iS m i) (by omega) (by omega)
  have E5:=zE hr
  by_cases hc:iS m i<dZ r
  ·have T1:=VU.2 hc
   rw[if_pos hc] at E5
   have s4:=bU (lo:=lo) (v:=aQ (dZ r)) (j:=0) (cF (L:=[.row 0 [aQ (dZ r)] 3 true]) FB) (by exact Nat.zero_lt_one) dK rfl rfl
   rw[List.set_cons_zero] at s4
   simp only[g0,g3,g12,g13,g14,s1,s2,s3,s4,e3,T1,wi,dX,VX,Nat.reduceEqDiff,Nat.reduceAdd,Nat.reduceLeDiff,Nat.reduceLT,Nat.reduceSub]
   exact⟨i+1,by omega,by omega,kW (jN Kq) (Nat.le_refl _),by rw[E5];exact bZ (cF FB),by (repeat' apply And.intro)<;>first | rfl | trivial | assumption⟩
  ·have T1:=mt VU.1 hc
   rw[if_neg hc] at E5
   simp only[g0,g3,g12,g13,g14,s1,s2,s3,e3,T1,wi,dX,VX,Nat.reduceEqDiff,Nat.reduceAdd,Nat.reduceLeDiff,Nat.reduceLT,Nat.reduceSub]
   exact⟨i+1,by omega,by omega,jN Kq,by rw[E5];exact cF FB,by (repeat' apply And.intro)<;>first | rfl | trivial | assumption⟩
 ·have nY:i=m.length:=by omega
  subst nY
  have e0:∀K,jC false [.slice none 0 0] 0 [] K=some (.ref K.length 0 0 0 0,K++[.row 0 [] 1 true]):=fun K=>iE rfl
  have e3:=hv.len _ (jN (L:=[.row 0 [] 1 true]) hp)
  simp only[By,g0,g3,g12,g13,g14,dB,e0,e3,dX,VX,Nat.reduceEqDiff,Nat.reduceAdd,Nat.reduceLeDiff,Nat.reduceLT,Nat.reduceSub]
  have Wo:aI H1 H.length 0=some ([aQ (cL m)],3,true):=Wo
  have bm:=tR uC m.length
  rw[←cL] at bm
  refine aS (fun(i:Nat) ρ H2=>i≤m.length∧H <+: H2∧aI H2 H.length 0=some ([aQ (cL m)],3,true)∧(∃rs,rs.length=i∧rs.map (·.xs)=(nA m).take i∧MG aQ 3 H1.length H2.length H1.length i H2 rs)∧ρ 3 = .ptr H.length 0 0 0∧ρ 7 = .ref H1.length i 0 i i∧ρ 27=v∧ρ 28=VI m.length∧ρ 29=VI i) (fun i=>m.length-i) 0
   ⟨Nat.zero_le _,jN hp,cF Wo,⟨[],rfl,rfl,fN,Nat.le_refl _,by simp,by simp,by simp⟩,by (repeat' apply And.intro)<;>first | rfl | trivial | assumption⟩ ?_
  clear g0 g3 g12 g13 g14 dB
  rintro i ρ H2 ⟨hi,Kq,FB,⟨rs,yS,KA,hM⟩,g3,g7,g27,g28,g29⟩
  by_cases dB:(i:Int)<(m.length:Int)
  ·obtain⟨r,hr⟩:∃r,m[i]? = some r:=⟨_,List.getElem?_eq_getElem (by omega)⟩
   have CC:=hb r (List.mem_of_getElem? hr)
   obtain⟨p,w,a1,a2,hw⟩:=hv.get H2 Kq i r hr
   have wi:IntKind.i64.wrap ((i:Int)+1)=((i+1:Nat):Int):=wrapN (i+1) (by omega) (by omega)
   have hbh:=hM.bhi
   have s3:bT true 3 (.ptr H.length 0 0 0) H2=some (aQ (cL m)):=by
    rw[bQ,FB]
    exact dF _
   simp only[BK,g3,g7,g27,g28,g29,dB,a1,a2,s3,dX,VX,Nat.reduceEqDiff,Nat.reduceAdd,Nat.reduceLeDiff,Nat.reduceLT,Nat.reduceSub]
   refine lC rfl (Nj (H:=H2) r (cL m) hd hw (by omega) (by omega) (fun q hq=>by have:=CC.2 q hq;omega) (by omega)) fun x L3 hx => ?_
   obtain⟨bp,gp,cp,k1,k2,rfl,k3,k4⟩:=hx
   have hM3:=hM.pre (List.prefix_append H2 L3)
   have avY:=cF (L:=L3) FB
   have hp3:=jN (L:=L3) Kq
   have hl3:H2.length≤(H2++L3).length:=by rw[List.length_append];omega
   generalize H2++L3=H3 at *
   have e4:TC 64 [VI 1] (aQ 1):=sP 1 (by decide) (by decide)
   have qb:=Iu CC.2 bm
   have Z1:(r.map (· / cL m)).length*(B+(n*(B+1)+1)+1+1)≤100*(B+(n*(B+1)+1)+1+1):=Nat.mul_le_mul_right _ (by rw[List.length_map];omega)
   simp only[e4,dX,VX,Nat.reduceEqDiff,Nat.reduceAdd,Nat.reduceLeDiff,Nat.reduceLT,Nat.reduceSub]
   refine lC rfl (MO (H:=H3) (v := .ref bp gp 0 r.length cp) (r.map (· / cL m)) (Rd.row k4 (List.length_map ..).symm) (by omega) qb (by omega) (by omega) (by rw[List.length_map];omega)) fun x L4 hx => ?_
   subst hx
   have hM4:=hM3.pre (List.prefix_append H3 L4)
   have alP:=cF (L:=L4) avY
   have hp4:=jN (L:=L4) hp3
   have hl4:H3.length≤(H3++L4).length:=by rw[List.length_append];omega
   have k5:=cF (L:=L4) k4
   generalize H3++L4=H4 at *
   have b3:=tX (n:=n) qb (Nat.le_of_eq (by rw[List.length_map];exact CC.1))
   have arY:n*(B+(n*(B+1)+1)+1+1)≤100*(B+(n*(B+1)+1)+1+1):=Nat.mul_le_mul_right _ hn
   have e5:=Kz 1 (dZ (r.map (· / cL m))) (by rw[Ih];omega) (by omega)
   have a3:=bE (o:=0) (n:=r.length) (c:=cp) (i:=i) (k := .i64) k5 (by omega)
   rw[Nat.zero_add] at a3
   have s5:=fK (lo:=lo) (f:=aQ) (x:=1-dZ (r.map (· / cL m))) (j:=i) k5 (by rw[List.length_map];omega) (by omega) rfl rfl
   have hM5:=hM4.cJ (H':=H4.set bp (.row gp ((kA (cL m) i r).map aQ) 3 true)) (dH.set (by omega))
   have k6:=bZ (g:=gp) (e:=3) (w:=true) (es:=(kA (cL m) i r).map aQ) k5
   have VC:(kA (cL m) i r).length=r.length:=by rw[kA,List.length_set,List.length_map]
   have hk6:=gN k6
   obtain⟨ap,hM6⟩:=hM5.snoc (gO:=lo) yS.symm (by omega) (by omega) ⟨bp,gp,cp,kA (cL m) i r⟩ k1 (by simp only[VC];rw[List.length_map] at k3;exact k3) k6
   simp only[VC] at ap
   have eL:∀K,jC false [.slice none 0 0] 1 [(0,.ref bp gp 0 r.length cp)] K=some (.tree [.ref bp gp 0 r.length cp] (.cl 1),K):=fun K=>gE rfl rfl rfl
   have eS:∀K,cU 1 (.tree [.ref bp gp 0 r.length cp] (.cl 1)) K=some [.ref bp gp 0 r.length cp]:=fun K=>dQ rfl rfl
   have s5':bR lo 3 (.ptr bp gp i 0) (aQ (1-dZ (r.map (· / cL m)))) H4=some (H4.set bp (.row gp ((kA (cL m) i r).map aQ) 3 true)):=s5
   simp only[g7,e5,a3,s5',eL,eS,ap,wi,g29,dX,VX,Nat.reduceEqDiff,Nat.reduceAdd,Nat.reduceLeDiff,Nat.reduceLT,Nat.reduceSub]
   refine⟨i+1,by omega,by omega,kW (kW hp4 (by omega)) (by omega),cD (by omega) (cD (by omega) alP),⟨rs++[⟨bp,gp,cp,kA (cL m) i r⟩],by rw[List.length_append,yS];rfl,?_,?_⟩,by (repeat' apply And.intro)<;>first | rfl | trivial | assumption⟩
   ·have rG:(nA m)[i]? = some (kA (cL m) i r):=by
     rw[nA,BT (by omega),List.getD_eq_getElem?_getD,hr]
     rfl
    rw[gU rG,List.map_append,KA]
    rfl
   ·exact hM6.wide (Nat.le_refl _) (by simp)
  ·have nY:i=m.length:=by omega
   subst nY
   rw[List.take_of_length_le (by rw[nA,uA];exact Nat.le_refl _)] at KA
   simp only[BK,g3,g7,g27,g28,g29,dB,dX,VX,Nat.reduceEqDiff,Nat.reduceAdd,Nat.reduceLeDiff,Nat.reduceLT,Nat.reduceSub]
   have VC:(nA m).length=m.length:=by rw[nA,uA]
   exact⟨Kq,H1.length,m.length,m.length,rs,by rw[VC],by rw[VC];exact Nat.le_refl _,hM.wide hp.length_le (Nat.le_refl _),KA⟩
end Go.PM
namespace Go.PM
open Go.Lib
theorem ahQ {lo hi:Nat} {H:aA}:CG [] lo hi H (.agg [.tree [] .nil]):=⟨_,rfl,.inl ⟨rfl,rfl⟩⟩
abbrev ajD:cO := .row 0 [.tree [] .nil] 1 true
theorem AF {n:Nat} {K:aA}:aI (List.replicate n cO.dead++ajD::K) n 0=some ([.tree [] .nil],1,true):=by rw[Bz,bA]
theorem Pe {n t:Nat} {F:Nat} {args iI:List VV} {bJ:List (List ByteArray)} {ok:Bool} {H:aA} {K:VV→aA→Prop} (h:FC F iI (Vn (CG bJ) ok)) (xE:Cy.contains F=true) (hf:args.mapM (PM.fz depth H)=some iI) (hr:aI H t 0=some ([.tree [] .nil],1,true)) (hnt:n≤t)
  (hk:∀v H2 H3,bR n 1 (.ptr t 0 0 0) v H2=some H3→bT true 1 (.ptr t 0 0 0) H3=some v→(∃L',G1 H3 (List.replicate n .dead++L')∧fB n (.dT [v,.sc (.bool ok)])=true∧eV n L'=true∧Vn (CG bJ) ok n (.dT [v,.sc (.bool ok)]) L')→K (.dT [v,.sc (.bool ok)]) H2) :
  cS F args n H K:=by
 refine h.Z2 xE hf ?_
 rintro r L ⟨v,rfl,hv⟩ Eu hL
 have hv:=hv.cJ dH.move
 rw[←List.length_append] at hv
 have ht:=gN hr
 obtain⟨c,rfl,h1,h2,h3⟩:=hv.own (n:=n) (by omega)
 have hL':eV n L=true:=GJ (by omega) hL
 refine hk (.agg [c]) _ ((H++L).set t (.row 0 [.agg [c]] 1 true)) ?_ ?_ ?_
 ·rw[bU (cF hr) (by exact Nat.zero_lt_one) hnt rfl (by simp[aB,h1])]
  rfl
 ·rw[bQ,bZ (cF hr)]
  rfl
 ·exact akT (k:=H.length) (lo:=H.length) (hi:=(H++L).length) (by omega) (by rw[List.length_set,List.length_append];omega) ((BM.start.arE hL').set (by omega)) (by simp[fB,nX,h3]) CG.cJ CG.wide (hv.cJ (dH.set (by omega))) (Nat.le_refl _) (by rw[List.length_set];exact Nat.le_refl _)
theorem adP {n t:Nat} {H:aA} {bJ:Option (List (List ByteArray))} (hr:aI H t 0=some ([.tree [] .nil],1,true)) (hnt:n≤t) (hv:bJ=none) :
  bR n 1 (.ptr t 0 0 0) (.agg [.tree [] .nil]) H=some (H.set t (.row 0 [.agg [.tree [] .nil]] 1 true))∧bT true 1 (.ptr t 0 0 0) (H.set t (.row 0 [.agg [.tree [] .nil]] 1 true))=some (.agg [.tree [] .nil]) ∧
  ∃L,G1 (H.set t (.row 0 [.agg [.tree [] .nil]] 1 true)) (List.replicate n .dead++L)∧fB n (.dT [.agg [.tree [] .nil],.sc (.bool false)])=true∧eV n L=true∧Vn (CG (bJ.getD [])) bJ.isSome n (.dT [.agg [.tree [] .nil],.sc (.bool false)]) L:=by
 subst hv
 refine⟨?_,?_,_,Az (by rw[List.length_set];have:=gN hr;omega),rfl,AK,_,rfl,ahQ⟩
 ·rw[bU hr (by exact Nat.zero_lt_one) hnt rfl rfl]
  rfl
 ·rw[bQ,bZ hr]
  rfl
theorem HM {a:Nat} (h:a≤12):a*(665+1)+1≤7993:=by omega
theorem Tl {qs:List Rat} (h:∀q∈qs,0≤q):0≤dZ qs:=by
 have key:∀i,i≤qs.length→0≤dZ (qs.take i):=by
  intro i
  induction i with
  | zero=>intro _;show (0:Rat)≤0;exact Rat.le_refl
  |
   succ i ih =>
   intro hi
   have hq:qs[i]? = some qs[i]:=List.getElem?_eq_getElem (by omega)
   rw[AD hq]
   have h1:=ih (by omega)
   have h2:=h _ (List.getElem_mem (by omega:i<qs.length))
   grind
 have:=key qs.length (Nat.le_refl _)
 rwa [List.take_length] at this
theorem Lo {m:List (List Rat)} (h:∀r∈m,0≤dZ r):∀i,0≤iS m i∧0≤dZ ((m.map dZ).take i)∧(dZ ((m.map dZ).take i)=0↔iS m i=0)∧(((m.take i).any fun r => !decide (dZ r=0)) = !decide (iS m i=0))
 | 0=>⟨Rat.le_refl,Rat.le_refl,⟨fun _=>rfl,fun _=>rfl⟩,rfl⟩
 |
  i+1=>by
  obtain⟨h1,h2,h3,h4⟩:=Lo h i
  cases hr:m[i]? with
  |
   none =>
   have e1:iS m (i+1)=iS m i:=by unfold iS;rw[List.take_add_one,hr];simp
   have e2:(m.map dZ).take (i+1)=(m.map dZ).take i:=by rw[List.take_add_one,List.getElem?_map,hr];simp
   have e3:m.take (i+1)=m.take i:=by rw[List.take_add_one,hr];simp
   rw[e1,e2,e3]
   exact⟨h1,h2,h3,h4⟩
  |
   some r =>
   have h0:=h r (List.mem_of_getElem? hr)
   have Eu:(m.map dZ)[i]? = some (dZ r):=by rw[List.getElem?_map,hr];rfl
   rw[zE hr,AD Eu,gU hr,List.any_append,h4]
   simp only[List.any_cons,List.any_nil,Bool.or_false]
   by_cases hc:iS m i<dZ r
   ·rw[if_pos hc]
    have hp:¬dZ r=0:=by grind
    have hs:¬dZ ((m.map dZ).take i)+dZ r=0:=by grind
    refine⟨h0,by grind,⟨fun h=>absurd h hs,fun h=>absurd h hp⟩,by simp[hp]⟩
   ·rw[if_neg hc]
    refine⟨h1,by grind,?_,?_⟩
    ·constructor
     ·intro h;exact h3.1 (by grind)
     ·intro h;have:=h3.2 h;grind
    ·by_cases hz:iS m i=0
     ·have:dZ r=0:=by grind
      simp[hz,this]
     ·simp[hz]
theorem NG {m:List (List Rat)} {n B:Nat} (hm:m.length=n) (hb:∀r∈m,r.length=n∧∀q∈r,aU q≤B) (hn:n≤100) (hB:B≤1000000):(nA m).length=n∧∀r∈nA m,r.length=n∧∀q∈r,aU q≤100000000000:=by
 refine⟨by rw[nA,uA,hm],fun r hr => ?_⟩
 obtain⟨i,hi,rfl⟩:=Gh.1 hr
 have hgi:m[i]? = some m[i]:=List.getElem?_eq_getElem hi
 have CC:=hb _ (List.getElem_mem hi)
 rw[List.getD_eq_getElem?_getD,hgi,Option.getD_some]
 have bm:=tR (n:=n) (B:=B) (fun r hr=>⟨Nat.le_of_eq (hb r hr).1,(hb r hr).2⟩) m.length
 rw[←cL] at bm
 have qb:=Iu CC.2 bm
 have hl:(m[i].map (· / cL m)).length=n:=by rw[List.length_map];exact CC.1
 have b3:=tX qb (Nat.le_of_eq hl)
 have m1:n*(B+1)≤100*(B+1):=Nat.mul_le_mul_right _ hn
 have m2:n*(B+(n*(B+1)+1)+1+1)≤100*(B+(n*(B+1)+1)+1+1):=Nat.mul_le_mul_right _ hn
 have b4:=XQ 1 (dZ (m[i].map (· / cL m)))
 rw[Ih] at b4
 refine⟨by rw[kA,List.length_set,hl],acZ (fun q hq => ?_) (by omega)⟩
 have:=qb q hq
 omega
end Go.PM
namespace Go.PM
abbrev Am:=Nat×Nat×Rat
def Gd (F:Nat→Nat→Rat) (i j:Nat) (q:Rat) (a b:Nat):Rat:=if i≠j∧a=i∧b=j then F a b+q else F a b
theorem X8 {F:Nat→Nat→Rat} {i:Nat} {q:Rat}:Gd F i i q=F:=by
 funext a b
 exact if_neg fun h=>h.1 rfl
def GL (F:Nat→Nat→Rat) (L:List Am):Nat→Nat→Rat:=L.foldl (fun F t=>Gd F t.1 t.2.1 t.2.2) F
def fH (L:List Am):Nat→Nat→Rat:=GL (fun _ _=>0) L
theorem E8 {F:Nat→Nat→Rat} {t:Am} {L:List Am}:GL F (t::L)=GL (Gd F t.1 t.2.1 t.2.2) L:=rfl
theorem Gt {F:Nat→Nat→Rat} {L M:List Am}:GL F (L++M)=GL (GL F L) M:=List.foldl_append
theorem Fm {L:List Am} {i j:Nat} {q:Rat}:fH (L++[(i,j,q)])=Gd (fH L) i j q:=Gt
theorem E7 {L:List Am} {i:Nat} {q:Rat}:fH (L++[(i,i,q)])=fH L:=by rw[Fm,X8]
theorem K4 {Q:Nat}:∀(L:List Am) (F:Nat→Nat→Rat) (B:Nat),(∀t∈L,aU t.2.2≤Q)→(∀a b,aU (F a b)≤B)→∀a b,aU (GL F L a b)≤B+L.length*(Q+1)
 |
  [],F,B,_,hF,a,b=>by
  have:=hF a b
  show aU (F a b)≤_
  omega
 |
  t::L,F,B,hL,hF,a,b=>by
  rw[E8]
  have ht:=hL t List.mem_cons_self
  have:=K4 L (Gd F t.1 t.2.1 t.2.2) (B+(Q+1)) (fun s hs=>hL s (List.mem_cons_of_mem _ hs)) (fun a b=>by
   unfold Gd
   have h1:=hF a b
   have h2:=IK (F a b) t.2.2
   split<;>omega) a b
  rw[List.length_cons,Nat.succ_mul]
  omega
theorem Lb {Q:Nat} {L:List Am} (h:∀t∈L,aU t.2.2≤Q) (a b:Nat):aU (fH L a b)≤1+L.length*(Q+1) :=
 K4 L _ 1 h (fun _ _=>by show aU 0≤1;rw[Fp];exact Nat.le_refl _) a b
theorem Ml:∀(L:List Am) (F:Nat→Nat→Rat),(∀t∈L,0≤t.2.2)→∀a b,F a b≤GL F L a b
 | [],F,_,a,b=>Rat.le_refl
 |
  t::L,F,hL,a,b=>by
  rw[E8]
  have ht:=hL t List.mem_cons_self
  have h1:=Ml L (Gd F t.1 t.2.1 t.2.2) (fun s hs=>hL s (List.mem_cons_of_mem _ hs)) a b
  have h2:F a b≤Gd F t.1 t.2.1 t.2.2 a b:=by
   unfold Gd
   split<;>grind
  exact Rat.le_trans h2 h1
theorem GI {L:List Am} (h:∀t∈L,0≤t.2.2) (a b:Nat):0≤fH L a b:=Ml L _ h a b
theorem Xc {L:List Am} {i j:Nat} {q:Rat} (h:∀t∈L,0≤t.2.2) (ht:(i,j,q)∈L) (PJ:i≠j) (hq:0<q):0<fH L i j:=by
 obtain⟨s,r,rfl⟩:=List.append_of_mem ht
 have hs:∀t∈s,0≤t.2.2:=fun t ht=>h t (List.mem_append_left _ ht)
 have hr:∀t∈r,0≤t.2.2:=fun t ht=>h t (List.mem_append_right _ (List.mem_cons_of_mem _ ht))
 have h1:=Ml r (Gd (fH s) i j q) hr i j
 have h2:fH (s++(i,j,q)::r)=GL (Gd (fH s) i j q) r:=by
  unfold fH
  rw[Gt,E8]
 rw[h2]
 have h3:=GI hs i j
 have h4:Gd (fH s) i j q i j=fH s i j+q:=if_pos ⟨PJ,rfl,rfl⟩
 rw[h4] at h1
 grind
theorem agF {qs:List Rat} (h:∀q∈qs,0≤q) {q:Rat} (hq:q∈qs):q≤dZ qs:=by
 have key:∀i,i≤qs.length→0≤dZ (qs.take i)∧∀p∈qs.take i,p≤dZ (qs.take i):=by
  intro i
  induction i with
  | zero=>intro _;exact⟨by show (0:Rat)≤0;exact Rat.le_refl,by simp⟩
  |
   succ i ih =>
   intro hi
   have hq:qs[i]? = some qs[i]:=List.getElem?_eq_getElem (by omega)
   obtain⟨h1,h2⟩:=ih (by omega)
   have h3:=h _ (List.getElem_mem (by omega:i<qs.length))
   rw[AD hq]
   refine⟨by grind,fun p hp => ?_⟩
   rw[gU hq] at hp
   rcases List.mem_append.1 hp with hp | hp
   ·have:=h2 p hp
    grind
   ·rw[List.mem_singleton] at hp
    subst hp
    grind
 have:=(key qs.length (Nat.le_refl _)).2
 rw[List.take_length] at this
 exact this q hq
theorem Uc {N:Nat} {L:List Am} {i j:Nat} {q:Rat} (h:∀t∈L,0≤t.2.2) (ht:(i,j,q)∈L) (PJ:i≠j) (hq:0<q) (hi:i<N) (hj:j<N):cL (Nv N N (fH L))≠0:=by
 have hnn:∀r∈Nv N N (fH L),∀q∈r,0≤q:=fun r hr q hq=>by
  obtain⟨a,_,rfl⟩:=Wt hr
  obtain⟨b,_,rfl⟩:=Gh.1 hq
  exact GI h a b
 obtain⟨_,_,_,h4⟩:=Lo (fun r hr=>Tl (hnn r hr)) (Nv N N (fH L)).length
 rw[List.take_length] at h4
 intro h0
 rw[←cL,h0,decide_eq_true rfl,Bool.not_true] at h4
 have kC:=List.mem_of_getElem? (WO (m:=N) (F:=fH L) hi)
 have h5:=List.any_eq_false.1 h4 _ kC
 have h6:=agF (hnn _ kC) (q:=fH L i j) (Gh.2 ⟨j,hj,rfl⟩)
 have h7:=Xc h ht PJ hq
 simp only[Bool.not_eq_true',decide_eq_false_iff_not,not_true_eq_false,Classical.not_not] at h5
 rw[h5] at h6
 grind
theorem Ty {Q N:Nat} {L:List Am} (h:∀t∈L,aU t.2.2≤Q):∀r∈Nv N N (fH L),r.length=N∧∀q∈r,aU q≤1+L.length*(Q+1):=fun r hr=>by
 obtain⟨a,_,rfl⟩:=Wt hr
 refine⟨uA ..,fun q hq => ?_⟩
 obtain⟨b,_,rfl⟩:=Gh.1 hq
 exact Lb h a b
def anN (N:Nat) (L:List Am):Option (List (List ByteArray)):=vP (nA (Nv N N (fH L)))
end Go.PM
namespace Go.PM
theorem Fe {a b c:ByteArray}:Yw [a,b,c]=match tU a,tU b,tU c with
  | some x,some y,some z=>some [x,y,z]
  | _,_,_=>none:=by
 unfold Yw
 cases ha:tU a<;>cases hb:tU b<;>cases hc:tU c<;>simp[List.mapM_cons,ha,hb,hc]
def Fc (o:Option (Nat×List Am)):Option (List (List ByteArray)):=o.bind fun p=>anN p.1 p.2
def qR (p:Nat×List Am):List (List Rat):=Nv p.1 p.1 (fH p.2)
structure QOk (p:Nat×List Am):Prop where
 n:p.1≤12
 l:p.2.length≤400
 t:∀t∈p.2,aU t.2.2≤1331∧0≤t.2.2
 s:∃i j q,(i,j,q)∈p.2∧i≠j∧0<q∧i<p.1∧j<p.1
theorem QOk.aqA {p:Nat×List Am} (h:QOk p):cL (qR p)≠0:=by
 obtain⟨i,j,q,h1,h2,h3,h4,h5⟩:=h.s
 exact Uc (fun t ht=>(h.t t ht).2) h1 h2 h3 h4 h5
theorem QOk.rows {p:Nat×List Am} (h:QOk p):∀r∈qR p,r.length=p.1∧∀q∈r,aU q≤600000:=fun r hr=>by
 obtain⟨h1,h2⟩:=Ty (Q:=1331) (fun t ht=>(h.t t ht).1) r hr
 have h3:p.2.length*(1331+1)≤400*(1331+1):=Nat.mul_le_mul_right _ h.l
 exact⟨h1,fun q hq=>by have:=h2 q hq;omega⟩
theorem BL {p:Nat×List Am}:(qR p).length=p.1:=Gu ..
theorem Io {x:ByteArray} {q:Rat} (h:tU x=some q):aU q≤665∧0<q:=⟨aiF (IU h).1,(IU h).2⟩
theorem wH {x:ByteArray} {q:Rat} (h:tU x=some q):aU q≤1331∧0≤q:=⟨by have:=(Io h).1;omega,Rat.le_of_lt (Io h).2⟩
def Pr (x y z:Rat) (a b i j:Nat):List Am:=[(i*(b+1)+j,min (i+1) a*(b+1)+j,x),(i*(b+1)+j,i*(b+1)+min (j+1) b,y),(i*(b+1)+j,if 0<i then (i-1)*(b+1)+j else i*(b+1)+(j-1),z)]
def Ee (x y z:Rat) (a b i:Nat):Nat→List Am
 | 0=>[]
 | j+1=>Ee x y z a b i j++Pr x y z a b i j
def Br (x y z:Rat) (a b:Nat):Nat→List Am
 | 0=>[]
 | i+1=>Br x y z a b i++Ee x y z a b i (b+1)
def rD (f s v:ByteArray) (a b:Int):Option (Nat×List Am):=match tU f,tU s,tU v with
 | some x,some y,some z=>if ((1≤a∧a≤12)∧1≤b∧b≤12)∧(a+1)*(b+1)≤12 then some ((a.toNat+1)*(b.toNat+1),Br x y z a.toNat b.toNat (a.toNat+1)) else none
 | _,_,_=>none
theorem Sx {P:Am→Prop} {x y z:Rat} {a b i:Nat} (h:∀j,∀t∈Pr x y z a b i j,P t):∀j,∀t∈Ee x y z a b i j,P t
 | 0,t,ht=>by cases ht
 |
  j+1,t,ht=>by
  rcases List.mem_append.1 ht with ht | ht
  ·exact Sx h j t ht
  ·exact h j t ht
theorem Sq {P:Am→Prop} {x y z:Rat} {a b:Nat} (h:∀i j,∀t∈Pr x y z a b i j,P t):∀i,∀t∈Br x y z a b i,P t
 | 0,t,ht=>by cases ht
 |
  i+1,t,ht=>by
  rcases List.mem_append.1 ht with ht | ht
  ·exact Sq h i t ht
  ·exact Sx (h i) _ t ht
theorem G3 {x y z:Rat} {a b i:Nat}:∀j,(Ee x y z a b i j).length=3*j
 | 0=>rfl
 | j+1=>by rw[Ee,List.length_append,G3 j,Pr];simp;omega
theorem GM {x y z:Rat} {a b:Nat}:∀i,(Br x y z a b i).length=3*(b+1)*i
 | 0=>rfl
 | i+1=>by rw[Br,List.length_append,GM i,G3,Nat.mul_add_one (3*(b+1)) i]
theorem Rk {x y z:Rat} {a b:Nat} (hb:1≤b):∀j,1≤j→(0,1,y)∈Ee x y z a b 0 j
 |
  j+1,_=>by
  by_cases hj:j=0
  ·subst hj
   rw[Ee,Pr]
   have:min (0+1) b=1:=by omega
   rw[this]
   simp
  ·rw[Ee]
   exact List.mem_append_left _ (Rk hb j (by omega))
theorem R0 {x y z:Rat} {a b:Nat} (hb:1≤b):∀i,1≤i→(0,1,y)∈Br x y z a b i
 |
  i+1,_=>by
  by_cases hi:i=0
  ·subst hi
   rw[Br]
   exact List.mem_append_right _ (Rk hb _ (by omega))
  ·rw[Br]
   exact List.mem_append_left _ (R0 hb i (by omega))
theorem acC {x y z:Rat} {a b i j:Nat} {P:Am→Prop} (h:∀k l,P (k,l,x)∧P (k,l,y)∧P (k,l,z)):∀t∈Pr x y z a b i j,P t:=fun t ht=>by
 unfold Pr at ht
 simp only[List.mem_cons,List.not_mem_nil,or_false] at ht
 rcases ht with rfl | rfl | rfl
 ·exact(h _ _).1
 ·exact(h _ _).2.1
 ·exact(h _ _).2.2
theorem Iz {a b:Nat} (ha:1≤a) (hb:1≤b) (h:(a+1)*(b+1)≤12):a≤5∧b≤5:=by
 have h1:(a+1)*2≤(a+1)*(b+1):=Nat.mul_le_mul_left _ (by omega)
 have h2:2*(b+1)≤(a+1)*(b+1):=Nat.mul_le_mul_right _ (by omega)
 omega
theorem afU {a b:Int} (hc:((1≤a∧a≤12)∧1≤b∧b≤12)∧(a+1)*(b+1)≤12):∃a' b':Nat,a=a'∧b=b'∧1≤a'∧1≤b'∧(a'+1)*(b'+1)≤12:=by
 refine⟨a.toNat,b.toNat,by omega,by omega,by omega,by omega,?_⟩
 have h1:(((a.toNat+1)*(b.toNat+1):Nat):Int)=(a+1)*(b+1):=by
  rw[Int.natCast_mul,Int.natCast_add,Int.natCast_add,Int.toNat_of_nonneg (by omega),Int.toNat_of_nonneg (by omega)]
  rfl
 omega
theorem Km {f s v:ByteArray} {a b:Int} {p:Nat×List Am} (h:rD f s v a b=some p):QOk p:=by
 unfold rD at h
 split at h
 ·rename_i x y z hx hy hz
  split at h
  ·rename_i hc
   obtain⟨a',b',rfl,rfl,ha,hb,Ef⟩:=afU hc
   obtain⟨h1,h2⟩:=Iz ha hb Ef
   have h3:3*((b'+1)*(a'+1))≤36:=by rw[Nat.mul_comm (b'+1)];omega
   have h4:1*(b'+1)≤(a'+1)*(b'+1):=Nat.mul_le_mul_right _ (by omega)
   cases h
   simp only[Int.toNat_natCast]
   exact⟨Ef,by simp only[];rw[GM,Nat.mul_assoc];omega,Sq (P:=fun t=>aU t.2.2≤1331∧0≤t.2.2) (fun i j=>acC fun k l=>⟨wH hx,wH hy,wH hz⟩) _,0,1,y,R0 hb _ (by omega),by decide,(Io hy).2,by simp only[];omega,by simp only[];omega⟩
  ·cases h
 ·cases h
end Go.PM
namespace Go.PM
theorem KU (q:Rat):(aB (aQ q)).all bP=true:=rfl
def agH (F:Nat→Nat→Rat) (i j:Nat) (y:Rat) (a b:Nat):Rat:=if a=i∧b=j then y else F a b
theorem Q7 {F:Nat→Nat→Rat} {i j:Nat} {q:Rat} (h:i≠j):Gd F i j q=agH F i j (F i j+q):=by
 funext a b
 unfold Gd agH
 by_cases hc:a=i∧b=j
 ·obtain⟨rfl,rfl⟩:=hc
  rw[if_pos ⟨h,rfl,rfl⟩,if_pos ⟨rfl,rfl⟩]
 ·rw[if_neg hc,if_neg fun k=>hc k.2]
def Tb (f:Rat→VV) (lo hi N M b g:Nat) (F:Nat→Nat→Rat) (H:aA):Prop:=∃rs,MG f 3 lo hi b g H rs∧rs.map (·.xs)=Nv N M F
def M9 (lo hi:Nat) (H H':aA):Prop:=H'.length=H.length∧∀b g x,b<lo∨hi≤b→aI H b g=some x→aI H' b g=some x
theorem M9.refl {lo hi:Nat} {H:aA}:M9 lo hi H H:=⟨rfl,fun _ _ _ _ h=>h⟩
section
variable {f:Rat→VV} {lo hi N M b g:Nat} {F:Nat→Nat→Rat} {H H':aA}
theorem Tb.cJ (h:Tb f lo hi N M b g F H) (hk:dH lo hi H H'):Tb f lo hi N M b g F H':=by
 obtain⟨rs,h1,h2⟩:=h
 exact⟨rs,h1.cJ hk,h2⟩
theorem Tb.pre (h:Tb f lo hi N M b g F H) (hh:H <+: H'):Tb f lo hi N M b g F H':=h.cJ (dH.pre hh)
theorem Tb.congr {G:Nat→Nat→Rat} (h:Tb f lo hi N M b g F H) (hF:∀a c,a<N→c<M→F a c=G a c):Tb f lo hi N M b g G H:=by
 obtain⟨rs,h1,h2⟩:=h
 exact⟨rs,h1,h2.trans (OC hF)⟩
theorem Tb.lt (h:Tb f lo hi N M b g F H):lo≤b∧b<hi∧b<H.length:=by
 obtain⟨rs,h1,_⟩:=h
 exact⟨h1.blo,h1.bhi,gN h1.out⟩
theorem Tb.addr {c i:Nat} (h:Tb f lo hi N M b g F H) (kX:i<N):bK 1 (.ref b g 0 N c) (VI i) H=some (.ptr b g i 0):=by
 obtain⟨rs,h1,_⟩:=h
 exact h1.addr kX
theorem Tb.len {c:Nat} (h:Tb f lo hi N M b g F H):oI (.ref b g 0 N c) H=some (VI N):=by
 obtain⟨rs,h1,_⟩:=h
 exact h1.len
theorem Tb.rdT {c:Nat} (h:Tb f lo hi N M b g F H):Y3 f 3 (Nv N M F) H (.ref b g 0 N c):=by
 obtain⟨rs,h1,h2⟩:=h
 have hl:=congrArg List.length h2
 rw[List.length_map,Gu] at hl
 rw[←h2]
 exact h1.rdT hl.symm
theorem Tb.fz {d c:Nat} (h:Tb f lo hi N M b g F H) (hc:N≤c) (hp:∀x,aN (f x)=true):PM.fz (d+3) H (.ref b g 0 N c)=some (aT (aT f) (Nv N M F)):=by
 obtain⟨rs,h1,h2⟩:=h
 have hl:=congrArg List.length h2
 rw[List.length_map,Gu] at hl
 rw[←h2,←hl]
 exact h1.fz (by omega) hp
theorem TabIs.tb {v:VV} (h:TabIs f 3 (Nv N M F) lo hi H v):∃b g c,v = .ref b g 0 N c∧N≤c∧Tb f lo hi N M b g F H:=by
 obtain⟨b,g,c,rs,h1,h2,h3,h4⟩:=h
 rw[Gu] at h1 h2
 exact⟨b,g,c,h1,h2,rs,h3,h4⟩
theorem Tb.spot {i j:Nat} (h:Tb f lo hi N M b g F H) (kX:i<N) (hj:j<M) (hfs:∀x,(aB (f x)).length=3) (hfa:∀x,(aB (f x)).all bP=true) :
  ∃rb rg rc,bT false 1 (.ptr b g i 0) H=some (.ref rb rg 0 M rc)∧bK 3 (.ref rb rg 0 M rc) (VI j) H=some (.ptr rb rg j 0)∧(∀ag,bT ag 3 (.ptr rb rg j 0) H=dD ag 3 (f (F i j)) 0) ∧
  ∀gO y,gO≤lo→∃H',bR gO 3 (.ptr rb rg j 0) (f y) H=some H'∧M9 lo hi H H'∧Tb f lo hi N M b g (agH F i j y) H'∧∀k,bT false 1 (.ptr b g k 0) H'=bT false 1 (.ptr b g k 0) H:=by
 obtain⟨rs,hM,hx⟩:=h
 have hl:=congrArg List.length hx
 rw[List.length_map,Gu] at hl
 obtain⟨r,hr⟩:∃r,rs[i]? = some r:=⟨_,List.getElem?_eq_getElem (by omega)⟩
 have PV:r.xs=vec M (F i):=by
  have h1:(rs.map (·.xs))[i]? = some r.xs:=by rw[List.getElem?_map,hr];rfl
  rw[hx,WO kX] at h1
  exact(Option.some.inj h1).symm
 have yS:r.xs.length=M:=by rw[PV,uA]
 have hgj:r.xs[j]? = some (F i j):=by rw[PV,BT hj]
 refine⟨r.b,r.g,r.c,?_,hM.at hr hj,fun ag=>hM.get hr hgj,fun gO y dK => ?_⟩
 ·have:=hM.cell hr
  rw[yS] at this
  exact this
 ·have h1:=hM.put (j:=j) (gO:=gO) (y:=y) hr (by omega) dK (hfs y) (hfa y)
  have h2:=hM.set (ys:=r.xs.set j y) hr (by rw[List.length_set])
  have CC:=hM.rows.row r (List.mem_of_getElem? hr)
  refine⟨_,h1,⟨by rw[List.length_set],fun b' g' x uC U8=>cD (by have h7:=CC.1;have h8:=CC.2.1;omega) U8⟩,⟨_,h2,?_⟩,fun k => ?_⟩
  ·have e:(rs.set i { r with xs:=r.xs.set j y }).map (fun r:vJ Rat=>r.xs)=(rs.map (fun r:vJ Rat=>r.xs)).set i (r.xs.set j y):=List.map_set
   rw[e,hx,PV,Wb,agT]
   exact OC fun a c _ _=>by unfold agH;by_cases ha:a=i<;>by_cases hc:c=j<;>simp[ha,hc]
  ·rw[bQ,bQ,cD CC.2.2.1 hM.out,hM.out]
end
theorem Rt {N:Nat}:List.replicate N (List.replicate N (0:Rat))=Nv N N fun _ _=>0:=W8
end Go.PM
namespace Go.PM
open Go.Lib
end Go.PM
namespace Go.PM
end Go.PM
namespace Go.PM
open Go.Lib
theorem abE (d:Nat) (h:d≤9223372036854775807):TC 219 [VI (d:Int)] (bB (decDigits d)):=by
 have:=Nn (d:Int) (by omega) (by omega)
 rw[if_neg (by omega),List.nil_append,Int.natAbs_natCast] at this
 exact this
theorem aaE {n i:Nat} (hi:i+1=(aC 1000000000 n).length):n / 1000000000^i=n / 1000000000^i % 1000000000:=by
 have h1:=XO (b:=1000000000) (by decide) n (i+1)
 rw[List.drop_of_length_le (by omega)] at h1
 have h2:=(lQ (b:=1000000000) (by decide)).1 h1.symm
 rw[rJ] at h2
 rcases Nat.div_eq_zero_iff.1 h2 with h | h
 ·exact absurd h (by decide)
 ·exact(Nat.mod_eq_of_lt h).symm
theorem Jb (l:List UInt8) (a b:Nat):(⟨l.toArray⟩:ByteArray).extract a b=⟨((l.drop a).take (b-a)).toArray⟩:=by
 rw[ByteArray.ext_iff,ByteArray.data_extract]
 simp[List.extract_toArray,List.extract_eq_take_drop]
theorem abU (l:List UInt8) {a b:Nat} (h:a≤b) (hb:b≤l.length):uU (bB l) (some (VI (a:Int))) (some (VI (b:Int)))=some (bB ((l.drop a).take (b-a))):=by
 have hs:(⟨l.toArray⟩:ByteArray).size=l.length:=by simp[ByteArray.size]
 have e1:(0:Int)≤b∧(b:Int)≤(l.length:Int):=by omega
 have e2:(0:Int)≤a∧(a:Int)≤(b:Int):=by omega
 simp only[uU,Fu,zJ,hs,eU,e1,e2,and_self,if_true,Int.toNat_natCast,Jb]
theorem Ol (l:List UInt8) {a:Nat} (h:a≤l.length):uU (bB l) (some (VI (a:Int))) none=some (bB (l.drop a)):=by
 have hs:(⟨l.toArray⟩:ByteArray).size=l.length:=by simp[ByteArray.size]
 have e2:(0:Int)≤a∧(a:Int)≤(l.length:Int):=by omega
 simp only[uU,Fu,zJ,hs,eU,e2,and_self,if_true,Int.toNat_natCast,Jb]
 rw[List.take_of_length_le (by simp)]
theorem arD (l:List UInt8) (h:1≤l.length):uU (bB l) (some (VI 1)) none=some (bB (l.drop 1)):=Ol l h
theorem Xa {a:Nat} (h:a<1000000000):IntKind.i64.wrap ((a:Int)+1000000000)=((a+1000000000:Nat):Int):=wrapN _ (by omega) (by omega)
theorem nN (n:Nat) (hn:bl n≤2199023255552):TC 208 [bY n] (bB (decDigits n)):=by
 refine TC.walk ⟨true,false⟩ GF rfl (Nat.le_of_ble_eq_true rfl) (by simp[aM,cH]) rfl ?_
 by_cases h0:n=0
 ·subst h0
  have hl:(((aC 1000000000 0).length:Nat):Int)=0:=by rw[cB];rfl
  simp only[vC,rO,cM,hl,VX,Nat.reduceEqDiff,Nat.reduceAdd]
  rw[iJ (by decide)]
  exact aF rfl
 have hl:¬(((aC 1000000000 n).length:Nat):Int)=0:=by have:=(pV (n:=n)).2 h0;omega
 obtain⟨L,hL⟩:∃L,(aC 1000000000 n).length=L+1:=⟨(aC 1000000000 n).length-1,by omega⟩
 have CS:=oD (n:=n) (by omega)
 have hlT:=aiU n
 have hdl:=A3 n
 have w1:IntKind.i64.wrap (((L+1:Nat):Int)-1)=(L:Int):=wrapN _ (by omega) (by omega)
 have w2:IntKind.i64.wrap (((L+1:Nat):Int)-2)=(L:Int)-1:=by rw[wrap64 (by omega) (by omega)];omega
 have at':∀i,i≤L→bK 1 (bY n) (VI (i:Int)) []=some (.cN (tV (n / 1000000000^i % 1000000000)) 0):=fun i hi=>aK (f:=tV) (t := .op) (H:=[]) (size:=1) (k := .i64) (Lh (b:=1000000000) (by decide) (n:=n) (i:=i) (by omega)) rfl
 have eL:=at' L (Nat.le_refl _)
 have Zt:=aaE (n:=n) (i:=L) (by omega)
 rw[←Zt] at eL
 have Qy:n / 1000000000^L≠0:=(DN (b:=1000000000) (by decide)).1 (by omega)
 have hqT:n / 1000000000^L<1000000000:=by rw[Zt];exact Nat.mod_lt _ (by decide)
 have c1:=abE (n / 1000000000^L) (by omega)
 rw[hL] at hl
 simp only[vC,rO,cM,hL,hl,w1,w2,eL,c1,VX,Nat.reduceEqDiff,Nat.reduceAdd]
 refine aS (fun(j:Nat) ρ H=>j≤L∧H=[]∧ρ 0=bY n∧ρ 3=bB (decDigits (n / 1000000000^j))∧ρ 4=VI ((j:Int)-1)) (fun j=>j) L ⟨Nat.le_refl _,rfl,rfl,rfl,rfl⟩ ?_
 rintro j ρ H ⟨hj,rfl,g0,g3,g4⟩
 by_cases hz:(0:Int)≤(j:Int)-1
 ·obtain⟨i,rfl⟩:∃i,j=i+1:=⟨j-1,by omega⟩
  have HD:((i+1:Nat):Int)-1=(i:Int):=by omega
  rw[HD] at g4 hz
  have e1:=at' i (by omega)
  have hm:=Nat.mod_lt (n / 1000000000^i) (show 0<1000000000 by decide)
  have hq1:n / 1000000000^(i+1)≠0:=(DN (b:=1000000000) (by decide)).1 (by omega)
  have hdm:=Nat.mod_add_div (n / 1000000000^i) 1000000000
  rw[←rJ] at hdm
  have hch:=Ix (Nat.pos_of_ne_zero hq1) hm
  have hle:n / 1000000000^i≤n:=Nat.div_le_self _ _
  have ZX:=A3 (n / 1000000000^i)
  have hbi:=jZ hle
  rw[show n / 1000000000^(i+1)*1000000000+n / 1000000000^i % 1000000000=n / 1000000000^i by omega] at hch
  generalize hAA:n / 1000000000^i=A at *
  generalize n / 1000000000^(i+1)=B at *
  have w4:IntKind.i64.wrap ((i:Int)-1)=(i:Int)-1:=wrap64 (by omega) (by omega)
  have c2:=abE (A % 1000000000+1000000000) (by omega)
  rw[aiQ hm] at c2
  have e2:=arD (d10 1::Ct 9 (A % 1000000000)) (by simp)
  rw[List.drop_succ_cons,List.drop_zero] at e2
  have hlen:=congrArg List.length hch
  rw[List.length_append] at hlen
  have a1:=qI (decDigits B) (Ct 9 (A % 1000000000)) (by omega)
  rw[←hch] at a1
  have awJ:i≤L:=by omega
  have hmu:i<i+1:=by omega
  have w3:=Xa hm
  simp only[qW,g0,g3,g4,hz,e1,w3,w4,c2,e2,a1,VX,Nat.reduceEqDiff,Nat.reduceAdd]
  refine⟨i,hmu,awJ,?_⟩
  rw[hAA]
  exact⟨rfl,rfl⟩
 ·have QA:j=0:=by omega
  subst QA
  rw[Nat.pow_zero,Nat.div_one] at g3
  simp only[qW,g0,g3,g4,hz,VX,Nat.reduceEqDiff,Nat.reduceAdd]
  exact aF rfl
theorem KL (q:Rat) (hk:aU q≤1099511627776):TC 188 [bC q] (VB (vX q)):=by
 refine TC.walk ⟨true,false⟩ KY rfl (Nat.le_of_ble_eq_true rfl) (by simp[aM,jJ]) rfl ?_
 have la:=tG hk
 have lb:=tN hk
 have t1:=nN q.num.natAbs (by omega)
 have t2:=nN q.den (by omega)
 have hf:vX q=(decide (((decDigits q.num.natAbs).length:Int)≤200)&&decide (((decDigits q.den).length:Int)≤200)):=by
  unfold vX
  congr 1<;>exact decide_eq_decide.2 (by omega)
 rw[hf]
 by_cases hl:((decDigits q.num.natAbs).length:Int)≤200
 ·simp only[BE,xH,t1,t2,hl,bM,cA,fO,fX,gF,aL,iU,Nat.reduceLeDiff,Nat.reduceLT,Nat.reduceSub,VX,Nat.reduceEqDiff,Nat.reduceAdd]
  exact aF rfl
 ·simp only[BE,xH,t1,t2,hl,bM,cA,fO,fX,gF,aL,iU,Nat.reduceLeDiff,Nat.reduceLT,Nat.reduceSub,VX,Nat.reduceEqDiff,Nat.reduceAdd]
  exact aF rfl
theorem KK (q:Rat) (hk:aU q≤1099511627776):TC 189 [bC q] (bB (EW q)):=by
 refine TC.walk ⟨true,false⟩ K9 rfl (Nat.le_of_ble_eq_true rfl) (by simp[aM,jJ]) rfl ?_
 have la:=tG hk
 have lb:=tN hk
 have t1:=nN q.num.natAbs (by omega)
 have t2:=nN q.den (by omega)
 have d1:=A3 q.num.natAbs
 have d2:=A3 q.den
 have c1:∀lo H K,_:=fun lo H K=>Kc (n:=q.den) (lo:=lo) (H:=H) (K:=K) (Nat.le_of_lt (oD (by omega)))
 have a1:dI .add (.string ⟨#[45]⟩) (.string ⟨(decDigits q.num.natAbs).toArray⟩)=some (.string ⟨(45::decDigits q.num.natAbs).toArray⟩):=qI [45] _ (by simp only[List.length_cons,List.length_nil];omega)
 have a2:dI .add (.string ⟨#[47]⟩) (.string ⟨(decDigits q.den).toArray⟩)=some (.string ⟨(47::decDigits q.den).toArray⟩):=qI [47] (decDigits q.den) (by simp only[List.length_cons,List.length_nil];omega)
 have a3:=qI (45::decDigits q.num.natAbs) (47::decDigits q.den) (by simp only[List.length_cons];omega)
 have a4:=qI (decDigits q.num.natAbs) (47::decDigits q.den) (by simp only[List.length_cons];omega)
 have hs:EW q=(if q.num<0 then (45::decDigits q.num.natAbs) else decDigits q.num.natAbs)++(if q.den=1 then [] else 47::decDigits q.den):=by
  unfold EW
  by_cases hn:q.num<0
  ·rw[if_pos hn,if_pos hn];rfl
  ·rw[if_neg hn,if_neg hn];rfl
 rw[hs]
 by_cases hd:eX q.den 1=0
 ·rw[if_pos (AT.1 hd),List.append_nil]
  by_cases hn:q.num<0
  all_goals
   simp only[Bn,wY,t1,t2,a1,a2,a3,a4,c1,hd,hn,dU,cA,fO,fX,gF,aL,iU,Nat.reduceLeDiff,Nat.reduceLT,Nat.reduceSub,VX,Nat.reduceEqDiff,Nat.reduceAdd]
   exact aF rfl
 ·rw[if_neg (mt AT.2 hd)]
  by_cases hn:q.num<0
  all_goals
   simp only[Bn,wY,t1,t2,a1,a2,a3,a4,c1,hd,hn,dU,cA,fO,fX,gF,aL,iU,Nat.reduceLeDiff,Nat.reduceLT,Nat.reduceSub,VX,Nat.reduceEqDiff,Nat.reduceAdd]
   exact aF rfl
theorem Mm (q:Rat) (hk:aU q≤1099511627776):TC 171 [bC q] (SZ q):=by
 refine TC.walk ⟨true,false⟩ MS rfl (Nat.le_of_ble_eq_true rfl) (by simp[aM,jJ]) (Xe q) ?_
 have t1:=KL q hk
 have t2:=KK q hk
 unfold SZ
 by_cases h:vX q=true
 ·rw[h] at t1
  rw[if_pos h]
  simp only[Bv,xJ,t1,t2,cA,fE,mU,aL,iU,Nat.reduceLeDiff,Nat.reduceLT,Nat.reduceSub,VX,Nat.reduceEqDiff,Nat.reduceAdd]
  exact aF rfl
 ·have h':vX q=false:=by simpa using h
  rw[h'] at t1
  rw[if_neg h]
  simp only[Bv,xJ,t1,cA,fE,mU,aL,iU,Nat.reduceLeDiff,Nat.reduceLT,Nat.reduceSub,VX,Nat.reduceEqDiff,Nat.reduceAdd]
  exact aF rfl
theorem Tw {α:Type} {z:List Value} {u v w:VV} {H:aA} (hz:(z.map jB).all bP=true) (hu:(aB u).length=z.length) (hus:(aB u).all bP=true) (hv:(aB v).length=z.length) (hs:(aB v).all bP=true) (hw:(aB w).length=z.length) (hws:(aB w).all bP=true):jC false z 3 [(0,u),(1,v),(2,w)] H=some (.tree [u,v,w] (.cl z.length),H):=by
 simp[jC,uD,hv,hs,hu,hus,hw,hws,hz,List.replicate_succ]
end Go.PM
namespace Go.PM
open Go.Lib
def gX (c:UInt8):List UInt8→List (List UInt8)
 | []=>[[]]
 |
  x::r=>if x=c then []::gX c r else match gX c r with
  | []=>[[x]]
  | a::t=>(x::a)::t
theorem Mx {c:UInt8} {r:List UInt8}:∀ {a:List UInt8},c∉a→gX c (a++c::r)=a::gX c r:=by
 intro a
 induction a with
 | nil=>intro _;rw[List.nil_append,gX,if_pos rfl]
 |
  cons x a ih =>
  intro h
  rw[List.mem_cons,not_or] at h
  rw[List.cons_append,gX,if_neg (fun he=>h.1 he.symm),ih h.2]
theorem Fz {c:UInt8}:∀ {a:List UInt8},c∉a→gX c a=[a]:=by
 intro a
 induction a with
 | nil=>intro _;rfl
 |
  cons x a ih =>
  intro h
  rw[List.mem_cons,not_or] at h
  rw[gX,if_neg (fun he=>h.1 he.symm),ih h.2]
theorem Ut {c:UInt8} (l:List UInt8):gX c l≠[]:=by
 cases l with
 | nil=>simp[gX]
 |
  cons x r =>
  rw[gX]
  split
  ·simp
  ·split<;>simp
theorem R6 {c:UInt8} {l:List UInt8} (h:(lW c l).2=none):gX c l=[l]:=Fz (Be h).2.2
theorem Jj {c:UInt8} {l r:List UInt8} (h:(lW c l).2=some r):gX c l=(lW c l).1::gX c r:=by
 obtain⟨_,h2,h3⟩:=HY h
 have:=Mx (r:=r) h3
 rw[←h2] at this
 exact this
theorem QK {c:UInt8} {l:List UInt8} (h:c∈l):2≤(gX c l).length:=by
 cases hc:(lW c l).2 with
 | none=>exact absurd h (Be hc).2.2
 |
  some r =>
  rw[Jj hc,List.length_cons]
  have:=List.length_pos_iff.2 (Ut (c:=c) r)
  omega
theorem XP {l:List UInt8} {i:Nat} (h:i<l.length):(l.take (i+1)).all iD=((l.take i).all iD&&iD (l.getD i 0)):=by
 rw[List.take_add_one,List.all_append]
 have:l[i]? = some (l.getD i 0):=by rw[List.getElem?_eq_getElem h,List.getD_eq_getElem?_getD,List.getElem?_eq_getElem h];rfl
 rw[this]
 simp
set_option maxHeartbeats 1000000 in
theorem pG (l:List UInt8) (hl:l.length≤1000000000000):TC 168 [bB l] (VB (hC l)):=by
 refine TC.walk ⟨true,false⟩ IF rfl (Nat.le_of_ble_eq_true rfl) rfl rfl ?_
 simp only[CF,Ar,VX,Nat.reduceEqDiff,Nat.reduceAdd]
 refine aS (fun(i:Nat) ρ H=>i≤l.length∧H=[]∧(l.take i).all iD=true∧ρ 0=bB l∧ρ 3=VI i) (fun i=>l.length-i) 0 ⟨Nat.zero_le _,rfl,rfl,rfl,rfl⟩ ?_
 rintro i ρ H ⟨hi,rfl,hd,g0,g3⟩
 by_cases dB:(i:Int)<(l.length:Int)
 ·have Ub:i<l.length:=by omega
  have e1:=Dl l Ub
  have wi:IntKind.i64.wrap ((i:Int)+1)=((i+1:Nat):Int):=wrapN (i+1) (by omega) (by omega)
  have ht:=XP Ub
  rw[hd,Bool.true_and] at ht
  have UN:iD (l.getD i 0)=(decide (48≤(l.getD i 0).toNat)&&decide ((l.getD i 0).toNat≤57)):=rfl
  have lF:iD (l.getD i 0)=false→hC l=false:=by
   intro h
   rw[h] at ht
   have:l.all iD=false:=by rw[←List.take_append_drop (i+1) l,List.all_append,ht,Bool.false_and]
   unfold hC
   rw[this]
   rfl
  generalize (l.getD i 0).toNat=c at *
  by_cases q1:(c:Int)<48
  ·rw[lF (by rw[UN,decide_eq_false (by omega)];rfl)]
   simp only[dR,g0,g3,bM,dB,e1,q1,VX,Nat.reduceEqDiff,Nat.reduceAdd]
   exact aF rfl
  ·by_cases q2:(57:Int)<(c:Int)
   ·rw[lF (by rw[UN,decide_eq_false (show ¬c≤57 by omega),Bool.and_false])]
    simp only[dR,g0,g3,bM,dB,e1,q1,q2,VX,Nat.reduceEqDiff,Nat.reduceAdd]
    exact aF rfl
   ·rw[UN,decide_eq_true (by omega),decide_eq_true (by omega),Bool.and_self] at ht
    simp only[dR,g0,g3,bM,dB,e1,q1,q2,wi,VX,Nat.reduceEqDiff,Nat.reduceAdd]
    exact⟨i+1,by omega,by omega,ht,rfl⟩
 ·have nY:i=l.length:=by omega
  subst nY
  rw[List.take_length] at hd
  by_cases h1:(1:Int)≤(l.length:Int)
  ·by_cases h2:(l.length:Int)≤200
   ·by_cases h3:(l.length:Int)=1
    ·rw[jK.2 ⟨hd,by omega,by omega,.inl (by omega)⟩]
     simp only[dR,g0,g3,bM,dB,ge_iff_le,h1,h2,h3,Int.reduceLE,Int.reduceLT,VX,Nat.reduceEqDiff,Nat.reduceAdd]
     exact aF rfl
    ·have e1:=HQ l (by omega)
     by_cases h4:(((l.getD 0 0).toNat:Int)=48)
     ·have hk:hC l=false:=by
       cases h:hC l with
       | false=>rfl
       |
        true =>
        rcases(jK.1 h).2.2.2 with h5 | h5
        ·omega
        ·exact absurd (UInt8.toNat_inj.1 (by rw[show (48:UInt8).toNat=48 from rfl];omega)) h5
      rw[hk]
      simp only[dR,g0,g3,bM,dB,ge_iff_le,h1,h2,h3,h4,e1,VX,Nat.reduceEqDiff,Nat.reduceAdd]
      exact aF rfl
     ·have h5:l.getD 0 0≠48:=fun h=>h4 (by rw[h];rfl)
      rw[jK.2 ⟨hd,by omega,by omega,.inr h5⟩]
      simp only[dR,g0,g3,bM,dB,ge_iff_le,h1,h2,h3,h4,e1,VX,Nat.reduceEqDiff,Nat.reduceAdd]
      exact aF rfl
   ·have hk:hC l=false:=by
     cases h:hC l with
     | false=>rfl
     | true=>have:=(jK.1 h).2.2.1;omega
    rw[hk]
    simp only[dR,g0,g3,bM,dB,ge_iff_le,h1,h2,VX,Nat.reduceEqDiff,Nat.reduceAdd]
    exact aF rfl
  ·have hk:hC l=false:=by
    cases h:hC l with
    | false=>rfl
    | true=>have:=(jK.1 h).2.1;omega
   rw[hk]
   simp only[dR,g0,g3,bM,dB,ge_iff_le,h1,VX,Nat.reduceEqDiff,Nat.reduceAdd]
   exact aF rfl
set_option maxHeartbeats 1000000 in
theorem EF (l:List UInt8) (c:UInt8) (hl:l.length≤1000000000000):TC 167 [bB l,.sc (.int .u8 (c.toNat:Int))] (aT bB (gX c l)):=by
 refine TC.walk ⟨true,false⟩ ND rfl (Nat.le_of_ble_eq_true rfl) rfl (yB (size:=1) (fun _=>rfl) (fun _=>rfl) fun _=>rfl) ?_
 have e3:∀lr,jC lr [.string ⟨#[]⟩] 0 [] []=some (.ref 0 0 0 0 0,[.row 0 (([]:List (List UInt8)).map bB) 1 true]):=fun lr=>iE (H:=[]) (lr:=lr) (z:=[.string ⟨#[]⟩]) rfl
 have e4:∀(x:List UInt8) (H:aA),jC false [.string ⟨#[]⟩] 1 [(0,bB x)] H=some (.tree [bB x] (.cl 1),H):=fun x H=>gE (z:=[.string ⟨#[]⟩]) rfl rfl rfl
 have e5:∀(x:List UInt8) (H:aA),cU 1 (.tree [bB x] (.cl 1)) H=some [bB x]:=fun x H=>dQ rfl rfl
 simp only[I0,ED,e3,VX,Nat.reduceEqDiff,Nat.reduceAdd]
 refine aS (fun(s:List (List UInt8)×Nat×Nat) ρ H=>H=[.row s.1.length (s.1.map bB) 1 true]∧s.2.1≤s.2.2∧s.2.2≤l.length+1∧s.1.length≤s.2.1 ∧
  ((s.2.2≤l.length∧gX c l=s.1++gX c (l.drop s.2.1)∧c∉(l.drop s.2.1).take (s.2.2-s.2.1))∨(s.2.2=l.length+1∧gX c l=s.1)) ∧
  ρ 0=bB l∧ρ 1 = .sc (.int .u8 (c.toNat:Int))∧ρ 5 = .ref 0 s.1.length 0 s.1.length s.1.length∧ρ 6=VI s.2.1∧ρ 7=VI s.2.2) (fun s=>l.length+1-s.2.2) ([],0,0) ⟨rfl,Nat.zero_le _,Nat.zero_le _,Nat.zero_le _,.inl ⟨Nat.zero_le _,rfl,by simp⟩,rfl,rfl,rfl,rfl,rfl⟩ ?_
 rintro⟨out,fr,i⟩ ρ H ⟨rfl,hfi,hi,jL,E5,g0,g1,g5,g6,g7⟩
 simp only at hfi hi jL E5 g5 g6 g7
 by_cases dB:(i:Int)≤(l.length:Int)
 ·have Ub:i≤l.length:=by omega
  obtain⟨hp,hc⟩:gX c l=out++gX c (l.drop fr)∧c∉(l.drop fr).take (i-fr):=by
   rcases E5 with⟨_,h1,h2⟩ | ⟨h,_⟩
   ·exact⟨h1,h2⟩
   ·omega
  have wi:IntKind.i64.wrap ((i:Int)+1)=((i+1:Nat):Int):=wrapN (i+1) (by omega) (by omega)
  have e2:=abU l hfi Ub
  have eP:=iC (f:=bB) (xs:=out) (x:=(l.drop fr).take (i-fr)) (lo:=0) (b:=0) (g:=out.length) (n:=out.length) (e:=1) (bytes:=16) (H:=[.row out.length (out.map bB) 1 true]) bA rfl (Nat.zero_le _) (by decide) (by decide) (by omega)
  have HE:([.row out.length (out.map bB) 1 true]:aA).set 0 (.row (out.length+1) ((out++[(l.drop fr).take (i-fr)]).map bB) 1 true)=[.row (out.length+1) ((out++[(l.drop fr).take (i-fr)]).map bB) 1 true]:=rfl
  rw[HE] at eP
  by_cases q1:i=l.length
  ·subst q1
   have acS:gX c l=out++[(l.drop fr).take (l.length-fr)]:=by
    rw[hp]
    have:(l.drop fr).take (l.length-fr)=l.drop fr:=List.take_of_length_le (by rw[List.length_drop];omega)
    rw[this] at hc ⊢
    rw[Fz hc]
   simp only[oE,g0,g1,g5,g6,g7,bM,dB,eq_self,e2,e4,e5,eP,wi,VX,Nat.reduceEqDiff,Nat.reduceAdd]
   refine⟨(out++[(l.drop fr).take (l.length-fr)],l.length+1,l.length+1),by simp only;omega,?_,by simp only;omega,by simp only;omega,?_,.inr ⟨rfl,acS⟩,?_⟩
   ·simp
   ·simp only[List.length_append,List.length_cons,List.length_nil];omega
   ·simp
  ·have aiB:i<l.length:=by omega
   have q1':¬(i:Int)=(l.length:Int):=by omega
   have e1:=Dl l aiB
   have hgd:l.drop i=l.getD i 0::l.drop (i+1):=by rw[List.drop_eq_getElem_cons aiB,List.getD_eq_getElem?_getD,List.getElem?_eq_getElem aiB];rfl
   by_cases q2:l.getD i 0=c
   ·have q2':((l.getD i 0).toNat:Int)=(c.toNat:Int):=by rw[q2]
    have acS:gX c l=(out++[(l.drop fr).take (i-fr)])++gX c (l.drop (i+1)):=by
     have Uu:l.drop fr=(l.drop fr).take (i-fr)++c::l.drop (i+1):=by
      have h1:(l.drop fr).drop (i-fr)=l.drop i:=by rw[List.drop_drop];congr 1;omega
      conv=>lhs;rw[←List.take_append_drop (i-fr) (l.drop fr),h1,hgd,q2]
     rw[hp]
     conv=>lhs;rw[Uu]
     rw[Mx hc,List.append_assoc]
     rfl
    simp only[oE,g0,g1,g5,g6,g7,bM,dB,q1',e1,q2',eq_self,e2,e4,e5,eP,wi,VX,Nat.reduceEqDiff,Nat.reduceAdd]
    refine⟨(out++[(l.drop fr).take (i-fr)],i+1,i+1),by simp only;omega,?_,by simp only;omega,by simp only;omega,?_,.inl ⟨by simp only;omega,acS,by simp⟩,?_⟩
    ·simp
    ·simp only[List.length_append,List.length_cons,List.length_nil];omega
    ·simp
   ·have q2':¬((l.getD i 0).toNat:Int)=(c.toNat:Int):=fun h=>q2 (UInt8.toNat_inj.1 (by omega))
    simp only[oE,g0,g1,g5,g6,g7,bM,dB,q1',e1,q2',wi,VX,Nat.reduceEqDiff,Nat.reduceAdd]
    refine⟨(out,fr,i+1),by simp only;omega,rfl,by simp only;omega,by simp only;omega,jL,.inl ⟨by simp only;omega,hp,?_⟩,rfl,rfl,rfl⟩
    simp only
    rw[show i+1-fr=(i-fr)+1 by omega,List.take_add_one,List.mem_append,not_or]
    refine⟨hc,?_⟩
    have:(l.drop fr)[i-fr]? = some (l.getD i 0):=by
     rw[List.getElem?_drop,show fr+(i-fr)=i by omega,List.getD_eq_getElem?_getD,List.getElem?_eq_getElem aiB]
     rfl
    rw[this]
    simp
    exact fun h=>q2 h.symm
 ·have acS:gX c l=out:=by
   rcases E5 with⟨h,_⟩ | ⟨_,h⟩
   ·omega
   ·exact h
  rw[acS]
  simp only[oE,g0,g5,g7,bM,dB,VX,Nat.reduceEqDiff,Nat.reduceAdd]
  exact MU (es:=out.map bB) bA (by simp) (Nat.le_refl _) (gP fun _=>rfl)
theorem abG {l:List UInt8} (h:l.all iD=true) {i:Nat} (hi:i<l.length):48≤(l.getD i 0).toNat∧(l.getD i 0).toNat≤57:=by
 have:=List.all_eq_true.1 h (l.getD i 0) (by rw[List.getD_eq_getElem?_getD,List.getElem?_eq_getElem hi];exact List.getElem_mem hi)
 simpa[iD] using this
theorem ME {l:List UInt8} (hd:l.all iD=true) (hl:l.length≤1000000000000) {fr tq:Nat} (hft:fr≤tq) (h9:tq-fr≤9) (htl:tq≤l.length) {H:aA} {lo:Nat} {ρ:dM} {Q:VQ} (h0:ρ 0=bB l) (h4:ρ 4=VI tq) (h6:ρ 6=VI 0) (h7:ρ 7=VI fr)
  (hQ:∀bI,(∀t,t<6→bI t=ρ t)→bI 6=VI (bX ((l.drop fr).take (tq-fr)))→Q .normal bI H):VW ⟨true,false⟩ lo (.loop mC) (Ai 2 Q) ρ H:=by
 refine aS (fun(i:Nat) bI H'=>fr≤i∧i≤tq∧H'=H∧(∀t,t<6→bI t=ρ t)∧bI 6=VI (bX ((l.drop fr).take (i-fr)))∧bI 7=VI i) (fun i=>tq-i) fr ⟨Nat.le_refl _,hft,rfl,fun _ _=>rfl,by rw[h6,Nat.sub_self];rfl,h7⟩ ?_
 rintro i bI H' ⟨hfi,hi,rfl,hk,g6,g7⟩
 have g0:=(hk 0 (by decide)).trans h0
 have g4:=(hk 4 (by decide)).trans h4
 by_cases dB:(i:Int)<(tq:Int)
 ·have Ub:i<l.length:=by omega
  have e1:=Dl l Ub
  obtain⟨c1,c2⟩:=abG hd Ub
  have wi:IntKind.i64.wrap ((i:Int)+1)=((i+1:Nat):Int):=wrapN (i+1) (by omega) (by omega)
  have hcd:((l.drop fr).take (i-fr)).all iD=true:=by
   rw[List.all_eq_true] at hd ⊢
   exact fun x hx=>hd x (List.mem_of_mem_drop (List.mem_of_mem_take hx))
  have bF:=FV hcd
  rw[List.length_take,List.length_drop,Nat.min_eq_left (by omega)] at bF
  have hp9:10^(i-fr)≤10^8:=Nat.pow_le_pow_right (by decide) (by omega)
  have e8:(10:Nat)^8=100000000:=by decide
  have sH:bX ((l.drop fr).take (i+1-fr))=bX ((l.drop fr).take (i-fr))*10+dv (l.getD i 0):=by
   have:(l.drop fr)[i-fr]? = some (l.getD i 0):=by
    rw[List.getElem?_drop,show fr+(i-fr)=i by omega,List.getD_eq_getElem?_getD,List.getElem?_eq_getElem Ub]
    rfl
   rw[show i+1-fr=(i-fr)+1 by omega,List.take_add_one,this]
   exact YN _ _
  have hdv:dv (l.getD i 0)=(l.getD i 0).toNat-48:=rfl
  rw[hdv] at sH
  generalize (l.getD i 0).toNat=c at *
  generalize bX ((l.drop fr).take (i-fr))=D at *
  have w1:IntKind.i64.wrap (10*(D:Int))=((10*D:Nat):Int):=wrapN _ (by omega) (by omega)
  have w2:IntKind.u8.wrap ((c:Int)-48)=((c-48:Nat):Int):=by
   simp[IntKind.wrap,IntKind.bits,IntKind.signed]
   omega
  have w3:IntKind.i64.wrap ((c-48:Nat):Int)=((c-48:Nat):Int):=wrapN _ rfl (by omega)
  have w4:IntKind.i64.wrap (((10*D:Nat):Int)+((c-48:Nat):Int))=((D*10+(c-48):Nat):Int):=wrapN _ (by omega) (by omega)
  simp only[mC,g0,g4,g6,g7,dB,e1,w1,w2,w3,w4,wi,VX,Nat.reduceEqDiff,Nat.reduceAdd]
  refine⟨i+1,by omega,by omega,by omega,fun t ht => ?_,by rw[sH],rfl⟩
  try simp only[uS]
  repeat rw[if_neg (by omega)]
  exact hk t ht
 ·have nY:i=tq:=by omega
  subst nY
  simp only[mC,g4,g7,dB,VX,Nat.reduceEqDiff,Nat.reduceAdd]
  refine hQ _ (fun t ht => ?_) ?_
  ·try simp only[uS]
   repeat rw[if_neg (by omega)]
   exact hk t ht
  ·simp only[g6,VX,Nat.reduceEqDiff,Nat.reduceAdd]
set_option maxHeartbeats 1000000 in
theorem rU (l:List UInt8) (hd:l.all iD=true) (hl:l.length≤1000000000):TC 169 [bB l] (bY (bX l)):=by
 refine TC.walk ⟨true,false⟩ Gv rfl (Nat.le_of_ble_eq_true rfl) rfl (mY _) ?_
 have e3:∀lr,jC lr [.int .i64 0] 0 [] []=some (.ref 0 0 0 0 0,[.row 0 (([]:List Nat).map tV) 1 true]):=fun lr=>iE (H:=[]) (lr:=lr) (z:=[.int .i64 0]) rfl
 have e4:∀(x:Nat) (H:aA),jC false [.int .i64 0] 1 [(0,tV x)] H=some (.tree [tV x] (.cl 1),H):=fun x H=>gE (z:=[.int .i64 0]) rfl rfl rfl
 have e5:∀(x:Nat) (H:aA),cU 1 (.tree [tV x] (.cl 1)) H=some [tV x]:=fun x H=>dQ rfl rfl
 simp only[B4,zN,e3,bM,VX,Nat.reduceEqDiff,Nat.reduceAdd]
 refine aS (fun(s:List Nat×Int) ρ H=>H=[.row s.1.length (s.1.map tV) 1 true]∧s.2≤l.length ∧ -9≤s.2∧s.1.length+s.2.toNat≤l.length∧(∀d∈s.1,d<1000000000)∧bX l=val 1000000000 s.1+1000000000^s.1.length*bX (l.take s.2.toNat) ∧
  ρ 0=bB l∧ρ 3 = .ref 0 s.1.length 0 s.1.length s.1.length∧ρ 4=VI s.2) (fun s=>s.2.toNat) ([],(l.length:Int)) ⟨rfl,Int.le_refl _,by simp only;omega,by simp,by simp,?_,rfl,rfl,rfl⟩ ?_
 ·simp only[Int.toNat_natCast,List.take_length,List.length_nil,Nat.pow_zero,Nat.one_mul,val,Nat.zero_add]
 rintro⟨out,z⟩ ρ H ⟨rfl,hz,hz9,jL,hds,hv,g0,g3,g4⟩
 simp only at hz hz9 jL hds hv g3 g4
 by_cases kY:0<z
 ·obtain⟨tq,rfl⟩:∃tq:Nat,z=tq:=⟨z.toNat,by omega⟩
  rw[Int.toNat_natCast] at jL hv
  have hto:0<tq:=by omega
  have key:∀fr:Nat,fr≤tq→tq-fr≤9→bX (l.take tq)=bX (l.take fr)*10^(tq-fr)+bX ((l.drop fr).take (tq-fr))∧bX ((l.drop fr).take (tq-fr))<1000000000:=by
   intro fr h1 h2
   have hcd:((l.drop fr).take (tq-fr)).all iD=true:=by
    rw[List.all_eq_true] at hd ⊢
    exact fun x hx=>hd x (List.mem_of_mem_drop (List.mem_of_mem_take hx))
   have hlen:((l.drop fr).take (tq-fr)).length=tq-fr:=by rw[List.length_take,List.length_drop];omega
   constructor
   ·have:=List.take_add (l:=l) (i:=fr) (j:=tq-fr)
    rw[show fr+(tq-fr)=tq by omega] at this
    rw[this,MI,hlen]
   ·have:=FV hcd
    rw[hlen] at this
    exact Nat.lt_of_lt_of_le this (Nat.le_trans (Nat.pow_le_pow_right (by decide) h2) (by decide))
  have eP:=fun X=>iC (f:=tV) (xs:=out) (x:=X) (lo:=0) (b:=0) (g:=out.length) (n:=out.length) (e:=1) (bytes:=8) (H:=[.row out.length (out.map tV) 1 true]) bA rfl (Nat.zero_le _) (by decide) (by decide) (by omega)
  have HE:∀X,([.row out.length (out.map tV) 1 true]:aA).set 0 (.row (out.length+1) ((out++[X]).map tV) 1 true)=[.row (out.length+1) ((out++[X]).map tV) 1 true]:=fun _=>rfl
  simp only[HE] at eP
  by_cases h9:(9:Int)<(tq:Int)
  ·obtain⟨k1,k2⟩:=key (tq-9) (by omega) (by omega)
   have wz:IntKind.i64.wrap ((tq:Int)-9)=((tq-9:Nat):Int):=wrapN _ (by omega) (by omega)
   rw[show tq-(tq-9)=9 by omega] at k1 k2
   rw[show (10:Nat)^9=1000000000 by decide] at k1
   simp only[mD,g0,g3,g4,kY,h9,wz,VX,Nat.reduceEqDiff,Nat.reduceAdd]
   refine ME (l:=l) hd (by omega) (fr:=tq-9) (tq:=tq) (by omega) (by omega) (by omega) ?_ ?_ ?_ ?_ fun wP q q6 => ?_
   all_goals first | (simp only[g0,g4,VX,Nat.reduceEqDiff,Nat.reduceAdd];done) | skip
   rw[show tq-(tq-9)=9 by omega] at q6
   have u3:wP 3 = .ref 0 out.length 0 out.length out.length:=by rw[q 3 (by decide)];simp only[g3,VX,Nat.reduceEqDiff,Nat.reduceAdd]
   have u0:wP 0=bB l:=by rw[q 0 (by decide)];simp only[g0,VX,Nat.reduceEqDiff,Nat.reduceAdd]
   have u4:wP 4=VI tq:=by rw[q 4 (by decide)];simp only[g4,VX,Nat.reduceEqDiff,Nat.reduceAdd]
   generalize bX ((l.drop (tq-9)).take 9)=X at *
   have e4:=e4 X
   have e5:=e5 X
   have eP:=eP X
   simp only[u0,u3,u4,q6,e4,e5,eP,wz,VX,Nat.reduceEqDiff,Nat.reduceAdd]
   refine⟨(out++[X],((tq-9:Nat):Int)),by simp only;omega,?_,by simp only;omega,by simp only;omega,?_,?_,?_,?_⟩
   ·simp
   ·simp only[List.length_append,List.length_cons,List.length_nil];omega
   ·intro d hdm
    rcases List.mem_append.1 hdm with h | h
    ·exact hds d h
    ·rw[List.mem_singleton] at h;omega
   ·simp only[Int.toNat_natCast]
    rw[hv,k1,sI,List.length_append,List.length_singleton,Nat.pow_succ]
    grind
   ·simp
  ·obtain⟨k1,k2⟩:=key 0 (by omega) (by omega)
   rw[List.take_zero,LP,Nat.zero_mul,Nat.zero_add,Nat.sub_zero] at k1
   rw[Nat.sub_zero] at k2
   have wz:IntKind.i64.wrap ((tq:Int)-9)=(tq:Int)-9:=wrap64 (by omega) (by omega)
   simp only[mD,g0,g3,g4,kY,h9,VX,Nat.reduceEqDiff,Nat.reduceAdd]
   refine ME (l:=l) hd (by omega) (fr:=0) (tq:=tq) (by omega) (by omega) (by omega) ?_ ?_ ?_ ?_ fun wP q q6 => ?_
   all_goals first | (simp only[g0,g4,VX,Nat.reduceEqDiff,Nat.reduceAdd];done) | (simp only[VX,Nat.reduceEqDiff,Nat.reduceAdd];rfl) | skip
   rw[Nat.sub_zero] at q6
   have u3:wP 3 = .ref 0 out.length 0 out.length out.length:=by rw[q 3 (by decide)];simp only[g3,VX,Nat.reduceEqDiff,Nat.reduceAdd]
   have u0:wP 0=bB l:=by rw[q 0 (by decide)];simp only[g0,VX,Nat.reduceEqDiff,Nat.reduceAdd]
   have u4:wP 4=VI tq:=by rw[q 4 (by decide)];simp only[g4,VX,Nat.reduceEqDiff,Nat.reduceAdd]
   generalize bX ((l.drop 0).take tq)=X at *
   have e4:=e4 X
   have e5:=e5 X
   have eP:=eP X
   simp only[u0,u3,u4,q6,e4,e5,eP,wz,VX,Nat.reduceEqDiff,Nat.reduceAdd]
   refine⟨(out++[X],(tq:Int)-9),by simp only;omega,?_,by simp only;omega,by simp only;omega,?_,?_,?_,?_⟩
   ·simp
   ·simp only[List.length_append,List.length_cons,List.length_nil];omega
   ·intro d hdm
    rcases List.mem_append.1 hdm with h | h
    ·exact hds d h
    ·rw[List.mem_singleton] at h;omega
   ·simp only
    rw[show ((tq:Int)-9).toNat=0 by omega,List.take_zero,LP,Nat.mul_zero,Nat.add_zero,hv,k1,sI]
   ·simp
 ·have h0:z.toNat=0:=by omega
  rw[h0,List.take_zero,LP,Nat.mul_zero,Nat.add_zero] at hv
  rw[hv]
  have ct:=TC.ahO (f:=tV) (xs:=out) (size:=1) (e:=1) (w:=true) (H:=[.row out.length (out.map tV) 1 true]) (b:=0) (gn:=out.length) (n:=out.length) (c:=out.length) (sA out hds (by show out.length≤70368744177664;omega)) bA rfl (Nat.le_refl _) FA (fun _=>rfl) rfl rfl
  simp only[mD,g0,g3,g4,kY,ct,VX,Nat.reduceEqDiff,Nat.reduceAdd]
  exact aF (cH _)
end Go.PM
namespace Go.PM
open Go.Lib
def DA (l:List UInt8):VV:=match yM l with
 | some q => .dT [bC q,VB true]
 | none => .dT [Fw,VB false]
theorem Bm (q:Rat):aN (bC q)=true:=by simp[bC,aN,aM,cH,kB]
theorem NO (q:Rat):gJ (bC q)=true:=by simp[bC,gJ,qB,mY,kB]
theorem Ve (l:List UInt8):gJ (DA l)=true:=by
 unfold DA
 split<;>simp[gJ,qB,NO,FY,kB]
theorem Mf {neg:Bool} {t b:Nat} (hb:b≠0) (hg:Nat.gcd t b=1) (hn:¬(neg=true∧t=0)):bC (mkRat (kE neg t) b) = .agg [VB neg,bY t,bY b]:=by
 obtain⟨e1,e2⟩:=Jt (neg:=neg) hb hg
 refine Ko ?_ (by rw[e1,nQ]) e2
 rw[e1]
 cases neg with
 | false=>unfold kE;simp
 |
  true =>
  have:t≠0:=fun h=>hn ⟨rfl,h⟩
  unfold kE
  simp
  omega
theorem DQ {n:Nat}:(((aC 1000000000 n).length:Nat):Int)=0↔n=0:=by
 rw[←lQ (b:=1000000000) (n:=n) (by decide),←List.length_eq_zero_iff]
 omega
theorem R4 {neg:Bool} {d t:List UInt8} (h:(47:UInt8)∈t):oH neg d (some t)=none:=by
 have ht:hC t=false:=by
  cases hk:hC t with
  | false=>rfl
  | true=>exact absurd h (acB (jK.1 hk).1)
 unfold oH
 split
 ·rfl
 ·simp only
  rw[if_neg (fun h=>by rw[ht] at h;exact absurd h.1 (by decide))]
theorem at_one (x:List UInt8) (H:aA):bK 1 (aT bB [x]) (VI 0) H=some (.cN (bB x) 0):=aK (f:=bB) (t := .op) (H:=H) (size:=1) (k := .i64) (xs:=[x]) (i:=0) rfl rfl
theorem ahI (x y:List UInt8) (H:aA):bK 1 (aT bB [x,y]) (VI 0) H=some (.cN (bB x) 0):=aK (f:=bB) (t := .op) (H:=H) (size:=1) (k := .i64) (xs:=[x,y]) (i:=0) rfl rfl
theorem afK (x y:List UInt8) (H:aA):bK 1 (aT bB [x,y]) (VI 1) H=some (.cN (bB y) 0):=aK (f:=bB) (t := .op) (H:=H) (size:=1) (k := .i64) (xs:=[x,y]) (i:=1) rfl rfl
theorem We (x:List UInt8) (H:aA):oI (aT bB [x]) H=some (VI 1):=dW (f:=bB) (xs:=[x])
theorem ahB (x y:List UInt8) (H:aA):oI (aT bB [x,y]) H=some (VI 2):=dW (f:=bB) (xs:=[x,y])
set_option maxRecDepth 100000 in
set_option maxHeartbeats 4000000 in
theorem JQ (l:List UInt8) (hl:l.length≤1000000000):TC 110 [bB l] (DA l):=by
 refine TC.walk ⟨true,false⟩ JP rfl (Nat.le_of_ble_eq_true rfl) rfl (Ve l) ?_
 by_cases Bi:l=[]
 ·subst Bi
  have eC:TC 167 [.sc (.string ⟨#[]⟩),.sc (.int .u8 47)] (aT bB [[]]):=EF [] 47 (by simp)
  have eD:TC 168 [.sc (.string ⟨#[]⟩)] (VB false):=pG [] (by simp)
  have e1:yU (.string ⟨#[]⟩)=some (.int .i64 0):=rfl
  have a1:=at_one []
  have a2:=We []
  simp only[cC,bL,e1,eC,eD,a1,a2,Int.reduceLT,Int.reduceLE,aH,iU,Nat.reduceLeDiff,Nat.reduceLT,Nat.reduceSub,VX,Nat.reduceEqDiff,Nat.reduceAdd]
  exact bO (d:=6) fW (aJ (v:=VB false) rfl)
 have hp:0<l.length:=List.length_pos_iff.2 Bi
 have kY:(0:Int)<(l.length:Int):=by omega
 have e0:=HQ l hp
 unfold DA
 unfold yM
 have oU:isNeg l=decide (((l.getD 0 0).toNat:Int)=45):=by
  unfold isNeg
  rw[decide_eq_true (show 1≤l.length from hp),Bool.true_and]
  refine decide_eq_decide.2 ⟨fun h=>by rw[h];rfl,fun h=>UInt8.toNat_inj.1 (by rw[show (45:UInt8).toNat=45 from rfl];omega)⟩
 have Tr:(if isNeg l=true then l.drop 1 else l).length≤l.length:=by split<;>simp
 have q0:isNeg l=false→¬((l.getD 0 0).toNat:Int)=45:=fun h=>by rw[oU] at h;exact of_decide_eq_false h
 have q9:isNeg l=true→((l.getD 0 0).toNat:Int)=45:=fun h=>by rw[oU] at h;exact of_decide_eq_true h
 have r0:isNeg l=false→(if isNeg l=true then l.drop 1 else l)=l:=fun h=>by rw[h];rfl
 have r9:isNeg l=true→uU (bB l) (some (VI 1)) none=some (bB (if isNeg l=true then l.drop 1 else l)):=fun h=>by rw[h];exact Ol l (a:=1) hp
 generalize (if isNeg l=true then l.drop 1 else l)=r at *
 generalize isNeg l=neg at *
 clear oU
 have eC:TC 167 [bB r,.sc (.int .u8 47)] (aT bB (gX 47 r)):=EF r 47 (by omega)
 obtain⟨l1,l2⟩:=Ro (c:=47) (l:=r)
 cases hs:(lW 47 r).2 with
 |
  none =>
  have hd:=(Be hs).2.1
  rw[R6 hs] at eC
  rw[hd]
  have a1:=at_one r
  have a2:=We r
  have eD:=pG r (by omega)
  cases hk:hC r with
  |
   false =>
   rw[hk] at eD
   have YY:oH neg r none=none:=if_pos (.inl hk)
   rw[YY]
   cases neg with
   |
    false =>
    have q1:=q0 rfl
    have Tr:=r0 rfl
    subst Tr
    simp only[cC,bL,bM,kY,e0,q1,eC,eD,a1,a2,Int.reduceLT,aH,bH,aL,aZ,dU,fP,dS,fL,iU,Nat.reduceLeDiff,Nat.reduceLT,Nat.reduceSub,VX,Nat.reduceEqDiff,Nat.reduceAdd]
    exact bO (d:=6) fW (aJ (v:=VB false) rfl)
   |
    true =>
    have q1:=q9 rfl
    have e9:=r9 rfl
    simp only[cC,bL,bM,kY,e0,q1,eC,eD,a1,a2,Int.reduceLT,e9,aH,bH,aL,aZ,dU,fP,dS,fL,iU,Nat.reduceLeDiff,Nat.reduceLT,Nat.reduceSub,VX,Nat.reduceEqDiff,Nat.reduceAdd]
    exact bO (d:=6) fW (aJ (v:=VB false) rfl)
  |
   true =>
   rw[hk] at eD
   have hbt:=yC hk
   have eN:=rU r (jK.1 hk).1 (by omega)
   by_cases hz:neg=true∧bX r=0
   ·have YY:oH neg r none=none:=if_pos (.inr hz)
    rw[YY]
    obtain⟨rfl,HJ⟩:=hz
    have q1:=q9 rfl
    have e9:=r9 rfl
    have Hs:(((aC 1000000000 (bX r)).length:Nat):Int)=0:=DQ.2 HJ
    simp only[cC,bL,bM,kY,e0,q1,eC,eD,a1,a2,eN,e9,cM,Hs,Int.reduceLT,aH,bH,aL,aZ,dU,fP,dS,fL,iU,Nat.reduceLeDiff,Nat.reduceLT,Nat.reduceSub,VX,Nat.reduceEqDiff,Nat.reduceAdd]
    exact bO (d:=6) fW (aJ (v:=VB false) rfl)
   ·have D9:neg=true→¬(((aC 1000000000 (bX r)).length:Nat):Int)=0:=fun h h0=>hz ⟨h,DQ.1 h0⟩
    have YY:oH neg r none=some (mkRat (kE neg (bX r)) 1):=if_neg (by rw[hk];rintro(h | h);exact absurd h (by decide);exact hz h)
    rw[YY]
    simp only[]
    rw[Mf (by decide) (Nat.gcd_one_right _) hz]
    cases neg with
    |
     false =>
     have q1:=q0 rfl
     have Tr:=r0 rfl
     subst Tr
     simp only[cC,bL,bM,kY,e0,q1,eC,eD,a1,a2,eN,Int.reduceLT,Int.reduceEq,aH,bH,aL,aZ,dU,fP,dS,fL,iU,Nat.reduceLeDiff,Nat.reduceLT,Nat.reduceSub,VX,Nat.reduceEqDiff,Nat.reduceAdd]
     exact bO (d:=6) (qF (aJ (v:=VB false) rfl) (aJ (cH _)) PA) (aJ (v:=VB true) rfl)
    |
     true =>
     have q1:=q9 rfl
     have e9:=r9 rfl
     have Hs:=D9 rfl
     simp only[cC,bL,bM,kY,e0,q1,eC,eD,a1,a2,eN,Int.reduceLT,Int.reduceEq,e9,cM,Hs,aH,bH,aL,aZ,dU,fP,dS,fL,iU,Nat.reduceLeDiff,Nat.reduceLT,Nat.reduceSub,VX,Nat.reduceEqDiff,Nat.reduceAdd]
     exact bO (d:=6) (qF (aJ (v:=VB true) rfl) (aJ (cH _)) PA) (aJ (v:=VB true) rfl)
 |
  some t =>
  have ltt:=l2 t hs
  rw[Jj hs] at eC
  generalize (lW 47 r).1=d at *
  by_cases hm:(47:UInt8)∈t
  ·rw[R4 hm]
   have hP:=QK hm
   generalize hPP:gX 47 t=P at *
   have a2:∀H,oI (aT bB (d::P)) H=some (VI ((d::P).length:Int)):=fun H=>dW (f:=bB) (xs:=d::P)
   have hq3:(2:Int)<((d::P).length:Int):=by rw[List.length_cons];omega
   generalize hQQ:d::P=PP at *
   clear hQQ hPP hP
   cases neg with
   |
    false =>
    have q1:=q0 rfl
    have Tr:=r0 rfl
    subst Tr
    simp only[cC,bL,bM,kY,e0,q1,eC,a2,hq3,aH,bH,aL,aZ,dU,fP,dS,fL,iU,Nat.reduceLeDiff,Nat.reduceLT,Nat.reduceSub,VX,Nat.reduceEqDiff,Nat.reduceAdd]
    exact bO (d:=6) fW (aJ (v:=VB false) rfl)
   |
    true =>
    have q1:=q9 rfl
    have e9:=r9 rfl
    simp only[cC,bL,bM,kY,e0,q1,eC,a2,hq3,e9,aH,bH,aL,aZ,dU,fP,dS,fL,iU,Nat.reduceLeDiff,Nat.reduceLT,Nat.reduceSub,VX,Nat.reduceEqDiff,Nat.reduceAdd]
    exact bO (d:=6) fW (aJ (v:=VB false) rfl)
  ·rw[Fz hm] at eC
   have a1:=ahI d t
   have a3:=afK d t
   have a2:=ahB d t
   have eD:=pG d (by omega)
   have eF:=pG t (by omega)
   cases hk:hC d with
   |
    false =>
    rw[hk] at eD
    have YY:oH neg d (some t)=none:=if_pos (.inl hk)
    rw[YY]
    cases neg with
    |
     false =>
     have q1:=q0 rfl
     have Tr:=r0 rfl
     subst Tr
     simp only[cC,bL,bM,kY,e0,q1,eC,eD,a1,a2,Int.reduceLT,aH,bH,aL,aZ,dU,fP,dS,fL,iU,Nat.reduceLeDiff,Nat.reduceLT,Nat.reduceSub,VX,Nat.reduceEqDiff,Nat.reduceAdd]
     exact bO (d:=6) fW (aJ (v:=VB false) rfl)
    |
     true =>
     have q1:=q9 rfl
     have e9:=r9 rfl
     simp only[cC,bL,bM,kY,e0,q1,eC,eD,a1,a2,Int.reduceLT,e9,aH,bH,aL,aZ,dU,fP,dS,fL,iU,Nat.reduceLeDiff,Nat.reduceLT,Nat.reduceSub,VX,Nat.reduceEqDiff,Nat.reduceAdd]
     exact bO (d:=6) fW (aJ (v:=VB false) rfl)
   |
    true =>
    rw[hk] at eD
    have hbt:=yC hk
    have eN:=rU d (jK.1 hk).1 (by omega)
    by_cases hz:neg=true∧bX d=0
    ·have YY:oH neg d (some t)=none:=if_pos (.inr hz)
     rw[YY]
     obtain⟨rfl,HJ⟩:=hz
     have q1:=q9 rfl
     have e9:=r9 rfl
     have Hs:(((aC 1000000000 (bX d)).length:Nat):Int)=0:=DQ.2 HJ
     simp only[cC,bL,bM,kY,e0,q1,eC,eD,a1,a2,eN,e9,cM,Hs,Int.reduceLT,aH,bH,aL,aZ,dU,fP,dS,fL,iU,Nat.reduceLeDiff,Nat.reduceLT,Nat.reduceSub,VX,Nat.reduceEqDiff,Nat.reduceAdd]
     exact bO (d:=6) fW (aJ (v:=VB false) rfl)
    ·have D9:neg=true→¬(((aC 1000000000 (bX d)).length:Nat):Int)=0:=fun h h0=>hz ⟨h,DQ.1 h0⟩
     have YY:oH neg d (some t)=if hC t=true∧1<bX t∧Nat.gcd (bX d) (bX t)=1 then some (mkRat (kE neg (bX d)) (bX t)) else none:=if_neg (by rw[hk];rintro(h | h);exact absurd h (by decide);exact hz h)
     rw[YY]
     clear YY
     cases ht:hC t with
     |
      false =>
      rw[ht] at eF
      rw[if_neg (fun h=>absurd h.1 (by decide))]
      cases neg with
      |
       false =>
       have q1:=q0 rfl
       have Tr:=r0 rfl
       subst Tr
       simp only[cC,bL,bM,kY,e0,q1,eC,eD,eF,a1,a2,a3,eN,Int.reduceLT,Int.reduceEq,aH,bH,aL,aZ,dU,fP,dS,fL,iU,Nat.reduceLeDiff,Nat.reduceLT,Nat.reduceSub,VX,Nat.reduceEqDiff,Nat.reduceAdd]
       exact bO (d:=6) fW (aJ (v:=VB false) rfl)
      |
       true =>
       have q1:=q9 rfl
       have e9:=r9 rfl
       have Hs:=D9 rfl
       simp only[cC,bL,bM,kY,e0,q1,eC,eD,eF,a1,a2,a3,eN,Int.reduceLT,Int.reduceEq,e9,cM,Hs,aH,bH,aL,aZ,dU,fP,dS,fL,iU,Nat.reduceLeDiff,Nat.reduceLT,Nat.reduceSub,VX,Nat.reduceEqDiff,Nat.reduceAdd]
       exact bO (d:=6) fW (aJ (v:=VB false) rfl)
     |
      true =>
      rw[ht] at eF
      have Lj:=yC ht
      have eM:=rU t (jK.1 ht).1 (by omega)
      have c2:∀lo H K,_:=fun lo H K=>Kc (n:=bX t) (lo:=lo) (H:=H) (K:=K) (Nat.le_of_lt (oD (by omega)))
      have c3:=EJ (bX d) (bX t) (oD (by omega)) (oD (by omega))
      by_cases h1:eX (bX t) 1≤0
      ·have hle:¬1<bX t:=fun h=>by unfold eX at h1;rw[if_neg (by omega),if_neg (by omega)] at h1;exact absurd h1 (by decide)
       rw[if_neg (fun h=>hle h.2.1)]
       cases neg with
       |
        false =>
        have q1:=q0 rfl
        have Tr:=r0 rfl
        subst Tr
        simp only[cC,bL,bM,kY,e0,q1,eC,eD,eF,a1,a2,a3,eN,eM,c2,h1,Int.reduceLT,Int.reduceEq,aH,bH,aL,aZ,dU,fP,dS,fL,iU,Nat.reduceLeDiff,Nat.reduceLT,Nat.reduceSub,VX,Nat.reduceEqDiff,Nat.reduceAdd]
        exact bO (d:=6) fW (aJ (v:=VB false) rfl)
       |
        true =>
        have q1:=q9 rfl
        have e9:=r9 rfl
        have Hs:=D9 rfl
        simp only[cC,bL,bM,kY,e0,q1,eC,eD,eF,a1,a2,a3,eN,eM,c2,h1,Int.reduceLT,Int.reduceEq,e9,cM,Hs,aH,bH,aL,aZ,dU,fP,dS,fL,iU,Nat.reduceLeDiff,Nat.reduceLT,Nat.reduceSub,VX,Nat.reduceEqDiff,Nat.reduceAdd]
        exact bO (d:=6) fW (aJ (v:=VB false) rfl)
      ·have bF:1<bX t:=by
        rcases Nat.lt_or_ge 1 (bX t) with h | h
        ·exact h
        ·exfalso
         apply h1
         unfold eX
         split<;>(try split)<;>first | decide | omega
       have YZ:bl (Nat.gcd (bX d) (bX t))≤665:=Nat.le_trans (jZ (Nat.le_of_dvd (by omega) (Nat.gcd_dvd_right _ _))) Lj
       have c4:∀lo H K,_:=fun lo H K=>Kc (n:=Nat.gcd (bX d) (bX t)) (lo:=lo) (H:=H) (K:=K) (Nat.le_of_lt (oD (by omega)))
       by_cases hg:Nat.gcd (bX d) (bX t)=1
       ·have h4:eX (Nat.gcd (bX d) (bX t)) 1=0:=by rw[hg];rfl
        rw[if_pos ⟨rfl,bF,hg⟩]
        simp only[]
        rw[Mf (by omega) hg hz]
        cases neg with
        |
         false =>
         have q1:=q0 rfl
         have Tr:=r0 rfl
         subst Tr
         simp only[cC,bL,bM,kY,e0,q1,eC,eD,eF,a1,a2,a3,eN,eM,c2,c3,c4,h1,h4,Int.reduceLT,Int.reduceEq,aH,bH,aL,aZ,dU,fP,dS,fL,iU,Nat.reduceLeDiff,Nat.reduceLT,Nat.reduceSub,VX,Nat.reduceEqDiff,Nat.reduceAdd]
         exact bO (d:=6) (qF (aJ (v:=VB false) rfl) (aJ (cH _)) (aJ (cH _))) (aJ (v:=VB true) rfl)
        |
         true =>
         have q1:=q9 rfl
         have e9:=r9 rfl
         have Hs:=D9 rfl
         simp only[cC,bL,bM,kY,e0,q1,eC,eD,eF,a1,a2,a3,eN,eM,c2,c3,c4,h1,h4,Int.reduceLT,Int.reduceEq,e9,cM,Hs,aH,bH,aL,aZ,dU,fP,dS,fL,iU,Nat.reduceLeDiff,Nat.reduceLT,Nat.reduceSub,VX,Nat.reduceEqDiff,Nat.reduceAdd]
         exact bO (d:=6) (qF (aJ (v:=VB true) rfl) (aJ (cH _)) (aJ (cH _))) (aJ (v:=VB true) rfl)
       ·have h4:¬eX (Nat.gcd (bX d) (bX t)) 1=0:=by
         unfold eX
         split<;>(try split)<;>first | decide | omega
        rw[if_neg (fun h=>hg h.2.2)]
        cases neg with
        |
         false =>
         have q1:=q0 rfl
         have Tr:=r0 rfl
         subst Tr
         simp only[cC,bL,bM,kY,e0,q1,eC,eD,eF,a1,a2,a3,eN,eM,c2,c3,c4,h1,h4,Int.reduceLT,Int.reduceEq,aH,bH,aL,aZ,dU,fP,dS,fL,iU,Nat.reduceLeDiff,Nat.reduceLT,Nat.reduceSub,VX,Nat.reduceEqDiff,Nat.reduceAdd]
         exact bO (d:=6) fW (aJ (v:=VB false) rfl)
        |
         true =>
         have q1:=q9 rfl
         have e9:=r9 rfl
         have Hs:=D9 rfl
         simp only[cC,bL,bM,kY,e0,q1,eC,eD,eF,a1,a2,a3,eN,eM,c2,c3,c4,h1,h4,Int.reduceLT,Int.reduceEq,e9,cM,Hs,aH,bH,aL,aZ,dU,fP,dS,fL,iU,Nat.reduceLeDiff,Nat.reduceLT,Nat.reduceSub,VX,Nat.reduceEqDiff,Nat.reduceAdd]
         exact bO (d:=6) fW (aJ (v:=VB false) rfl)
end Go.PM
namespace Go.PM
open Go.Lib
theorem akD {a b:Rat}:(decide (a.num<0) != decide (b.num<0))=true→(decide (a<b)=decide (a.num<0)):=by
 intro h
 have h1:a.num<0↔a<0:=by rw[←Int.not_le,Rat.num_nonneg];constructor<;>intro h<;>grind
 have h2:b.num<0↔b<0:=by rw[←Int.not_le,Rat.num_nonneg];constructor<;>intro h<;>grind
 by_cases q1:a.num<0<;>by_cases q2:b.num<0
 ·simp[q1,q2] at h
 ·have:=h1.1 q1
  have:=mt h2.2 q2
  rw[decide_eq_true q1,decide_eq_true (by grind)]
 ·have:=h2.1 q2
  have:=mt h1.2 q1
  rw[decide_eq_false q1,decide_eq_false (by grind)]
 ·simp[q1,q2] at h
set_option maxHeartbeats 1000000 in
theorem KX (a b:Rat) (NC:aU a≤1099511627776) (Hv:aU b≤1099511627776):TC 80 [bC a,bC b] (VB (decide (a<b))):=by
 refine TC.walk ⟨true,false⟩ ML rfl (Nat.le_of_ble_eq_true rfl) (by simp only[aM,Bm];rfl) rfl ?_
 have b1 := @rC a
 have b2 := @rC b
 have b3 := @oQ a
 have b4 := @oQ b
 have b5:=nL a.num.natAbs b.den
 have b6:=nL b.num.natAbs a.den
 have c1:=gY a.num.natAbs b.den (Nat.le_of_lt (oD (by omega))) (Nat.le_of_lt (oD (by omega)))
 have c2:=gY b.num.natAbs a.den (Nat.le_of_lt (oD (by omega))) (Nat.le_of_lt (oD (by omega)))
 have c3:=uG (a.num.natAbs*b.den) (b.num.natAbs*a.den) (Nat.le_of_lt (oD (by omega))) (Nat.le_of_lt (oD (by omega)))
 have bF:=Rat.lt_iff (a:=a) (b:=b)
 by_cases q1:a.num<0<;>by_cases q2:b.num<0
 ·have adM:a<b↔0<eX (a.num.natAbs*b.den) (b.num.natAbs*a.den):=by
   rw[bF,WC]
   have e1:a.num = -(a.num.natAbs:Int):=by omega
   have e2:b.num = -(b.num.natAbs:Int):=by omega
   generalize a.num.natAbs=m at *
   generalize b.num.natAbs=n at *
   rw[e1,e2,Int.neg_mul,Int.neg_mul,←Int.natCast_mul,←Int.natCast_mul]
   omega
  by_cases q3:0<eX (a.num.natAbs*b.den) (b.num.natAbs*a.den)
  ·rw[decide_eq_true (adM.2 q3)]
   simp only[mE,jY,c1,c2,c3,q1,q2,q3,nZ,decide_true,decide_false,bne_self_eq_false,Bool.bne_true,Bool.bne_false,Bool.true_bne,Bool.false_bne,Bool.not_true,Bool.not_false,cA,fO,fX,gF,aL,iU,Nat.reduceLeDiff,Nat.reduceLT,Nat.reduceSub,VX,Nat.reduceEqDiff,Nat.reduceAdd]
   exact aF rfl
  ·rw[decide_eq_false (mt adM.1 q3)]
   simp only[mE,jY,c1,c2,c3,q1,q2,q3,nZ,decide_true,decide_false,bne_self_eq_false,Bool.bne_true,Bool.bne_false,Bool.true_bne,Bool.false_bne,Bool.not_true,Bool.not_false,cA,fO,fX,gF,aL,iU,Nat.reduceLeDiff,Nat.reduceLT,Nat.reduceSub,VX,Nat.reduceEqDiff,Nat.reduceAdd]
   exact aF rfl
 ·have hl:=akD (a:=a) (b:=b) (by simp[q1,q2])
  rw[hl,decide_eq_true q1]
  simp only[mE,jY,q1,q2,nZ,decide_true,decide_false,bne_self_eq_false,Bool.bne_true,Bool.bne_false,Bool.true_bne,Bool.false_bne,Bool.not_true,Bool.not_false,cA,fO,fX,gF,aL,iU,Nat.reduceLeDiff,Nat.reduceLT,Nat.reduceSub,VX,Nat.reduceEqDiff,Nat.reduceAdd]
  exact aF rfl
 ·have hl:=akD (a:=a) (b:=b) (by simp[q1,q2])
  rw[hl,decide_eq_false q1]
  simp only[mE,jY,q1,q2,nZ,decide_true,decide_false,bne_self_eq_false,Bool.bne_true,Bool.bne_false,Bool.true_bne,Bool.false_bne,Bool.not_true,Bool.not_false,cA,fO,fX,gF,aL,iU,Nat.reduceLeDiff,Nat.reduceLT,Nat.reduceSub,VX,Nat.reduceEqDiff,Nat.reduceAdd]
  exact aF rfl
 ·have adM:a<b↔eX (a.num.natAbs*b.den) (b.num.natAbs*a.den)<0:=by
   rw[bF,uE]
   have e1:a.num=(a.num.natAbs:Int):=by omega
   have e2:b.num=(b.num.natAbs:Int):=by omega
   generalize a.num.natAbs=m at *
   generalize b.num.natAbs=n at *
   rw[e1,e2,←Int.natCast_mul,←Int.natCast_mul]
   omega
  by_cases q3:eX (a.num.natAbs*b.den) (b.num.natAbs*a.den)<0
  ·rw[decide_eq_true (adM.2 q3)]
   simp only[mE,jY,c1,c2,c3,q1,q2,q3,nZ,decide_true,decide_false,bne_self_eq_false,Bool.bne_true,Bool.bne_false,Bool.true_bne,Bool.false_bne,Bool.not_true,Bool.not_false,cA,fO,fX,gF,aL,iU,Nat.reduceLeDiff,Nat.reduceLT,Nat.reduceSub,VX,Nat.reduceEqDiff,Nat.reduceAdd]
   exact aF rfl
  ·rw[decide_eq_false (mt adM.1 q3)]
   simp only[mE,jY,c1,c2,c3,q1,q2,q3,nZ,decide_true,decide_false,bne_self_eq_false,Bool.bne_true,Bool.bne_false,Bool.true_bne,Bool.false_bne,Bool.not_true,Bool.not_false,cA,fO,fX,gF,aL,iU,Nat.reduceLeDiff,Nat.reduceLT,Nat.reduceSub,VX,Nat.reduceEqDiff,Nat.reduceAdd]
   exact aF rfl
end Go.PM
namespace Go.PM
open Go.Lib
theorem Rg {l:List UInt8} {q:Rat} (h:yM l=some q):DA l = .dT [bC q,VB true]:=by unfold DA;rw[h]
theorem SG {l:List UInt8} (h:yM l=none):DA l = .dT [Fw,VB false]:=by unfold DA;rw[h]
end Go.PM