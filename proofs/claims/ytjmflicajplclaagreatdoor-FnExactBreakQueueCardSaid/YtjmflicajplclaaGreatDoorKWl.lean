/- Texts of a claim, in one: part 12. -/
import Derived.KernelRfl
import Derived.Test.YtjmflicajplclaaGreatDoorKWk
set_option linter.unusedSimpArgs false
set_option linter.unusedVariables false
namespace Go.PM
def kW:aD:=(LS [LO 13 (.bin .lss (LT 12) (LT 11))] (.seq (.cond (LT 13) .skip (.exit 0)) (.seq (.block 1 (LS [LO 14 (.iaddr 1 (LT 10) (LT 12)),LO 15 (LL 14),LM 6 15] (LS [LM 17 6,LO 18 (.call 159 [(LT 17)]),LM 16 18,LO 19 (LX 16 0),LO 20 (LX 16 1),LO 7 (.new [(.bool false),(.slice none 0 0),(.slice none 0 0)]),LN (.store 3 (LT 7) (LT 19)),LM 8 20] (.seq (LS [LM 21 8,LO 22 (.un .not (LT 21))] (.cond (LT 22) (LS [LO 2 (.mv (.const (.slice none 0 0))),LO 3 (.mv LF)] .ret) .skip)) (.dG [LM 23 4,LO 24 (LK 7),LO 25 (.lit [(.bool false),(.slice none 0 0),(.slice none 0 0)] 1 [(0,(LT 24))]),LO 26 (.app 3 56 (LT 23) (LT 25)),LM 4 26]))))) (.dG [LO 27 (.bin .add (LT 12) (LI 1)),LM 12 27]))))
def A5:aD:=(LS [LO 2 (.mv (.const (.slice none 0 0))),LO 3 (.mv LF)] (LS [LO 9 (.lit [(.bool false),(.slice none 0 0),(.slice none 0 0)] 0 []),LM 4 9] (.seq (LS [LM 10 0,LO 11 (.len (LT 10)),LO 12 (.mv (LI 0))] (.block 0 (.loop kW))) (LS [LM 28 4,LM 2 28,LO 3 (.mv LG)] .ret))))
def CO:aR:=⟨29,[(.tmp 2),(.tmp 3)],A5⟩
theorem HM:fS 92=some CO:=by kernel_rfl
def Bo:aD:=(LS [LO 15 (.bin .lss (LT 14) (LT 13))] (.seq (.cond (LT 15) .skip (.exit 0)) (.seq (.block 1 (LS [LO 16 (.iaddr 1 (LT 12) (LT 14)),LO 17 (LL 16),LM 5 17] (LS [LM 18 5,LO 19 (.call 70 [(LT 18)]),LO 6 (.new [(.bool false),(.slice none 0 0),(.slice none 0 0)]),LN (.store 3 (LT 6) (LT 19))] (LS [LO 20 (LK 6),LO 21 (LK 3),LO 22 (.call 148 [(LT 20),(LT 21)]),LO 23 (.bin .gtr (LT 22) (LI 0))] (.cond (LT 23) (.dG [LO 24 (LK 6),LN (.store 3 (LT 3) (LT 24))]) .skip))))) (.dG [LO 25 (.bin .add (LT 14) (LI 1)),LM 14 25]))))
def Bx:aD:=(LS [LO 30 (.bin .lss (LT 29) (LT 28))] (.seq (.cond (LT 30) .skip (.exit 2)) (.seq (.block 3 (LS [LM 31 29,LO 32 (.iaddr 1 (LT 27) (LT 29)),LO 33 (LL 32),LM 8 31,LM 9 33] (LS [LM 34 9,LO 35 (LK 3),LO 36 (.call 149 [(LT 34),(LT 35)]),LM 10 36] (LS [LM 37 10,LM 38 8,LO 39 (.call 64 [(LI 1)]),LM 40 10,LO 41 (.call 70 [(LT 40)]),LO 42 (.call 128 [(LT 39),(LT 41)]),LO 43 (.iaddr 3 (LT 37) (LT 38)),LN (.store 3 (LT 43) (LT 42))] (.dG [LM 44 7,LM 45 10,LO 46 (.lit [(.slice none 0 0)] 1 [(0,(LT 45))]),LO 47 (.app 1 24 (LT 44) (LT 46)),LM 7 47]))))) (.dG [LO 48 (.bin .add (LT 29) (LI 1)),LM 29 48]))))
def IP:aD:=(LS [LO 2 (.mv (.const (.slice none 0 0)))] (LS [LO 11 (.call 64 [(LI 0)]),LO 3 (.new [(.bool false),(.slice none 0 0),(.slice none 0 0)]),LN (.store 3 (LT 3) (LT 11))] (.seq (LS [LM 12 0,LO 13 (.len (LT 12)),LO 14 (.mv (LI 0))] (.block 0 (.loop Bo))) (LS [LO 26 (.lit [(.slice none 0 0)] 0 []),LM 7 26] (.seq (LS [LM 27 0,LO 28 (.len (LT 27)),LO 29 (.mv (LI 0))] (.block 2 (.loop Bx))) (LS [LM 49 7,LM 2 49] .ret))))))
def N9:aR:=⟨50,[(.tmp 2)],IP⟩
theorem QV:fS 72=some N9:=by kernel_rfl
def zG:aD:=(LS [LO 10 (.new [(.slice none 0 0)]),LO 11 (.mv LF)] (LS [LM 12 0,LM 13 1,LM 14 2,LM 15 3,LM 16 4,LO 17 (.call 104 [(LT 12),(LT 13),(LT 14),(LT 15),(LT 16)]),LO 18 (LX 17 0),LO 19 (LX 17 1),LO 20 (.call 103 [(LT 18),(LT 19)]),LO 21 (LX 20 0),LO 22 (LX 20 1),LN (.store 1 (LT 10) (LT 21)),LM 11 22] .ret))
def B3:aR:=⟨23,[(.cell 10 true 1),(.tmp 11)],zG⟩
theorem GJ:fS 39=some B3:=by kernel_rfl
def A8:aD:=(LS [LO 2 (.mv (.const (.slice none 0 0)))] (LS [LM 3 0,LO 4 (.call 99 [(LT 3)]),LM 2 4] .ret))
def DE:aR:=⟨5,[(.tmp 2)],A8⟩
theorem Hs:fS 94=some DE:=by kernel_rfl
def oL:aD:=(LS [LO 7 (.box (LT 3))] (LS [LM 8 1,LM 9 2,LO 10 (.bin .neq (LT 8) (LT 9))] (.cond (LT 10) (.dG [LM 11 0,LM 12 1,LO 13 (.iaddr 1 (LT 11) (LT 12)),LO 14 (LL 13),LM 15 2,LM 16 0,LM 17 1,LO 18 (.iaddr 1 (LT 16) (LT 17)),LO 19 (LL 18),LM 20 2,LO 21 (.iaddr 3 (LT 19) (LT 20)),LO 22 (LK 21),LO 23 (LK 7),LQ 24 (.call 69 [(LT 22),(LT 23)]),LO 25 (.iaddr 3 (LT 14) (LT 15)),LN (.store 3 (LT 25) (LT 24))]) .skip)))
def qT:aR:=⟨26,[],oL⟩
theorem Dv:fS 95=some qT:=by kernel_rfl
def sK:aD:=(LS [LO 4 (.new [(.slice none 0 0)]),LO 5 (.mv LF)] (.seq (LS [LM 6 1,LO 7 (.un .not (LT 6))] (.cond (LT 7) (LS [LO 8 (.build [(.slice none 0 0)] [(0,1)] []),LN (.store 1 (LT 4) (LT 8)),LO 5 (.mv LF)] .ret) .skip)) (LS [LM 9 0,LO 10 (.call 71 [(LT 9)]),LO 11 (LX 10 0),LO 12 (LX 10 1),LN (.store 1 (LT 4) (LT 11)),LM 5 12] .ret)))
def vK:aR:=⟨13,[(.cell 4 true 1),(.tmp 5)],sK⟩
theorem Hk:fS 103=some vK:=by kernel_rfl
def rD:aD:=(LS [LO 41 (.bin .lss (LT 40) (LT 39))] (.seq (.cond (LT 41) .skip (.exit 0)) (.seq (.block 1 (LS [LM 42 40,LM 15 42] (LS [LM 43 15,LO 44 (.bin .mul (LI 2) (LT 43)),LM 45 15,LO 46 (.bin .mul (LI 2) (LT 45)),LO 47 (.bin .add (LT 46) (LI 1)),LM 16 44,LM 17 47] (LS [LM 48 14,LM 49 16,LM 50 15,LO 51 (.bin .add (LT 50) (LI 1)),LM 52 4,LO 53 (.min (LT 51) (LT 52)),LO 54 (.bin .mul (LI 2) (LT 53)),LM 55 12,LO 56 (.iaddr 3 (LT 55) (LI 0)),LO 57 (LK 56),LO 58 (.call 95 [(LT 48),(LT 49),(LT 54),(LT 57)])] (LS [LM 59 14,LM 60 17,LM 61 15,LO 62 (.bin .add (LT 61) (LI 1)),LM 63 4,LO 64 (.min (LT 62) (LT 63)),LO 65 (.bin .mul (LI 2) (LT 64)),LO 66 (.bin .add (LT 65) (LI 1)),LM 67 12,LO 68 (.iaddr 3 (LT 67) (LI 0)),LO 69 (LK 68),LO 70 (.call 95 [(LT 59),(LT 60),(LT 66),(LT 69)])] (LS [LM 71 14,LM 72 16,LM 73 15,LO 74 (.bin .sub (LT 73) (LI 1)),LO 75 (.max (LT 74) (LI 0)),LO 76 (.bin .mul (LI 2) (LT 75)),LM 77 12,LO 78 (.iaddr 3 (LT 77) (LI 1)),LO 79 (LK 78),LO 80 (.call 95 [(LT 71),(LT 72),(LT 76),(LT 79)])] (LS [LM 81 14,LM 82 16,LM 83 17,LM 84 12,LO 85 (.iaddr 3 (LT 84) (LI 2)),LO 86 (LK 85),LO 87 (.call 95 [(LT 81),(LT 82),(LT 83),(LT 86)])] (.dG [LM 88 14,LM 89 17,LM 90 16,LM 91 12,LO 92 (.iaddr 3 (LT 91) (LI 3)),LO 93 (LK 92),LO 94 (.call 95 [(LT 88),(LT 89),(LT 90),(LT 93)])])))))))) (.dG [LO 95 (.bin .add (LT 40) (LI 1)),LM 40 95]))))
def nY:aD:=(LS [LO 10 (.mv (.const (.slice none 0 0))),LO 11 (.mv LF)] (LS [LM 19 0,LM 20 1,LM 21 2,LM 22 3,LO 23 (.lit [(.string ⟨#[]⟩)] 4 [(0,(LT 19)),(1,(LT 20)),(2,(LT 21)),(3,(LT 22))]),LO 24 (.call 92 [(LT 23)]),LM 18 24,LO 25 (LX 18 0),LO 26 (LX 18 1),LM 12 25,LM 13 26] (.seq (LS [LM 27 13,LO 28 (.un .not (LT 27)),LM 29 28,LZ 29 30 (.mv (LT 4)),LZ 29 31 (.call 93 [(LT 30),(LI 1),(LI 5)]),LZ 29 32 (.un .not (LT 31)),LO 33 (.pick (LT 29) LG (LT 32))] (.cond (LT 33) (LS [LO 10 (.mv (.const (.slice none 0 0))),LO 11 (.mv LF)] .ret) .skip)) (LS [LM 34 4,LO 35 (.bin .mul (LI 2) (LT 34)),LO 36 (.bin .add (LT 35) (LI 2)),LO 37 (.call 94 [(LT 36)]),LM 14 37] (.seq (LS [LM 38 4,LO 39 (.bin .add (LT 38) (LI 1)),LO 40 (.mv (LI 0))] (.block 0 (.loop rD))) (LS [LM 96 14,LO 97 (.call 72 [(LT 96)]),LM 10 97,LO 11 (.mv LG)] .ret))))))
def qL:aR:=⟨98,[(.tmp 10),(.tmp 11)],nY⟩
theorem Gy:fS 104=some qL:=by kernel_rfl
end Go.PM
namespace Go.PM
open Go.Lib
theorem anD {n k lo hi:Nat} {H:aA} {P:Nat→Nat→aA→VV→Prop} {v:VV} {ok:Bool} (hk:n≤k) (hl:k≤H.length) (hT:Bw n k H) (hv:fA n v=true)
  (JD:∀ {lo hi H H' v},P lo hi H v→dI lo hi H H'→P lo hi H' v) (apZ:∀ {lo hi gP mA:Nat} {H:aA} {v:VV},P lo hi H v→gP≤lo→hi≤mA→P gP mA H v) (hp:P lo hi H v) (dK:k≤lo) (hhi:hi≤H.length) :
  ∃L,GN H (List.replicate n .dead++L)∧fA n (.dT [v,.sc (.bool ok)])=true∧eT n L=true∧Vx P ok n (.dT [v,.sc (.bool ok)]) L:=by
 obtain⟨L,k1,k2,k3⟩:=Sy hk hl hT
 refine⟨L,k1,by simp[fA,oA,hv,kC],k2,v,rfl,?_⟩
 have hl3:=k1.1
 rw[List.length_append,List.length_replicate] at hl3
 exact apZ (JD hp (H':=List.replicate n cN.dead++L) fun b g x h1 h2 h3=>k3 b g x (by omega) h3) (by omega) (by omega)
theorem CG.wide {bH:List (List ByteArray)}:∀ {lo hi gP mA:Nat} {H:aA} {v:VV},CG bH lo hi H v→gP≤lo→hi≤mA→CG bH gP mA H v:=by
 rintro lo hi gP mA H v ⟨c,h1,h2⟩ hl hh
 exact⟨c,h1,h2.wide hl hh⟩
theorem CG.own {n lo hi:Nat} {H:aA} {v:VV} {bH:List (List ByteArray)} (h:CG bH lo hi H v) (hn:n≤lo):∃c,v = .agg [c]∧bO c=true∧aB c=[c]∧fA n c=true:=by
 obtain⟨c,rfl,h | ⟨b,g,cc,rs,h1,h2,rfl,h3⟩⟩:=h
 ·obtain⟨rfl,_⟩:=h
  exact⟨_,rfl,rfl,rfl,rfl⟩
 ·exact⟨_,rfl,rfl,rfl,by simp[fA];omega⟩
theorem Vv.wide {s:Kl}:∀ {lo hi gP mA:Nat} {H:aA} {v:VV},Vv s lo hi H v→gP≤lo→hi≤mA→Vv s gP mA H v:=by
 rintro lo hi gP mA H v ⟨a,b,c,m1,m2,h1,k1,k2,k3,h2,h3,h4⟩ hl hh
 exact⟨a,b,c,m1,m2,h1,by omega,k2,by omega,h2.wide hl (Nat.le_refl _),h3,h4.wide (Nat.le_refl _) hh⟩
theorem Bw.apF {n k:Nat} {H L:aA} (h:Bw n k H) (hL:eT n L=true):Bw n k (H++L):=by
 intro b g es e w hb hr
 rcases Nat.lt_or_ge b H.length with bI | EO
 ·rw[List.getElem?_append_left bI] at hr
  exact h b g es e w hb hr
 ·rw[List.getElem?_append_right EO] at hr
  exact List.all_eq_true.1 hL _ (List.mem_of_getElem? hr)
theorem Bw.start {n:Nat} {H:aA}:Bw n H.length H:=fun b g es e w hb hr=>by
 rw[List.getElem?_eq_none hb] at hr
 cases hr
def Qj (o:Option Rat):VV:=match o with
 | none => .dT [Fy,VB false]
 | some q => .dT [aQ q,VB (decide (0<q))]
theorem Y7 (o:Option Rat):gJ (Qj o)=true:=by
 unfold Qj
 split<;>simp[gJ,qE,pZ,GR,kC]
theorem JV (x:ByteArray) (hx:x.size≤1000000000):TC 159 [sV x] (Qj (pQ x)):=by
 refine TC.walk ⟨true,false⟩ JO rfl (Nat.le_of_ble_eq_true rfl) rfl (Y7 _) ?_
 have e2:=Mf x.data.toList (by rw[Array.length_toList];show x.size≤_;omega)
 rw[←acC] at e2
 cases hp:pQ x with
 |
  none =>
  rw[Qv hp] at e2
  simp only[uM,qQ,e2,Qj,Dm,Fa,LC,aU,aV,aP,iS,Nat.reduceLeDiff,Nat.reduceLT,Nat.reduceSub,Ey,kZ,nC,uA,Ba,Au,bne_iff_ne,ne_eq,not_false_eq_true,not_true_eq_false,fB,VX,Nat.reduceEqDiff,Nat.reduceAdd,Nat.reduceLeDiff,Nat.reduceLT,Nat.reduceSub]
  exact aF (tL Ot rfl)
 |
  some q =>
  rw[QI hp] at e2
  have e1:=iU q
  by_cases h:0<q
  ·have h':=Oj.2 h
   simp only[uM,qQ,e1,e2,Qj,h',h,decide_true,aH,dE,dC,aU,aV,aP,iS,Nat.reduceLeDiff,Nat.reduceLT,Nat.reduceSub,Ey,kZ,nC,uA,Ba,Au,bne_iff_ne,ne_eq,not_false_eq_true,not_true_eq_false,fB,VX,Nat.reduceEqDiff,Nat.reduceAdd,Nat.reduceLeDiff,Nat.reduceLT,Nat.reduceSub]
   exact aF (tL (gX _) rfl)
  ·have h':¬0<kV q:=fun k=>h (Oj.1 k)
   simp only[uM,qQ,e1,e2,Qj,h',h,decide_false,aH,dE,dC,aU,aV,aP,iS,Nat.reduceLeDiff,Nat.reduceLT,Nat.reduceSub,Ey,kZ,nC,uA,Ba,Au,bne_iff_ne,ne_eq,not_false_eq_true,not_true_eq_false,fB,VX,Nat.reduceEqDiff,Nat.reduceAdd,Nat.reduceLeDiff,Nat.reduceLT,Nat.reduceSub]
   exact aF (tL (gX _) rfl)
def pJ (x:ByteArray):Option Rat:=match pQ x with
 | some q=>if 0<q then some q else none
 | none=>none
def Yp (xs:List ByteArray):Option (List Rat):=xs.mapM pJ
theorem Ic {x:ByteArray} {q:Rat} (h:pJ x=some q):pQ x=some q∧0<q:=by
 unfold pJ at h
 split at h
 ·rename_i p hp
  split at h
  ·rename_i h0
   cases h
   exact⟨hp,h0⟩
  ·cases h
 ·cases h
theorem aeY {x:ByteArray} {q:Rat} (h:pQ x=some q):aY q≤665:=by
 have h1:Ww [x]=some [q]:=by
  unfold Ww
  rw[if_pos (by simp),List.mapM_cons,h]
  rfl
 exact(Ua h1).1 q List.mem_cons_self
set_option maxHeartbeats 1000000 in
theorem IG (xs:List ByteArray) (hn:xs.length≤1000000000) (hs:∀s∈xs,s.size≤1000000000):TC 92 [qD xs] (Sz (Yp xs)):=by
 refine TC.walk ⟨true,false⟩ HM rfl (Nat.le_of_ble_eq_true rfl) (by simp[aM,qY]) (Xb _) ?_
 unfold Yp
 have e0:=fun H=>iH (H:=H) (lr:=false) (z:=[.bool false,.slice none 0 0,.slice none 0 0]) rfl
 simp only[CO,A5,e0,fB,VX,Nat.reduceEqDiff,Nat.reduceAdd,Nat.reduceLeDiff,Nat.reduceLT,Nat.reduceSub]
 refine QF (fun(s:Nat×List Rat) ρ H=>s.1≤xs.length∧(xs.take s.1).mapM pJ=some s.2∧H=[.row s.1 (s.2.map aQ) 3 true]∧ρ 4 = .ref 0 s.1 0 s.1 s.1∧ρ 10=qD xs∧ρ 11=VI xs.length∧ρ 12=VI s.1) (fun s=>xs.length-s.1) (0,[]) ⟨Nat.zero_le _,rfl,rfl,rfl,rfl,rfl,rfl⟩ ?_
 rintro⟨i,out⟩ ρ H ⟨hi,Y1,rfl,g4,g10,g11,g12⟩
 simp only at hi Y1 g4 g12
 have jJ:out.length=i:=by rw[tA Y1,List.length_take];omega
 by_cases dA:(i:Int)<(xs.length:Int)
 ·obtain⟨x,hx⟩:∃x,xs[i]? = some x:=⟨_,List.getElem?_eq_getElem (by omega)⟩
  have hxm:=List.mem_of_getElem? hx
  have e1:=fun H=>aK (f:=sV) (t := .op) (H:=H) (size:=1) (k := .i64) hx rfl
  have wi:IntKind.i64.wrap ((i:Int)+1)=((i+1:Nat):Int):=wrapN (i+1) (by omega) (by omega)
  have e2:=JV x (hs x hxm)
  cases hp:pQ x with
  |
   none =>
   rw[hp] at e2
   have hq:pJ x=none:=by unfold pJ;rw[hp]
   rw[mapM_none hq hxm]
   simp only[Qj] at e2
   simp only[kW,g4,g10,g11,g12,dA,e1,e2,Dm,Fa,LC,aU,aV,aP,iS,Nat.reduceLeDiff,Nat.reduceLT,Nat.reduceSub,Ey,kZ,nC,uA,Ba,Au,bne_iff_ne,ne_eq,not_false_eq_true,not_true_eq_false,fB,VX,Nat.reduceEqDiff,Nat.reduceAdd,Nat.reduceLeDiff,Nat.reduceLT,Nat.reduceSub]
   exact Y0
  |
   some q =>
   rw[hp] at e2
   by_cases h0:0<q
   ·simp only[Qj,decide_eq_true h0] at e2
    have hq:pJ x=some q:=by unfold pJ;rw[hp];exact if_pos h0
    have eL:∀H,jE false [.bool false,.slice none 0 0,.slice none 0 0] 1 [(0,aQ q)] H=some (.tree [aQ q] (.cl 3),H):=fun H=>fZ rfl rfl rfl
    have eS:∀H,cU 3 (.tree [aQ q] (.cl 3)) H=some [aQ q]:=fun H=>dP rfl rfl
    have eP:eI 0 3 56 (.ref 0 i 0 i i) [aQ q] [.row i (out.map aQ) 3 true,.row 0 [aQ q] 3 true]=some (.ref 0 (i+1) 0 (i+1) (i+1),[.row (i+1) ((out++[q]).map aQ) 3 true,.row 0 [aQ q] 3 true]):=by
     rw[iE (f:=aQ) (xs:=out) (by rw[bA]) jJ.symm (Nat.le_refl _) (by decide) (by decide) (by omega),List.set_cons_zero]
    simp only[kW,g4,g10,g11,g12,dA,e1,e2,eL,eS,eP,wi,aH,dE,dC,aU,aV,aP,iS,Nat.reduceLeDiff,Nat.reduceLT,Nat.reduceSub,Ey,kZ,nC,uA,Ba,Au,bne_iff_ne,ne_eq,not_false_eq_true,not_true_eq_false,fB,VX,Nat.reduceEqDiff,Nat.reduceAdd,Nat.reduceLeDiff,Nat.reduceLT,Nat.reduceSub]
    refine⟨(i+1,out++[q]),by simp only;omega,?_,by simp only;omega,by simp only[gW hx];exact II Y1 hq,rfl,?_⟩
    ·rw[DX (oG _ (gQ gX)),Oy]
    ·simp only[Bs,g10,g11,F7 (qY _),Ob (Nat.lt_succ_self 0),VX,Nat.reduceEqDiff,Nat.reduceAdd,List.take_zero,kJ,List.all_nil,List.length_nil,Bs,QN,F7]
   ·simp only[Qj,decide_eq_false h0] at e2
    have hq:pJ x=none:=by unfold pJ;rw[hp];exact if_neg h0
    rw[mapM_none hq hxm]
    simp only[kW,g4,g10,g11,g12,dA,e1,e2,aH,dE,dC,aU,aV,aP,iS,Nat.reduceLeDiff,Nat.reduceLT,Nat.reduceSub,Ey,kZ,nC,uA,Ba,Au,bne_iff_ne,ne_eq,not_false_eq_true,not_true_eq_false,fB,VX,Nat.reduceEqDiff,Nat.reduceAdd,Nat.reduceLeDiff,Nat.reduceLT,Nat.reduceSub]
    exact Y0
 ·have nZ:i=xs.length:=by omega
  subst nZ
  rw[List.take_length] at Y1
  rw[Y1]
  simp only[kW,g4,g10,g11,g12,dA,fB,VX,Nat.reduceEqDiff,Nat.reduceAdd,Nat.reduceLeDiff,Nat.reduceLT,Nat.reduceSub]
  refine bP (d:=6) ?_ (aJ (v:=VB true) rfl)
  have:=aaW (d:=5) (w:=true) (f:=aQ) (e:=3) (b:=0) (g:=xs.length) (c:=xs.length) (xs:=out) (H:=[.row xs.length (out.map aQ) 3 true]) gX (by rw[bA]) (by omega)
  rw[jJ] at this
  exact this
end Go.PM
namespace Go.PM
section
variable {α:Type}
def vec (n:Nat) (f:Nat→α):List α:=(List.range n).map f
def M8 (n m:Nat) (F:Nat→Nat→α):List (List α):=vec n fun a=>vec m (F a)
theorem uL (n:Nat) (f:Nat→α):(vec n f).length=n:=by simp[vec]
theorem GK (n m:Nat) (F:Nat→Nat→α):(M8 n m F).length=n:=uL ..
theorem BE {n i:Nat} {f:Nat→α} (h:i<n):(vec n f)[i]? = some (f i):=by simp[vec,h]
theorem Ms {n i:Nat} {f:Nat→α} (h:n≤i):(vec n f)[i]? = none:=by rw[List.getElem?_eq_none];rw[uL];exact h
theorem AV {n:Nat} {f g:Nat→α} (h:∀i,i<n→f i=g i):vec n f=vec n g:=List.map_congr_left fun i hi=>h i (List.mem_range.1 hi)
theorem OO {n m:Nat} {F G:Nat→Nat→α} (h:∀a b,a<n→b<m→F a b=G a b):M8 n m F=M8 n m G:=AV fun a ha=>AV fun b hb=>h a b ha hb
theorem Vh {n m i:Nat} {F:Nat→Nat→α} (h:i<n):(M8 n m F)[i]? = some (vec m (F i)):=BE h
theorem VD {n j:Nat} {f:Nat→α} {y:α}:(vec n f).set j y=vec n fun b=>if b=j then y else f b:=by
 apply List.ext_getElem?
 intro b
 rw[List.getElem?_set,uL]
 by_cases hb:b<n
 ·rw[BE hb,BE hb]
  by_cases hj:j=b
  ·subst hj;simp[hb]
  ·simp[hj,Ne.symm hj]
 ·rw[Ms (by omega),Ms (by omega)]
  split
  ·rw[if_neg (by omega)]
  ·rfl
theorem afJ {n m i:Nat} {F:Nat→Nat→α} {g:Nat→α}:(M8 n m F).set i (vec m g)=M8 n m fun a b=>if a=i then g b else F a b:=by
 rw[M8,VD]
 refine AV fun a _ => ?_
 split
 ·rename_i h
  exact AV fun b _=>(if_pos h).symm
 ·rename_i h
  exact AV fun b _=>(if_neg h).symm
theorem OH {n:Nat} {x:α}:List.replicate n x=vec n fun _=>x:=by
 apply List.ext_getElem?
 intro i
 by_cases h:i<n
 ·rw[BE h,List.getElem?_replicate,if_pos h]
 ·rw[Ms (by omega),List.getElem?_replicate,if_neg h]
theorem Yq {n m:Nat} {x:α}:List.replicate n (List.replicate m x)=M8 n m fun _ _=>x:=by rw[OH,OH];rfl
theorem G7 {n:Nat} {f:Nat→α} {x:α}:x∈vec n f↔∃i,i<n∧f i=x:=by simp[vec]
theorem V7 {n m:Nat} {F:Nat→Nat→α} {r:List α} (h:r∈M8 n m F):∃i,i<n∧r=vec m (F i):=by
 obtain⟨i,hi,rfl⟩:=G7.1 h
 exact⟨i,hi,rfl⟩
end
end Go.PM
namespace Go.PM
open Go.Lib
theorem Zx {qs:List Rat} {B i:Nat} {y:Rat} (h:∀q∈qs,aY q≤B) (hy:aY y≤B):∀q∈qs.set i y,aY q≤B:=fun q hq=>by
 rcases List.mem_or_eq_of_mem_set hq with h1 | rfl
 ·exact h q h1
 ·exact hy
theorem Vv.own {n lo hi:Nat} {s:Kl} {H:aA} {v:VV} (h:Vv s lo hi H v) (hn:n≤lo):∃a b c,v = .agg [a,b,c]∧bO a=true∧bO b=true∧bO c=true∧fA n a=true∧fA n b=true∧fA n c=true:=by
 obtain⟨a,b,c,m1,m2,rfl,l1,l2,l3,ha,hb,hc⟩:=h
 refine⟨a,b,c,rfl,ha.cell,hb.cell,hc.cell,?_,?_,?_⟩
 ·rcases ha with⟨rfl,_⟩ | ⟨b,g,c,h1,h2,rfl,h3⟩
  ·rfl
  ·simp[fA];omega
 ·rcases hb with⟨rfl,_⟩ | ⟨b,g,c,rs,h1,h2,rfl,h3⟩
  ·rfl
  ·simp[fA];omega
 ·rcases hc with⟨rfl,_⟩ | ⟨b,g,c,h1,h2,rfl,h3⟩
  ·rfl
  ·simp[fA];omega
end Go.PM
namespace Go.PM
open Go.Lib
section
variable {α:Type} {f:α→VV} {e:Nat}
structure YA (f:α→VV) (e:Nat) (m:List (List α)) (H:aA) (v:VV):Prop where
 len:∀H',H <+: H'→oF v H'=some (VI m.length)
 get:∀H',H <+: H'→∀(i:Nat) r,m[i]? = some r→∃p w,bJ 1 v (VI i) H'=some p∧bT false 1 p H'=some w∧Rd f e r H' w
theorem YA.pre {m:List (List α)} {H H':aA} {v:VV} (h:YA f e m H v) (hh:H <+: H'):YA f e m H' v:=⟨fun H2 h2=>h.len H2 (hh.trans h2),fun H2 h2=>h.get H2 (hh.trans h2)⟩
theorem YA.tree {m:List (List α)} {H:aA} {t:TK} (hs:∀x,(aB (f x)).length=e):YA f e m H (.tree (m.map (aS f)) t) :=
 ⟨fun _ _=>dV,fun _ _ i x hx=>⟨_,_,aK hx rfl,by rw[J4];rfl,Rd.tree hs⟩⟩
theorem YA.row {m:List (List α)} {H:aA} {b g n c:Nat} {w:Bool} (h:aI H b g=some (m.map (aS f),1,w)) (hn:n=m.length) (hs:∀x,(aB (f x)).length=e):YA f e m H (.ref b g 0 n c):=by
 subst hn
 refine⟨fun H' hh=>fP (cR hh h),fun H' hh i x hx => ?_⟩
 have hi:=(List.getElem?_eq_some_iff.1 hx).1
 have e1:=bE (o:=0) (n:=m.length) (c:=c) (i:=i) (k := .i64) (cR hh h) hi
 rw[Nat.zero_add] at e1
 exact⟨_,_,e1,by rw[pL (f:=aS f) (cR hh h) hx];rfl,Rd.tree hs⟩
theorem MG.rdT {lo hi b g n c:Nat} {H:aA} {rs:List (vN α)} (h:MG f e lo hi b g H rs) (hn:n=rs.length):YA f e (rs.map (·.xs)) H (.ref b g 0 n c):=by
 subst hn
 refine⟨fun H' hh=>by rw[List.length_map];exact(h.pre hh).len,fun H' hh i x hx => ?_⟩
 rw[List.getElem?_map] at hx
 obtain⟨r,hr,rfl⟩:=Option.map_eq_some_iff.1 hx
 have hi:=(List.getElem?_eq_some_iff.1 hr).1
 exact⟨_,_,(h.pre hh).addr hi,(h.pre hh).cell hr,Rd.row ((h.pre hh).row hr) rfl⟩
theorem MG.snoc {lo hi gP b g:Nat} {H:aA} {rs:List (vN α)} (h:MG f e lo hi b g H rs) (hg:g=rs.length) (dK:gP≤lo) (hn:g≤1000000000) (r:vN α) (hhi:hi≤r.b) (hc:r.xs.length≤r.c) (hr:aI H r.b r.g=some (r.xs.map f,e,true)) :
  eI gP 1 24 (.ref b g 0 g g) [.ref r.b r.g 0 r.xs.length r.c] H=some (.ref b (g+1) 0 (g+1) (g+1),H.set b (.row (g+1) ((rs++[r]).map nB) 1 true))∧MG f e lo H.length b (g+1) (H.set b (.row (g+1) ((rs++[r]).map nB) 1 true)) (rs++[r]):=by
 have aBY:=h.blo
 have aBR:=h.bhi
 have yT:=gN hr
 have rQ:=iE (f:=nB) (xs:=rs) (x:=r) (lo:=gP) (bytes:=24) h.out hg (by omega) (by decide) (by decide) (by omega)
 refine⟨rQ,bZ h.out,h.blo,gN h.out,?_,fun s hs => ?_⟩
 ·rw[List.map_append,List.nodup_append]
  refine⟨h.rows.nd,by simp,fun a ha c Uq => ?_⟩
  obtain⟨s,hs,rfl⟩:=List.mem_map.1 ha
  have:=h.rows.row s hs
  simp only[List.map_cons,List.map_nil,List.mem_singleton] at Uq
  omega
 ·rcases List.mem_append.1 hs with hs | hs
  ·obtain⟨k1,k2,k3,k4,k5⟩:=h.rows.row s hs
   exact⟨k1,by omega,k3,k4,cD (by omega) k5⟩
  ·rw[List.mem_singleton] at hs
   subst hs
   exact⟨by omega,yT,by omega,hc,cD (by omega) hr⟩
end
def iR (m:List (List Rat)) (i:Nat):Rat:=(m.take i).foldl (fun a r=>if a<dY r then dY r else a) 0
def cM (m:List (List Rat)):Rat:=iR m m.length
theorem zI {m:List (List Rat)} {i:Nat} {r:List Rat} (h:m[i]? = some r):iR m (i+1)=if iR m i<dY r then dY r else iR m i:=by
 unfold iR
 rw[gW h,List.foldl_append]
 rfl
def kA (d:Rat) (i:Nat) (r:List Rat):List Rat:=(r.map (· / d)).set i (1-dY (r.map (· / d)))
def mY (m:List (List Rat)):List (List Rat):=vec m.length fun i=>kA (cM m) i (m.getD i [])
theorem tN {qs:List Rat} {B n:Nat} (h:∀q∈qs,aY q≤B) (hn:qs.length≤n):aY (dY qs)≤n*(B+1)+1:=by
 have h1:=E8 h qs.length
 rw[List.take_length] at h1
 have h2:qs.length*(B+1)≤n*(B+1):=Nat.mul_le_mul_right _ hn
 omega
theorem uD {m:List (List Rat)} {B n:Nat} (h:∀r∈m,r.length≤n∧∀q∈r,aY q≤B):∀i,aY (iR m i)≤n*(B+1)+1
 |
  0=>by
  show aY 0≤_
  rw[Fk]
  omega
 |
  i+1=>by
  cases hr:m[i]? with
  |
   none =>
   have:iR m (i+1)=iR m i:=by
    unfold iR
    rw[List.take_add_one,hr]
    simp
   rw[this]
   exact uD h i
  |
   some r =>
   rw[zI hr]
   have:=h r (List.mem_of_getElem? hr)
   split
   ·exact tN this.2 this.1
   ·exact uD h i
theorem HX {qs:List Rat} {d:Rat} {B D:Nat} (h:∀q∈qs,aY q≤B) (hd:aY d≤D):∀q∈qs.map (· / d),aY q≤B+D+1:=fun q hq=>by
 obtain⟨p,hp,rfl⟩:=List.mem_map.1 hq
 have h1:=h p hp
 have h2:=Xi p d
 omega
set_option maxHeartbeats 4000000 in
theorem SF {lo:Nat} {H:aA} {v:VV} (m:List (List Rat)) {n B:Nat} (hv:YA aQ 3 m H v) (dK:lo≤H.length) (hm:m.length=n) (hn:n≤100) (hB:B≤1000000) (hb:∀r∈m,r.length=n∧∀q∈r,aY q≤B) (hd:cM m≠0) :
  gU 72 [v] lo H (F5 (TabIs aQ 3 (mY m)) H):=by
 have hmul:n*(B+1)≤100*(B+1):=Nat.mul_le_mul_right _ hn
 have uJ:∀r∈m,r.length≤n∧∀q∈r,aY q≤B:=fun r hr=>⟨Nat.le_of_eq (hb r hr).1,(hb r hr).2⟩
 refine gU.walk ⟨true,false⟩ QV (Nat.le_of_ble_eq_true rfl) ?_
 have e1:TC 64 [VI 0] (aQ 0):=rW 0 (by decide) (by decide)
 have s0:=AI (lo:=lo) (H:=H) (q:=0) dK
 have e2:=hv.len _ (List.prefix_append H [.row 0 [aQ 0] 3 true])
 simp only[N9,IP,e1,s0,e2,fB,VX,Nat.reduceEqDiff,Nat.reduceAdd,Nat.reduceLeDiff,Nat.reduceLT,Nat.reduceSub]
 refine aT (fun(i:Nat) ρ H1=>i≤m.length∧H <+: H1∧aI H1 H.length 0=some ([aQ (iR m i)],3,true)∧ρ 0=v∧ρ 3 = .ptr H.length 0 0 0∧ρ 12=v∧ρ 13=VI m.length∧ρ 14=VI i) (fun i=>m.length-i) 0 ⟨Nat.zero_le _,List.prefix_append _ _,fN,rfl,rfl,rfl,rfl,rfl⟩ ?_
 rintro i ρ H1 ⟨hi,hp,WC,g0,g3,g12,g13,g14⟩
 have Ct:=gN WC
 by_cases dA:(i:Int)<(m.length:Int)
 ·obtain⟨r,hr⟩:∃r,m[i]? = some r:=⟨_,List.getElem?_eq_getElem (by omega)⟩
  have CC:=hb r (List.mem_of_getElem? hr)
  obtain⟨p,w,a1,a2,hw⟩:=hv.get H1 hp i r hr
  have wi:IntKind.i64.wrap ((i:Int)+1)=((i+1:Nat):Int):=wrapN (i+1) (by omega) (by omega)
  have yT:r.length*(B+1)≤100*(B+1):=Nat.mul_le_mul_right _ (by omega)
  simp only[Bo,g0,g3,g12,g13,g14,dA,a1,a2,fB,VX,Nat.reduceEqDiff,Nat.reduceAdd,Nat.reduceLeDiff,Nat.reduceLT,Nat.reduceSub]
  refine lA rfl (KY (H:=H1) r hw (by omega) CC.2 (by omega) (by omega) (by omega)) fun x L hx => ?_
  subst hx
  have E1:=cF (L:=L) WC
  have Ki:=jV (L:=L) hp
  have FF:H1.length≤(H1++L).length:=by rw[List.length_append];omega
  generalize H1++L=H2 at *
  have s1:=AI (lo:=lo) (H:=H2) (q:=dY r) (by omega)
  have s2:=Kc (H:=H2) (K:=[]) (q:=dY r)
  have s3:bT true 3 (.ptr H.length 0 0 0) (H2++[cN.row 0 [aQ (dY r)] 3 true])=some (aQ (iR m i)):=by
   rw[bQ,cF E1]
   exact dC _
  have b1:=tN CC.2 (Nat.le_of_eq CC.1)
  have b2:=uD uJ i
  have e3:=K8 (dY r) (iR m i) (by omega) (by omega)
  have Fg:=zI hr
  by_cases hc:iR m i<dY r
  ·have Uq:=Wh.2 hc
   rw[if_pos hc] at Fg
   have s4:=bX (lo:=lo) (v:=aQ (dY r)) (j:=0) (cF (L:=[.row 0 [aQ (dY r)] 3 true]) E1) (by exact Nat.zero_lt_one) dK rfl rfl
   rw[List.set_cons_zero] at s4
   simp only[g0,g3,g12,g13,g14,s1,s2,s3,s4,e3,Uq,wi,fB,VX,Nat.reduceEqDiff,Nat.reduceAdd,Nat.reduceLeDiff,Nat.reduceLT,Nat.reduceSub]
   exact⟨i+1,by omega,by omega,kS (jV Ki) (Nat.le_refl _),by rw[Fg];exact bZ (cF E1),by (repeat' apply And.intro)<;>first | rfl | trivial | assumption⟩
  ·have Uq:=mt Wh.1 hc
   rw[if_neg hc] at Fg
   simp only[g0,g3,g12,g13,g14,s1,s2,s3,e3,Uq,wi,fB,VX,Nat.reduceEqDiff,Nat.reduceAdd,Nat.reduceLeDiff,Nat.reduceLT,Nat.reduceSub]
   exact⟨i+1,by omega,by omega,jV Ki,by rw[Fg];exact cF E1,by (repeat' apply And.intro)<;>first | rfl | trivial | assumption⟩
 ·have nZ:i=m.length:=by omega
  subst nZ
  have e0:∀K,jE false [.slice none 0 0] 0 [] K=some (.ref K.length 0 0 0 0,K++[.row 0 [] 1 true]):=fun K=>iH rfl
  have e3:=hv.len _ (jV (L:=[.row 0 [] 1 true]) hp)
  simp only[Bo,g0,g3,g12,g13,g14,dA,e0,e3,fB,VX,Nat.reduceEqDiff,Nat.reduceAdd,Nat.reduceLeDiff,Nat.reduceLT,Nat.reduceSub]
  have WC:aI H1 H.length 0=some ([aQ (cM m)],3,true):=WC
  have bm:=uD uJ m.length
  rw[←cM] at bm
  refine aT (fun(i:Nat) ρ H2=>i≤m.length∧H <+: H2∧aI H2 H.length 0=some ([aQ (cM m)],3,true)∧(∃rs,rs.length=i∧rs.map (·.xs)=(mY m).take i∧MG aQ 3 H1.length H2.length H1.length i H2 rs)∧ρ 3 = .ptr H.length 0 0 0∧ρ 7 = .ref H1.length i 0 i i∧ρ 27=v∧ρ 28=VI m.length∧ρ 29=VI i) (fun i=>m.length-i) 0
   ⟨Nat.zero_le _,jV hp,cF WC,⟨[],rfl,rfl,fN,Nat.le_refl _,by simp,by simp,by simp⟩,by (repeat' apply And.intro)<;>first | rfl | trivial | assumption⟩ ?_
  clear g0 g3 g12 g13 g14 dA
  rintro i ρ H2 ⟨hi,Ki,E1,⟨rs,yT,Kz,hM⟩,g3,g7,g27,g28,g29⟩
  by_cases dA:(i:Int)<(m.length:Int)
  ·obtain⟨r,hr⟩:∃r,m[i]? = some r:=⟨_,List.getElem?_eq_getElem (by omega)⟩
   have CC:=hb r (List.mem_of_getElem? hr)
   obtain⟨p,w,a1,a2,hw⟩:=hv.get H2 Ki i r hr
   have wi:IntKind.i64.wrap ((i:Int)+1)=((i+1:Nat):Int):=wrapN (i+1) (by omega) (by omega)
   have hbh:=hM.bhi
   have s3:bT true 3 (.ptr H.length 0 0 0) H2=some (aQ (cM m)):=by
    rw[bQ,E1]
    exact dC _
   simp only[Bx,g3,g7,g27,g28,g29,dA,a1,a2,s3,fB,VX,Nat.reduceEqDiff,Nat.reduceAdd,Nat.reduceLeDiff,Nat.reduceLT,Nat.reduceSub]
   refine lA rfl (MQ (H:=H2) r (cM m) hd hw (by omega) (by omega) (fun q hq=>by have:=CC.2 q hq;omega) (by omega)) fun x L3 hx => ?_
   obtain⟨bp,gp,cp,k1,k2,rfl,k3,k4⟩:=hx
   have hM3:=hM.pre (List.prefix_append H2 L3)
   have ayN:=cF (L:=L3) E1
   have hp3:=jV (L:=L3) Ki
   have hl3:H2.length≤(H2++L3).length:=by rw[List.length_append];omega
   generalize H2++L3=H3 at *
   have e4:TC 64 [VI 1] (aQ 1):=rW 1 (by decide) (by decide)
   have qb:=HX CC.2 bm
   have abO:(r.map (· / cM m)).length*(B+(n*(B+1)+1)+1+1)≤100*(B+(n*(B+1)+1)+1+1):=Nat.mul_le_mul_right _ (by rw[List.length_map];omega)
   simp only[e4,fB,VX,Nat.reduceEqDiff,Nat.reduceAdd,Nat.reduceLeDiff,Nat.reduceLT,Nat.reduceSub]
   refine lA rfl (KY (H:=H3) (v := .ref bp gp 0 r.length cp) (r.map (· / cM m)) (Rd.row k4 (List.length_map ..).symm) (by omega) qb (by omega) (by omega) (by rw[List.length_map];omega)) fun x L4 hx => ?_
   subst hx
   have hM4:=hM3.pre (List.prefix_append H3 L4)
   have akQ:=cF (L:=L4) ayN
   have hp4:=jV (L:=L4) hp3
   have hl4:H3.length≤(H3++L4).length:=by rw[List.length_append];omega
   have k5:=cF (L:=L4) k4
   generalize H3++L4=H4 at *
   have b3:=tN (n:=n) qb (Nat.le_of_eq (by rw[List.length_map];exact CC.1))
   have aqI:n*(B+(n*(B+1)+1)+1+1)≤100*(B+(n*(B+1)+1)+1+1):=Nat.mul_le_mul_right _ hn
   have e5:=L9 1 (dY (r.map (· / cM m))) (by rw[HF];omega) (by omega)
   have a3:=bE (o:=0) (n:=r.length) (c:=cp) (i:=i) (k := .i64) k5 (by omega)
   rw[Nat.zero_add] at a3
   have s5:=fI (lo:=lo) (f:=aQ) (x:=1-dY (r.map (· / cM m))) (j:=i) k5 (by rw[List.length_map];omega) (by omega) rfl rfl
   have hM5:=hM4.cJ (H':=H4.set bp (.row gp ((kA (cM m) i r).map aQ) 3 true)) (dI.set (by omega))
   have k6:=bZ (g:=gp) (e:=3) (w:=true) (es:=(kA (cM m) i r).map aQ) k5
   have Vs:(kA (cM m) i r).length=r.length:=by rw[kA,List.length_set,List.length_map]
   have hk6:=gN k6
   obtain⟨ap,hM6⟩:=hM5.snoc (gP:=lo) yT.symm (by omega) (by omega) ⟨bp,gp,cp,kA (cM m) i r⟩ k1 (by simp only[Vs];rw[List.length_map] at k3;exact k3) k6
   simp only[Vs] at ap
   have eL:∀K,jE false [.slice none 0 0] 1 [(0,.ref bp gp 0 r.length cp)] K=some (.tree [.ref bp gp 0 r.length cp] (.cl 1),K):=fun K=>fZ rfl rfl rfl
   have eS:∀K,cU 1 (.tree [.ref bp gp 0 r.length cp] (.cl 1)) K=some [.ref bp gp 0 r.length cp]:=fun K=>dP rfl rfl
   have s5':bR lo 3 (.ptr bp gp i 0) (aQ (1-dY (r.map (· / cM m)))) H4=some (H4.set bp (.row gp ((kA (cM m) i r).map aQ) 3 true)):=s5
   simp only[g7,e5,a3,s5',eL,eS,ap,wi,g29,fB,VX,Nat.reduceEqDiff,Nat.reduceAdd,Nat.reduceLeDiff,Nat.reduceLT,Nat.reduceSub]
   refine⟨i+1,by omega,by omega,kS (kS hp4 (by omega)) (by omega),cD (by omega) (cD (by omega) akQ),⟨rs++[⟨bp,gp,cp,kA (cM m) i r⟩],by rw[List.length_append,yT];rfl,?_,?_⟩,by (repeat' apply And.intro)<;>first | rfl | trivial | assumption⟩
   ·have rL:(mY m)[i]? = some (kA (cM m) i r):=by
     rw[mY,BE (by omega),List.getD_eq_getElem?_getD,hr]
     rfl
    rw[gW rL,List.map_append,Kz]
    rfl
   ·exact hM6.wide (Nat.le_refl _) (by simp)
  ·have nZ:i=m.length:=by omega
   subst nZ
   rw[List.take_of_length_le (by rw[mY,uL];exact Nat.le_refl _)] at Kz
   simp only[Bx,g3,g7,g27,g28,g29,dA,fB,VX,Nat.reduceEqDiff,Nat.reduceAdd,Nat.reduceLeDiff,Nat.reduceLT,Nat.reduceSub]
   have Vs:(mY m).length=m.length:=by rw[mY,uL]
   exact⟨Ki,H1.length,m.length,m.length,rs,by rw[Vs],by rw[Vs];exact Nat.le_refl _,hM.wide hp.length_le (Nat.le_refl _),Kz⟩
end Go.PM
namespace Go.PM
open Go.Lib
theorem aeT {lo hi:Nat} {H:aA}:CG [] lo hi H (.agg [.tree [] .nil]):=⟨_,rfl,.inl ⟨rfl,rfl⟩⟩
abbrev aiY:cN := .row 0 [.tree [] .nil] 1 true
theorem AP {n:Nat} {K:aA}:aI (List.replicate n cN.dead++aiY::K) n 0=some ([.tree [] .nil],1,true):=by rw[BF,bA]
theorem O5 {n t:Nat} {F:Nat} {args iJ:List VV} {bH:List (List ByteArray)} {ok:Bool} {H:aA} {K:VV→aA→Prop} (h:FC F iJ (Vx (CG bH) ok)) (yG:Cy.contains F=true) (hf:args.mapM (PM.fz depth H)=some iJ) (hr:aI H t 0=some ([.tree [] .nil],1,true)) (hnt:n≤t)
  (hk:∀v H2 H3,bR n 1 (.ptr t 0 0 0) v H2=some H3→bT true 1 (.ptr t 0 0 0) H3=some v→(∃L',GN H3 (List.replicate n .dead++L')∧fA n (.dT [v,.sc (.bool ok)])=true∧eT n L'=true∧Vx (CG bH) ok n (.dT [v,.sc (.bool ok)]) L')→K (.dT [v,.sc (.bool ok)]) H2) :
  cS F args n H K:=by
 refine h.aaX yG hf ?_
 rintro r L ⟨v,rfl,hv⟩ ED hL
 have hv:=hv.cJ dI.move
 rw[←List.length_append] at hv
 have ht:=gN hr
 obtain⟨c,rfl,h1,h2,h3⟩:=hv.own (n:=n) (by omega)
 have hL':eT n L=true:=GO (by omega) hL
 refine hk (.agg [c]) _ ((H++L).set t (.row 0 [.agg [c]] 1 true)) ?_ ?_ ?_
 ·rw[bX (cF hr) (by exact Nat.zero_lt_one) hnt rfl (by simp[aB,h1])]
  rfl
 ·rw[bQ,bZ (cF hr)]
  rfl
 ·exact anD (k:=H.length) (lo:=H.length) (hi:=(H++L).length) (by omega) (by rw[List.length_set,List.length_append];omega) ((Bw.start.apF hL').set (by omega)) (by simp[fA,oA,h3]) CG.cJ CG.wide (hv.cJ (dI.set (by omega))) (Nat.le_refl _) (by rw[List.length_set];exact Nat.le_refl _)
theorem Zp {n t:Nat} {H:aA} {bH:Option (List (List ByteArray))} (hr:aI H t 0=some ([.tree [] .nil],1,true)) (hnt:n≤t) (hv:bH=none) :
  bR n 1 (.ptr t 0 0 0) (.agg [.tree [] .nil]) H=some (H.set t (.row 0 [.agg [.tree [] .nil]] 1 true))∧bT true 1 (.ptr t 0 0 0) (H.set t (.row 0 [.agg [.tree [] .nil]] 1 true))=some (.agg [.tree [] .nil]) ∧
  ∃L,GN (H.set t (.row 0 [.agg [.tree [] .nil]] 1 true)) (List.replicate n .dead++L)∧fA n (.dT [.agg [.tree [] .nil],.sc (.bool false)])=true∧eT n L=true∧Vx (CG (bH.getD [])) bH.isSome n (.dT [.agg [.tree [] .nil],.sc (.bool false)]) L:=by
 subst hv
 refine⟨?_,?_,_,AN (by rw[List.length_set];have:=gN hr;omega),rfl,Bf,_,rfl,aeT⟩
 ·rw[bX hr (by exact Nat.zero_lt_one) hnt rfl rfl]
  rfl
 ·rw[bQ,bZ hr]
  rfl
theorem Iz {a:Nat} (h:a≤12):a*(665+1)+1≤7993:=by omega
theorem Sk {qs:List Rat} (h:∀q∈qs,0≤q):0≤dY qs:=by
 have key:∀i,i≤qs.length→0≤dY (qs.take i):=by
  intro i
  induction i with
  | zero=>intro _;show (0:Rat)≤0;exact Rat.le_refl
  |
   succ i ih =>
   intro hi
   have hq:qs[i]? = some qs[i]:=List.getElem?_eq_getElem (by omega)
   rw[AM hq]
   have h1:=ih (by omega)
   have h2:=h _ (List.getElem_mem (by omega:i<qs.length))
   grind
 have:=key qs.length (Nat.le_refl _)
 rwa [List.take_length] at this
theorem KJ {m:List (List Rat)} (h:∀r∈m,0≤dY r):∀i,0≤iR m i∧0≤dY ((m.map dY).take i)∧(dY ((m.map dY).take i)=0↔iR m i=0)∧(((m.take i).any fun r => !decide (dY r=0)) = !decide (iR m i=0))
 | 0=>⟨Rat.le_refl,Rat.le_refl,⟨fun _=>rfl,fun _=>rfl⟩,rfl⟩
 |
  i+1=>by
  obtain⟨h1,h2,h3,h4⟩:=KJ h i
  cases hr:m[i]? with
  |
   none =>
   have e1:iR m (i+1)=iR m i:=by unfold iR;rw[List.take_add_one,hr];simp
   have e2:(m.map dY).take (i+1)=(m.map dY).take i:=by rw[List.take_add_one,List.getElem?_map,hr];simp
   have e3:m.take (i+1)=m.take i:=by rw[List.take_add_one,hr];simp
   rw[e1,e2,e3]
   exact⟨h1,h2,h3,h4⟩
  |
   some r =>
   have h0:=h r (List.mem_of_getElem? hr)
   have ED:(m.map dY)[i]? = some (dY r):=by rw[List.getElem?_map,hr];rfl
   rw[zI hr,AM ED,gW hr,List.any_append,h4]
   simp only[List.any_cons,List.any_nil,Bool.or_false]
   by_cases hc:iR m i<dY r
   ·rw[if_pos hc]
    have hp:¬dY r=0:=by grind
    have hs:¬dY ((m.map dY).take i)+dY r=0:=by grind
    refine⟨h0,by grind,⟨fun h=>absurd h hs,fun h=>absurd h hp⟩,by simp[hp]⟩
   ·rw[if_neg hc]
    refine⟨h1,by grind,?_,?_⟩
    ·constructor
     ·intro h;exact h3.1 (by grind)
     ·intro h;have:=h3.2 h;grind
    ·by_cases hz:iR m i=0
     ·have:dY r=0:=by grind
      simp[hz,this]
     ·simp[hz]
theorem OC {m:List (List Rat)} {n B:Nat} (hm:m.length=n) (hb:∀r∈m,r.length=n∧∀q∈r,aY q≤B) (hn:n≤100) (hB:B≤1000000):(mY m).length=n∧∀r∈mY m,r.length=n∧∀q∈r,aY q≤100000000000:=by
 refine⟨by rw[mY,uL,hm],fun r hr => ?_⟩
 obtain⟨i,hi,rfl⟩:=G7.1 hr
 have hgi:m[i]? = some m[i]:=List.getElem?_eq_getElem hi
 have CC:=hb _ (List.getElem_mem hi)
 rw[List.getD_eq_getElem?_getD,hgi,Option.getD_some]
 have bm:=uD (n:=n) (B:=B) (fun r hr=>⟨Nat.le_of_eq (hb r hr).1,(hb r hr).2⟩) m.length
 rw[←cM] at bm
 have qb:=HX CC.2 bm
 have hl:(m[i].map (· / cM m)).length=n:=by rw[List.length_map];exact CC.1
 have b3:=tN qb (Nat.le_of_eq hl)
 have m1:n*(B+1)≤100*(B+1):=Nat.mul_le_mul_right _ hn
 have m2:n*(B+(n*(B+1)+1)+1+1)≤100*(B+(n*(B+1)+1)+1+1):=Nat.mul_le_mul_right _ hn
 have b4:=X7 1 (dY (m[i].map (· / cM m)))
 rw[HF] at b4
 refine⟨by rw[kA,List.length_set,hl],Zx (fun q hq => ?_) (by omega)⟩
 have:=qb q hq
 omega
end Go.PM
namespace Go.PM
abbrev Dw:=Nat×Nat×Rat
def GC (F:Nat→Nat→Rat) (i j:Nat) (q:Rat) (a b:Nat):Rat:=if i≠j∧a=i∧b=j then F a b+q else F a b
theorem Yo {F:Nat→Nat→Rat} {i:Nat} {q:Rat}:GC F i i q=F:=by
 funext a b
 exact if_neg fun h=>h.1 rfl
def GF (F:Nat→Nat→Rat) (L:List Dw):Nat→Nat→Rat:=L.foldl (fun F t=>GC F t.1 t.2.1 t.2.2) F
def fH (L:List Dw):Nat→Nat→Rat:=GF (fun _ _=>0) L
theorem Fx {F:Nat→Nat→Rat} {t:Dw} {L:List Dw}:GF F (t::L)=GF (GC F t.1 t.2.1 t.2.2) L:=rfl
theorem GD {F:Nat→Nat→Rat} {L M:List Dw}:GF F (L++M)=GF (GF F L) M:=List.foldl_append
theorem Ft {L:List Dw} {i j:Nat} {q:Rat}:fH (L++[(i,j,q)])=GC (fH L) i j q:=GD
theorem Fu {L:List Dw} {i:Nat} {q:Rat}:fH (L++[(i,i,q)])=fH L:=by rw[Ft,Yo]
theorem LP {Q:Nat}:∀(L:List Dw) (F:Nat→Nat→Rat) (B:Nat),(∀t∈L,aY t.2.2≤Q)→(∀a b,aY (F a b)≤B)→∀a b,aY (GF F L a b)≤B+L.length*(Q+1)
 |
  [],F,B,_,hF,a,b=>by
  have:=hF a b
  show aY (F a b)≤_
  omega
 |
  t::L,F,B,hL,hF,a,b=>by
  rw[Fx]
  have ht:=hL t List.mem_cons_self
  have:=LP L (GC F t.1 t.2.1 t.2.2) (B+(Q+1)) (fun s hs=>hL s (List.mem_cons_of_mem _ hs)) (fun a b=>by
   unfold GC
   have h1:=hF a b
   have h2:=HJ (F a b) t.2.2
   split<;>omega) a b
  rw[List.length_cons,Nat.succ_mul]
  omega
theorem L6 {Q:Nat} {L:List Dw} (h:∀t∈L,aY t.2.2≤Q) (a b:Nat):aY (fH L a b)≤1+L.length*(Q+1) :=
 LP L _ 1 h (fun _ _=>by show aY 0≤1;rw[Fk];exact Nat.le_refl _) a b
theorem KD:∀(L:List Dw) (F:Nat→Nat→Rat),(∀t∈L,0≤t.2.2)→∀a b,F a b≤GF F L a b
 | [],F,_,a,b=>Rat.le_refl
 |
  t::L,F,hL,a,b=>by
  rw[Fx]
  have ht:=hL t List.mem_cons_self
  have h1:=KD L (GC F t.1 t.2.1 t.2.2) (fun s hs=>hL s (List.mem_cons_of_mem _ hs)) a b
  have h2:F a b≤GC F t.1 t.2.1 t.2.2 a b:=by
   unfold GC
   split<;>grind
  exact Rat.le_trans h2 h1
theorem F9 {L:List Dw} (h:∀t∈L,0≤t.2.2) (a b:Nat):0≤fH L a b:=KD L _ h a b
theorem XG {L:List Dw} {i j:Nat} {q:Rat} (h:∀t∈L,0≤t.2.2) (ht:(i,j,q)∈L) (PY:i≠j) (hq:0<q):0<fH L i j:=by
 obtain⟨s,r,rfl⟩:=List.append_of_mem ht
 have hs:∀t∈s,0≤t.2.2:=fun t ht=>h t (List.mem_append_left _ ht)
 have hr:∀t∈r,0≤t.2.2:=fun t ht=>h t (List.mem_append_right _ (List.mem_cons_of_mem _ ht))
 have h1:=KD r (GC (fH s) i j q) hr i j
 have h2:fH (s++(i,j,q)::r)=GF (GC (fH s) i j q) r:=by
  unfold fH
  rw[GD,Fx]
 rw[h2]
 have h3:=F9 hs i j
 have h4:GC (fH s) i j q i j=fH s i j+q:=if_pos ⟨PY,rfl,rfl⟩
 rw[h4] at h1
 grind
theorem agV {qs:List Rat} (h:∀q∈qs,0≤q) {q:Rat} (hq:q∈qs):q≤dY qs:=by
 have key:∀i,i≤qs.length→0≤dY (qs.take i)∧∀p∈qs.take i,p≤dY (qs.take i):=by
  intro i
  induction i with
  | zero=>intro _;exact⟨by show (0:Rat)≤0;exact Rat.le_refl,by simp⟩
  |
   succ i ih =>
   intro hi
   have hq:qs[i]? = some qs[i]:=List.getElem?_eq_getElem (by omega)
   obtain⟨h1,h2⟩:=ih (by omega)
   have h3:=h _ (List.getElem_mem (by omega:i<qs.length))
   rw[AM hq]
   refine⟨by grind,fun p hp => ?_⟩
   rw[gW hq] at hp
   rcases List.mem_append.1 hp with hp | hp
   ·have:=h2 p hp
    grind
   ·rw[List.mem_singleton] at hp
    subst hp
    grind
 have:=(key qs.length (Nat.le_refl _)).2
 rw[List.take_length] at this
 exact this q hq
theorem UI {N:Nat} {L:List Dw} {i j:Nat} {q:Rat} (h:∀t∈L,0≤t.2.2) (ht:(i,j,q)∈L) (PY:i≠j) (hq:0<q) (hi:i<N) (hj:j<N):cM (M8 N N (fH L))≠0:=by
 have hnn:∀r∈M8 N N (fH L),∀q∈r,0≤q:=fun r hr q hq=>by
  obtain⟨a,_,rfl⟩:=V7 hr
  obtain⟨b,_,rfl⟩:=G7.1 hq
  exact F9 h a b
 obtain⟨_,_,_,h4⟩:=KJ (fun r hr=>Sk (hnn r hr)) (M8 N N (fH L)).length
 rw[List.take_length] at h4
 intro h0
 rw[←cM,h0,decide_eq_true rfl,Bool.not_true] at h4
 have kD:=List.mem_of_getElem? (Vh (m:=N) (F:=fH L) hi)
 have h5:=List.any_eq_false.1 h4 _ kD
 have h6:=agV (hnn _ kD) (q:=fH L i j) (G7.2 ⟨j,hj,rfl⟩)
 have h7:=XG h ht PY hq
 simp only[Bool.not_eq_true',decide_eq_false_iff_not,not_true_eq_false,Classical.not_not] at h5
 rw[h5] at h6
 grind
theorem Uz {Q N:Nat} {L:List Dw} (h:∀t∈L,aY t.2.2≤Q):∀r∈M8 N N (fH L),r.length=N∧∀q∈r,aY q≤1+L.length*(Q+1):=fun r hr=>by
 obtain⟨a,_,rfl⟩:=V7 hr
 refine⟨uL ..,fun q hq => ?_⟩
 obtain⟨b,_,rfl⟩:=G7.1 hq
 exact L6 h a b
def alH (N:Nat) (L:List Dw):Option (List (List ByteArray)):=vV (mY (M8 N N (fH L)))
end Go.PM
namespace Go.PM
theorem HZ {a b c d:ByteArray}:Yp [a,b,c,d]=match pJ a,pJ b,pJ c,pJ d with
  | some x,some y,some z,some w=>some [x,y,z,w]
  | _,_,_,_=>none:=by
 unfold Yp
 cases ha:pJ a<;>cases hb:pJ b<;>cases hc:pJ c<;>cases hd:pJ d<;>simp[List.mapM_cons,ha,hb,hc,hd]
def FL (o:Option (Nat×List Dw)):Option (List (List ByteArray)):=o.bind fun p=>alH p.1 p.2
def qW (p:Nat×List Dw):List (List Rat):=M8 p.1 p.1 (fH p.2)
structure QOk (p:Nat×List Dw):Prop where
 n:p.1≤12
 l:p.2.length≤400
 t:∀t∈p.2,aY t.2.2≤1331∧0≤t.2.2
 s:∃i j q,(i,j,q)∈p.2∧i≠j∧0<q∧i<p.1∧j<p.1
theorem QOk.apK {p:Nat×List Dw} (h:QOk p):cM (qW p)≠0:=by
 obtain⟨i,j,q,h1,h2,h3,h4,h5⟩:=h.s
 exact UI (fun t ht=>(h.t t ht).2) h1 h2 h3 h4 h5
theorem QOk.rows {p:Nat×List Dw} (h:QOk p):∀r∈qW p,r.length=p.1∧∀q∈r,aY q≤600000:=fun r hr=>by
 obtain⟨h1,h2⟩:=Uz (Q:=1331) (fun t ht=>(h.t t ht).1) r hr
 have h3:p.2.length*(1331+1)≤400*(1331+1):=Nat.mul_le_mul_right _ h.l
 exact⟨h1,fun q hq=>by have:=h2 q hq;omega⟩
theorem Bn {p:Nat×List Dw}:(qW p).length=p.1:=GK ..
theorem HO {x:ByteArray} {q:Rat} (h:pJ x=some q):aY q≤665∧0<q:=⟨aeY (Ic h).1,(Ic h).2⟩
theorem oY {x:ByteArray} {q:Rat} (h:pJ x=some q):aY q≤1331∧0≤q:=⟨by have:=(HO h).1;omega,Rat.le_of_lt (HO h).2⟩
def oD (x y f m:Rat) (lU:Nat):Nat→List Dw
 | 0=>[]
 | n+1=>oD x y f m lU n++[(2*n,2*min (n+1) lU,x),(2*n+1,2*min (n+1) lU+1,x),(2*n,2*(n-1),y),(2*n,2*n+1,f),(2*n+1,2*n,m)]
def jR (a s f m:ByteArray) (lU:Int):Option (Nat×List Dw):=match pJ a,pJ s,pJ f,pJ m with
 | some x,some y,some z,some w=>if 1≤lU∧lU≤5 then some (2*lU.toNat+2,oD x y z w lU.toNat (lU.toNat+1)) else none
 | _,_,_,_=>none
theorem K6 {P:Dw→Prop} {x y f m:Rat} {lU:Nat} (h:∀n,P (2*n,2*min (n+1) lU,x)∧P (2*n+1,2*min (n+1) lU+1,x)∧P (2*n,2*(n-1),y)∧P (2*n,2*n+1,f)∧P (2*n+1,2*n,m)):∀n,∀t∈oD x y f m lU n,P t
 | 0,t,ht=>by cases ht
 |
  n+1,t,ht=>by
  rcases List.mem_append.1 ht with ht | ht
  ·exact K6 h n t ht
  ·simp only[List.mem_cons,List.not_mem_nil,or_false] at ht
   obtain⟨h1,h2,h3,h4,h5⟩:=h n
   rcases ht with rfl | rfl | rfl | rfl | rfl<;>assumption
theorem Bm {x y f m:Rat} {lU:Nat}:∀n,(oD x y f m lU n).length=5*n
 | 0=>rfl
 | n+1=>by rw[oD,List.length_append,Bm n];simp;omega
theorem K1 {x y f m:Rat} {lU:Nat}:∀n,1≤n→(0,1,f)∈oD x y f m lU n
 |
  n+1,_=>by
  by_cases hn:n=0
  ·subst hn
   rw[oD]
   simp
  ·rw[oD]
   exact List.mem_append_left _ (K1 n (by omega))
theorem A6 {a s f m:ByteArray} {lU:Int} {p:Nat×List Dw} (h:jR a s f m lU=some p):QOk p:=by
 unfold jR at h
 split at h
 ·rename_i x y z w hx hy hz hw
  split at h
  ·rename_i hc
   cases h
   exact⟨by simp only[];omega,by simp only[];rw[Bm];omega,K6 (P:=fun t=>aY t.2.2≤1331∧0≤t.2.2) (fun n=>⟨oY hx,oY hx,oY hy,oY hz,oY hw⟩) _,0,1,z,K1 _ (by omega),by decide,(HO hz).2,by simp only[];omega,by simp only[];omega⟩
  ·cases h
 ·cases h
end Go.PM
namespace Go.PM
theorem Ln (q:Rat):(aB (aQ q)).all bO=true:=rfl
def agL (F:Nat→Nat→Rat) (i j:Nat) (y:Rat) (a b:Nat):Rat:=if a=i∧b=j then y else F a b
theorem R2 {F:Nat→Nat→Rat} {i j:Nat} {q:Rat} (h:i≠j):GC F i j q=agL F i j (F i j+q):=by
 funext a b
 unfold GC agL
 by_cases hc:a=i∧b=j
 ·obtain⟨rfl,rfl⟩:=hc
  rw[if_pos ⟨h,rfl,rfl⟩,if_pos ⟨rfl,rfl⟩]
 ·rw[if_neg hc,if_neg fun k=>hc k.2]
def Tb (f:Rat→VV) (lo hi N M b g:Nat) (F:Nat→Nat→Rat) (H:aA):Prop:=∃rs,MG f 3 lo hi b g H rs∧rs.map (·.xs)=M8 N M F
def MY (lo hi:Nat) (H H':aA):Prop:=H'.length=H.length∧∀b g x,b<lo∨hi≤b→aI H b g=some x→aI H' b g=some x
theorem MY.refl {lo hi:Nat} {H:aA}:MY lo hi H H:=⟨rfl,fun _ _ _ _ h=>h⟩
section
variable {f:Rat→VV} {lo hi N M b g:Nat} {F:Nat→Nat→Rat} {H H':aA}
theorem Tb.cJ (h:Tb f lo hi N M b g F H) (hk:dI lo hi H H'):Tb f lo hi N M b g F H':=by
 obtain⟨rs,h1,h2⟩:=h
 exact⟨rs,h1.cJ hk,h2⟩
theorem Tb.pre (h:Tb f lo hi N M b g F H) (hh:H <+: H'):Tb f lo hi N M b g F H':=h.cJ (dI.pre hh)
theorem Tb.congr {G:Nat→Nat→Rat} (h:Tb f lo hi N M b g F H) (hF:∀a c,a<N→c<M→F a c=G a c):Tb f lo hi N M b g G H:=by
 obtain⟨rs,h1,h2⟩:=h
 exact⟨rs,h1,h2.trans (OO hF)⟩
theorem Tb.lt (h:Tb f lo hi N M b g F H):lo≤b∧b<hi∧b<H.length:=by
 obtain⟨rs,h1,_⟩:=h
 exact⟨h1.blo,h1.bhi,gN h1.out⟩
theorem Tb.addr {c i:Nat} (h:Tb f lo hi N M b g F H) (mA:i<N):bJ 1 (.ref b g 0 N c) (VI i) H=some (.ptr b g i 0):=by
 obtain⟨rs,h1,_⟩:=h
 exact h1.addr mA
theorem Tb.len {c:Nat} (h:Tb f lo hi N M b g F H):oF (.ref b g 0 N c) H=some (VI N):=by
 obtain⟨rs,h1,_⟩:=h
 exact h1.len
theorem Tb.rdT {c:Nat} (h:Tb f lo hi N M b g F H):YA f 3 (M8 N M F) H (.ref b g 0 N c):=by
 obtain⟨rs,h1,h2⟩:=h
 have hl:=congrArg List.length h2
 rw[List.length_map,GK] at hl
 rw[←h2]
 exact h1.rdT hl.symm
theorem Tb.fz {d c:Nat} (h:Tb f lo hi N M b g F H) (hc:N≤c) (hp:∀x,aN (f x)=true):PM.fz (d+3) H (.ref b g 0 N c)=some (aS (aS f) (M8 N M F)):=by
 obtain⟨rs,h1,h2⟩:=h
 have hl:=congrArg List.length h2
 rw[List.length_map,GK] at hl
 rw[←h2,←hl]
 exact h1.fz (by omega) hp
theorem TabIs.tb {v:VV} (h:TabIs f 3 (M8 N M F) lo hi H v):∃b g c,v = .ref b g 0 N c∧N≤c∧Tb f lo hi N M b g F H:=by
 obtain⟨b,g,c,rs,h1,h2,h3,h4⟩:=h
 rw[GK] at h1 h2
 exact⟨b,g,c,h1,h2,rs,h3,h4⟩
theorem Tb.spot {i j:Nat} (h:Tb f lo hi N M b g F H) (mA:i<N) (hj:j<M) (hfs:∀x,(aB (f x)).length=3) (hfa:∀x,(aB (f x)).all bO=true) :
  ∃rb rg rc,bT false 1 (.ptr b g i 0) H=some (.ref rb rg 0 M rc)∧bJ 3 (.ref rb rg 0 M rc) (VI j) H=some (.ptr rb rg j 0)∧(∀ag,bT ag 3 (.ptr rb rg j 0) H=dD ag 3 (f (F i j)) 0) ∧
  ∀gP y,gP≤lo→∃H',bR gP 3 (.ptr rb rg j 0) (f y) H=some H'∧MY lo hi H H'∧Tb f lo hi N M b g (agL F i j y) H'∧∀k,bT false 1 (.ptr b g k 0) H'=bT false 1 (.ptr b g k 0) H:=by
 obtain⟨rs,hM,hx⟩:=h
 have hl:=congrArg List.length hx
 rw[List.length_map,GK] at hl
 obtain⟨r,hr⟩:∃r,rs[i]? = some r:=⟨_,List.getElem?_eq_getElem (by omega)⟩
 have Nr:r.xs=vec M (F i):=by
  have h1:(rs.map (·.xs))[i]? = some r.xs:=by rw[List.getElem?_map,hr];rfl
  rw[hx,Vh mA] at h1
  exact(Option.some.inj h1).symm
 have yT:r.xs.length=M:=by rw[Nr,uL]
 have hgj:r.xs[j]? = some (F i j):=by rw[Nr,BE hj]
 refine⟨r.b,r.g,r.c,?_,hM.at hr hj,fun ag=>hM.get hr hgj,fun gP y dK => ?_⟩
 ·have:=hM.cell hr
  rw[yT] at this
  exact this
 ·have h1:=hM.put (j:=j) (gP:=gP) (y:=y) hr (by omega) dK (hfs y) (hfa y)
  have h2:=hM.set (ys:=r.xs.set j y) hr (by rw[List.length_set])
  have CC:=hM.rows.row r (List.mem_of_getElem? hr)
  refine⟨_,h1,⟨by rw[List.length_set],fun b' g' x uJ TU=>cD (by have h7:=CC.1;have h8:=CC.2.1;omega) TU⟩,⟨_,h2,?_⟩,fun k => ?_⟩
  ·have e:(rs.set i { r with xs:=r.xs.set j y }).map (fun r:vN Rat=>r.xs)=(rs.map (fun r:vN Rat=>r.xs)).set i (r.xs.set j y):=List.map_set
   rw[e,hx,Nr,VD,afJ]
   exact OO fun a c _ _=>by unfold agL;by_cases ha:a=i<;>by_cases hc:c=j<;>simp[ha,hc]
  ·rw[bQ,bQ,cD CC.2.2.1 hM.out,hM.out]
end
theorem Q7 {N:Nat}:List.replicate N (List.replicate N (0:Rat))=M8 N N fun _ _=>0:=Yq
end Go.PM
namespace Go.PM
open Go.Lib
end Go.PM
namespace Go.PM
end Go.PM
namespace Go.PM
open Go.Lib
theorem adC (d:Nat) (h:d≤9223372036854775807):TC 219 [VI (d:Int)] (bC (decDigits d)):=by
 have:=MX (d:Int) (by omega) (by omega)
 rw[if_neg (by omega),List.nil_append,Int.natAbs_natCast] at this
 exact this
theorem Zj {n i:Nat} (hi:i+1=(aC 1000000000 n).length):n / 1000000000^i=n / 1000000000^i % 1000000000:=by
 have h1:=Xr (b:=1000000000) (by decide) n (i+1)
 rw[List.drop_of_length_le (by omega)] at h1
 have h2:=(lQ (b:=1000000000) (by decide)).1 h1.symm
 rw[sF] at h2
 rcases Nat.div_eq_zero_iff.1 h2 with h | h
 ·exact absurd h (by decide)
 ·exact(Nat.mod_eq_of_lt h).symm
theorem I6 (l:List UInt8) (a b:Nat):(⟨l.toArray⟩:ByteArray).extract a b=⟨((l.drop a).take (b-a)).toArray⟩:=by
 rw[ByteArray.ext_iff,ByteArray.data_extract]
 simp[List.extract_toArray,List.extract_eq_take_drop]
theorem Zy (l:List UInt8) {a b:Nat} (h:a≤b) (hb:b≤l.length):uU (bC l) (some (VI (a:Int))) (some (VI (b:Int)))=some (bC ((l.drop a).take (b-a))):=by
 have hs:(⟨l.toArray⟩:ByteArray).size=l.length:=by simp[ByteArray.size]
 have e1:(0:Int)≤b∧(b:Int)≤(l.length:Int):=by omega
 have e2:(0:Int)≤a∧(a:Int)≤(b:Int):=by omega
 simp only[uU,FG,zA,hs,eR,e1,e2,and_self,if_true,Int.toNat_natCast,I6]
theorem N7 (l:List UInt8) {a:Nat} (h:a≤l.length):uU (bC l) (some (VI (a:Int))) none=some (bC (l.drop a)):=by
 have hs:(⟨l.toArray⟩:ByteArray).size=l.length:=by simp[ByteArray.size]
 have e2:(0:Int)≤a∧(a:Int)≤(l.length:Int):=by omega
 simp only[uU,FG,zA,hs,eR,e2,and_self,if_true,Int.toNat_natCast,I6]
 rw[List.take_of_length_le (by simp)]
theorem arW (l:List UInt8) (h:1≤l.length):uU (bC l) (some (VI 1)) none=some (bC (l.drop 1)):=N7 l h
theorem Yu {a:Nat} (h:a<1000000000):IntKind.i64.wrap ((a:Int)+1000000000)=((a+1000000000:Nat):Int):=wrapN _ (by omega) (by omega)
theorem nU (n:Nat) (hn:bl n≤2199023255552):TC 208 [bY n] (bC (decDigits n)):=by
 refine TC.walk ⟨true,false⟩ Hi rfl (Nat.le_of_ble_eq_true rfl) (by simp[aM,cG]) rfl ?_
 by_cases h0:n=0
 ·subst h0
  have hl:(((aC 1000000000 0).length:Nat):Int)=0:=by rw[cC];rfl
  simp only[vB,sI,cL,hl,VX,Nat.reduceEqDiff,Nat.reduceAdd]
  rw[iK (by decide)]
  exact aF rfl
 have hl:¬(((aC 1000000000 n).length:Nat):Int)=0:=by have:=(qG (n:=n)).2 h0;omega
 obtain⟨L,hL⟩:∃L,(aC 1000000000 n).length=L+1:=⟨(aC 1000000000 n).length-1,by omega⟩
 have De:=oP (n:=n) (by omega)
 have hlT:=ajC n
 have hdl:=AL n
 have w1:IntKind.i64.wrap (((L+1:Nat):Int)-1)=(L:Int):=wrapN _ (by omega) (by omega)
 have w2:IntKind.i64.wrap (((L+1:Nat):Int)-2)=(L:Int)-1:=by rw[wrap64 (by omega) (by omega)];omega
 have at':∀i,i≤L→bJ 1 (bY n) (VI (i:Int)) []=some (.cT (tV (n / 1000000000^i % 1000000000)) 0):=fun i hi=>aK (f:=tV) (t := .op) (H:=[]) (size:=1) (k := .i64) (MF (b:=1000000000) (by decide) (n:=n) (i:=i) (by omega)) rfl
 have eL:=at' L (Nat.le_refl _)
 have ZM:=Zj (n:=n) (i:=L) (by omega)
 rw[←ZM] at eL
 have Qm:n / 1000000000^L≠0:=(DK (b:=1000000000) (by decide)).1 (by omega)
 have hqT:n / 1000000000^L<1000000000:=by rw[ZM];exact Nat.mod_lt _ (by decide)
 have c1:=adC (n / 1000000000^L) (by omega)
 rw[hL] at hl
 simp only[vB,sI,cL,hL,hl,w1,w2,eL,c1,VX,Nat.reduceEqDiff,Nat.reduceAdd]
 refine aT (fun(j:Nat) ρ H=>j≤L∧H=[]∧ρ 0=bY n∧ρ 3=bC (decDigits (n / 1000000000^j))∧ρ 4=VI ((j:Int)-1)) (fun j=>j) L ⟨Nat.le_refl _,rfl,rfl,rfl,rfl⟩ ?_
 rintro j ρ H ⟨hj,rfl,g0,g3,g4⟩
 by_cases hz:(0:Int)≤(j:Int)-1
 ·obtain⟨i,rfl⟩:∃i,j=i+1:=⟨j-1,by omega⟩
  have IA:((i+1:Nat):Int)-1=(i:Int):=by omega
  rw[IA] at g4 hz
  have e1:=at' i (by omega)
  have hm:=Nat.mod_lt (n / 1000000000^i) (show 0<1000000000 by decide)
  have hq1:n / 1000000000^(i+1)≠0:=(DK (b:=1000000000) (by decide)).1 (by omega)
  have hdm:=Nat.mod_add_div (n / 1000000000^i) 1000000000
  rw[←sF] at hdm
  have hch:=H9 (Nat.pos_of_ne_zero hq1) hm
  have hle:n / 1000000000^i≤n:=Nat.div_le_self _ _
  have hdi:=AL (n / 1000000000^i)
  have hbi:=kB hle
  rw[show n / 1000000000^(i+1)*1000000000+n / 1000000000^i % 1000000000=n / 1000000000^i by omega] at hch
  generalize hAA:n / 1000000000^i=A at *
  generalize n / 1000000000^(i+1)=B at *
  have w4:IntKind.i64.wrap ((i:Int)-1)=(i:Int)-1:=wrap64 (by omega) (by omega)
  have c2:=adC (A % 1000000000+1000000000) (by omega)
  rw[agC hm] at c2
  have e2:=arW (d10 1::Cr 9 (A % 1000000000)) (by simp)
  rw[List.drop_succ_cons,List.drop_zero] at e2
  have hlen:=congrArg List.length hch
  rw[List.length_append] at hlen
  have a1:=qO (decDigits B) (Cr 9 (A % 1000000000)) (by omega)
  rw[←hch] at a1
  have auY:i≤L:=by omega
  have hmu:i<i+1:=by omega
  have w3:=Yu hm
  simp only[qZ,g0,g3,g4,hz,e1,w3,w4,c2,e2,a1,VX,Nat.reduceEqDiff,Nat.reduceAdd]
  refine⟨i,hmu,auY,?_⟩
  rw[hAA]
  exact⟨rfl,rfl⟩
 ·have Th:j=0:=by omega
  subst Th
  rw[Nat.pow_zero,Nat.div_one] at g3
  simp only[qZ,g0,g3,g4,hz,VX,Nat.reduceEqDiff,Nat.reduceAdd]
  exact aF rfl
theorem La (q:Rat) (hk:aY q≤1099511627776):TC 188 [bB q] (VB (wA q)):=by
 refine TC.walk ⟨true,false⟩ Ld rfl (Nat.le_of_ble_eq_true rfl) (by simp[aM,jK]) rfl ?_
 have la:=tI hk
 have lb:=tZ hk
 have t1:=nU q.num.natAbs (by omega)
 have t2:=nU q.den (by omega)
 have hf:wA q=(decide (((decDigits q.num.natAbs).length:Int)≤200)&&decide (((decDigits q.den).length:Int)≤200)):=by
  unfold wA
  congr 1<;>exact decide_eq_decide.2 (by omega)
 rw[hf]
 by_cases hl:((decDigits q.num.natAbs).length:Int)≤200
 ·simp only[BN,yA,t1,t2,hl,bN,cA,fM,gD,fW,aL,iS,Nat.reduceLeDiff,Nat.reduceLT,Nat.reduceSub,VX,Nat.reduceEqDiff,Nat.reduceAdd]
  exact aF rfl
 ·simp only[BN,yA,t1,t2,hl,bN,cA,fM,gD,fW,aL,iS,Nat.reduceLeDiff,Nat.reduceLT,Nat.reduceSub,VX,Nat.reduceEqDiff,Nat.reduceAdd]
  exact aF rfl
theorem MI (q:Rat) (hk:aY q≤1099511627776):TC 189 [bB q] (bC (Ez q)):=by
 refine TC.walk ⟨true,false⟩ Me rfl (Nat.le_of_ble_eq_true rfl) (by simp[aM,jK]) rfl ?_
 have la:=tI hk
 have lb:=tZ hk
 have t1:=nU q.num.natAbs (by omega)
 have t2:=nU q.den (by omega)
 have d1:=AL q.num.natAbs
 have d2:=AL q.den
 have c1:∀lo H K,_:=fun lo H K=>Km (n:=q.den) (lo:=lo) (H:=H) (K:=K) (Nat.le_of_lt (oP (by omega)))
 have a1:dJ .add (.string ⟨#[45]⟩) (.string ⟨(decDigits q.num.natAbs).toArray⟩)=some (.string ⟨(45::decDigits q.num.natAbs).toArray⟩):=qO [45] _ (by simp only[List.length_cons,List.length_nil];omega)
 have a2:dJ .add (.string ⟨#[47]⟩) (.string ⟨(decDigits q.den).toArray⟩)=some (.string ⟨(47::decDigits q.den).toArray⟩):=qO [47] (decDigits q.den) (by simp only[List.length_cons,List.length_nil];omega)
 have a3:=qO (45::decDigits q.num.natAbs) (47::decDigits q.den) (by simp only[List.length_cons];omega)
 have a4:=qO (decDigits q.num.natAbs) (47::decDigits q.den) (by simp only[List.length_cons];omega)
 have hs:Ez q=(if q.num<0 then (45::decDigits q.num.natAbs) else decDigits q.num.natAbs)++(if q.den=1 then [] else 47::decDigits q.den):=by
  unfold Ez
  by_cases hn:q.num<0
  ·rw[if_pos hn,if_pos hn];rfl
  ·rw[if_neg hn,if_neg hn];rfl
 rw[hs]
 by_cases hd:eW q.den 1=0
 ·rw[if_pos (AY.1 hd),List.append_nil]
  by_cases hn:q.num<0
  all_goals
   simp only[BH,yB,t1,t2,a1,a2,a3,a4,c1,hd,hn,dU,cA,fM,gD,fW,aL,iS,Nat.reduceLeDiff,Nat.reduceLT,Nat.reduceSub,VX,Nat.reduceEqDiff,Nat.reduceAdd]
   exact aF rfl
 ·rw[if_neg (mt AY.2 hd)]
  by_cases hn:q.num<0
  all_goals
   simp only[BH,yB,t1,t2,a1,a2,a3,a4,c1,hd,hn,dU,cA,fM,gD,fW,aL,iS,Nat.reduceLeDiff,Nat.reduceLT,Nat.reduceSub,VX,Nat.reduceEqDiff,Nat.reduceAdd]
   exact aF rfl
theorem LB (q:Rat) (hk:aY q≤1099511627776):TC 171 [bB q] (Qz q):=by
 refine TC.walk ⟨true,false⟩ L8 rfl (Nat.le_of_ble_eq_true rfl) (by simp[aM,jK]) (Yi q) ?_
 have t1:=La q hk
 have t2:=MI q hk
 unfold Qz
 by_cases h:wA q=true
 ·rw[h] at t1
  rw[if_pos h]
  simp only[BI,xA,t1,t2,cA,fF,mI,aL,iS,Nat.reduceLeDiff,Nat.reduceLT,Nat.reduceSub,VX,Nat.reduceEqDiff,Nat.reduceAdd]
  exact aF rfl
 ·have h':wA q=false:=by simpa using h
  rw[h'] at t1
  rw[if_neg h]
  simp only[BI,xA,t1,cA,fF,mI,aL,iS,Nat.reduceLeDiff,Nat.reduceLT,Nat.reduceSub,VX,Nat.reduceEqDiff,Nat.reduceAdd]
  exact aF rfl
end Go.PM
namespace Go.PM
open Go.Lib
def gV (c:UInt8):List UInt8→List (List UInt8)
 | []=>[[]]
 |
  x::r=>if x=c then []::gV c r else match gV c r with
  | []=>[[x]]
  | a::t=>(x::a)::t
theorem Mc {c:UInt8} {r:List UInt8}:∀ {a:List UInt8},c∉a→gV c (a++c::r)=a::gV c r:=by
 intro a
 induction a with
 | nil=>intro _;rw[List.nil_append,gV,if_pos rfl]
 |
  cons x a ih =>
  intro h
  rw[List.mem_cons,not_or] at h
  rw[List.cons_append,gV,if_neg (fun he=>h.1 he.symm),ih h.2]
theorem FM {c:UInt8}:∀ {a:List UInt8},c∉a→gV c a=[a]:=by
 intro a
 induction a with
 | nil=>intro _;rfl
 |
  cons x a ih =>
  intro h
  rw[List.mem_cons,not_or] at h
  rw[gV,if_neg (fun he=>h.1 he.symm),ih h.2]
theorem TT {c:UInt8} (l:List UInt8):gV c l≠[]:=by
 cases l with
 | nil=>simp[gV]
 |
  cons x r =>
  rw[gV]
  split
  ·simp
  ·split<;>simp
theorem SX {c:UInt8} {l:List UInt8} (h:(lW c l).2=none):gV c l=[l]:=FM (Ax h).2.2
theorem Jc {c:UInt8} {l r:List UInt8} (h:(lW c l).2=some r):gV c l=(lW c l).1::gV c r:=by
 obtain⟨_,h2,h3⟩:=HV h
 have:=Mc (r:=r) h3
 rw[←h2] at this
 exact this
theorem St {c:UInt8} {l:List UInt8} (h:c∈l):2≤(gV c l).length:=by
 cases hc:(lW c l).2 with
 | none=>exact absurd h (Ax hc).2.2
 |
  some r =>
  rw[Jc hc,List.length_cons]
  have:=List.length_pos_iff.2 (TT (c:=c) r)
  omega
theorem Xm {l:List UInt8} {i:Nat} (h:i<l.length):(l.take (i+1)).all iG=((l.take i).all iG&&iG (l.getD i 0)):=by
 rw[List.take_add_one,List.all_append]
 have:l[i]? = some (l.getD i 0):=by rw[List.getElem?_eq_getElem h,List.getD_eq_getElem?_getD,List.getElem?_eq_getElem h];rfl
 rw[this]
 simp
set_option maxHeartbeats 1000000 in
theorem oU (l:List UInt8) (hl:l.length≤1000000000000):TC 168 [bC l] (VB (iA l)):=by
 refine TC.walk ⟨true,false⟩ HE rfl (Nat.le_of_ble_eq_true rfl) rfl rfl ?_
 simp only[Dj,A2,VX,Nat.reduceEqDiff,Nat.reduceAdd]
 refine aT (fun(i:Nat) ρ H=>i≤l.length∧H=[]∧(l.take i).all iG=true∧ρ 0=bC l∧ρ 3=VI i) (fun i=>l.length-i) 0 ⟨Nat.zero_le _,rfl,rfl,rfl,rfl⟩ ?_
 rintro i ρ H ⟨hi,rfl,hd,g0,g3⟩
 by_cases dA:(i:Int)<(l.length:Int)
 ·have UF:i<l.length:=by omega
  have e1:=Dq l UF
  have wi:IntKind.i64.wrap ((i:Int)+1)=((i+1:Nat):Int):=wrapN (i+1) (by omega) (by omega)
  have ht:=Xm UF
  rw[hd,Bool.true_and] at ht
  have UN:iG (l.getD i 0)=(decide (48≤(l.getD i 0).toNat)&&decide ((l.getD i 0).toNat≤57)):=rfl
  have lE:iG (l.getD i 0)=false→iA l=false:=by
   intro h
   rw[h] at ht
   have:l.all iG=false:=by rw[←List.take_append_drop (i+1) l,List.all_append,ht,Bool.false_and]
   unfold iA
   rw[this]
   rfl
  generalize (l.getD i 0).toNat=c at *
  by_cases q1:(c:Int)<48
  ·rw[lE (by rw[UN,decide_eq_false (by omega)];rfl)]
   simp only[dR,g0,g3,bN,dA,e1,q1,VX,Nat.reduceEqDiff,Nat.reduceAdd]
   exact aF rfl
  ·by_cases q2:(57:Int)<(c:Int)
   ·rw[lE (by rw[UN,decide_eq_false (show ¬c≤57 by omega),Bool.and_false])]
    simp only[dR,g0,g3,bN,dA,e1,q1,q2,VX,Nat.reduceEqDiff,Nat.reduceAdd]
    exact aF rfl
   ·rw[UN,decide_eq_true (by omega),decide_eq_true (by omega),Bool.and_self] at ht
    simp only[dR,g0,g3,bN,dA,e1,q1,q2,wi,VX,Nat.reduceEqDiff,Nat.reduceAdd]
    exact⟨i+1,by omega,by omega,ht,rfl⟩
 ·have nZ:i=l.length:=by omega
  subst nZ
  rw[List.take_length] at hd
  by_cases h1:(1:Int)≤(l.length:Int)
  ·by_cases h2:(l.length:Int)≤200
   ·by_cases h3:(l.length:Int)=1
    ·rw[jL.2 ⟨hd,by omega,by omega,.inl (by omega)⟩]
     simp only[dR,g0,g3,bN,dA,ge_iff_le,h1,h2,h3,Int.reduceLE,Int.reduceLT,VX,Nat.reduceEqDiff,Nat.reduceAdd]
     exact aF rfl
    ·have e1:=HD l (by omega)
     by_cases h4:(((l.getD 0 0).toNat:Int)=48)
     ·have hk:iA l=false:=by
       cases h:iA l with
       | false=>rfl
       |
        true =>
        rcases(jL.1 h).2.2.2 with h5 | h5
        ·omega
        ·exact absurd (UInt8.toNat_inj.1 (by rw[show (48:UInt8).toNat=48 from rfl];omega)) h5
      rw[hk]
      simp only[dR,g0,g3,bN,dA,ge_iff_le,h1,h2,h3,h4,e1,VX,Nat.reduceEqDiff,Nat.reduceAdd]
      exact aF rfl
     ·have h5:l.getD 0 0≠48:=fun h=>h4 (by rw[h];rfl)
      rw[jL.2 ⟨hd,by omega,by omega,.inr h5⟩]
      simp only[dR,g0,g3,bN,dA,ge_iff_le,h1,h2,h3,h4,e1,VX,Nat.reduceEqDiff,Nat.reduceAdd]
      exact aF rfl
   ·have hk:iA l=false:=by
     cases h:iA l with
     | false=>rfl
     | true=>have:=(jL.1 h).2.2.1;omega
    rw[hk]
    simp only[dR,g0,g3,bN,dA,ge_iff_le,h1,h2,VX,Nat.reduceEqDiff,Nat.reduceAdd]
    exact aF rfl
  ·have hk:iA l=false:=by
    cases h:iA l with
    | false=>rfl
    | true=>have:=(jL.1 h).2.1;omega
   rw[hk]
   simp only[dR,g0,g3,bN,dA,ge_iff_le,h1,VX,Nat.reduceEqDiff,Nat.reduceAdd]
   exact aF rfl
set_option maxHeartbeats 1000000 in
theorem EF (l:List UInt8) (c:UInt8) (hl:l.length≤1000000000000):TC 167 [bC l,.sc (.int .u8 (c.toNat:Int))] (aS bC (gV c l)):=by
 refine TC.walk ⟨true,false⟩ Na rfl (Nat.le_of_ble_eq_true rfl) rfl (xZ (size:=1) (fun _=>rfl) (fun _=>rfl) fun _=>rfl) ?_
 have e3:∀lr,jE lr [.string ⟨#[]⟩] 0 [] []=some (.ref 0 0 0 0 0,[.row 0 (([]:List (List UInt8)).map bC) 1 true]):=fun lr=>iH (H:=[]) (lr:=lr) (z:=[.string ⟨#[]⟩]) rfl
 have e4:∀(x:List UInt8) (H:aA),jE false [.string ⟨#[]⟩] 1 [(0,bC x)] H=some (.tree [bC x] (.cl 1),H):=fun x H=>fZ (z:=[.string ⟨#[]⟩]) rfl rfl rfl
 have e5:∀(x:List UInt8) (H:aA),cU 1 (.tree [bC x] (.cl 1)) H=some [bC x]:=fun x H=>dP rfl rfl
 simp only[IU,EW,e3,VX,Nat.reduceEqDiff,Nat.reduceAdd]
 refine aT (fun(s:List (List UInt8)×Nat×Nat) ρ H=>H=[.row s.1.length (s.1.map bC) 1 true]∧s.2.1≤s.2.2∧s.2.2≤l.length+1∧s.1.length≤s.2.1 ∧
  ((s.2.2≤l.length∧gV c l=s.1++gV c (l.drop s.2.1)∧c∉(l.drop s.2.1).take (s.2.2-s.2.1))∨(s.2.2=l.length+1∧gV c l=s.1)) ∧
  ρ 0=bC l∧ρ 1 = .sc (.int .u8 (c.toNat:Int))∧ρ 5 = .ref 0 s.1.length 0 s.1.length s.1.length∧ρ 6=VI s.2.1∧ρ 7=VI s.2.2) (fun s=>l.length+1-s.2.2) ([],0,0) ⟨rfl,Nat.zero_le _,Nat.zero_le _,Nat.zero_le _,.inl ⟨Nat.zero_le _,rfl,by simp⟩,rfl,rfl,rfl,rfl,rfl⟩ ?_
 rintro⟨out,fr,i⟩ ρ H ⟨rfl,hfi,hi,jJ,Fg,g0,g1,g5,g6,g7⟩
 simp only at hfi hi jJ Fg g5 g6 g7
 by_cases dA:(i:Int)≤(l.length:Int)
 ·have UF:i≤l.length:=by omega
  obtain⟨hp,hc⟩:gV c l=out++gV c (l.drop fr)∧c∉(l.drop fr).take (i-fr):=by
   rcases Fg with⟨_,h1,h2⟩ | ⟨h,_⟩
   ·exact⟨h1,h2⟩
   ·omega
  have wi:IntKind.i64.wrap ((i:Int)+1)=((i+1:Nat):Int):=wrapN (i+1) (by omega) (by omega)
  have e2:=Zy l hfi UF
  have eP:=iE (f:=bC) (xs:=out) (x:=(l.drop fr).take (i-fr)) (lo:=0) (b:=0) (g:=out.length) (n:=out.length) (e:=1) (bytes:=16) (H:=[.row out.length (out.map bC) 1 true]) bA rfl (Nat.zero_le _) (by decide) (by decide) (by omega)
  have Iy:([.row out.length (out.map bC) 1 true]:aA).set 0 (.row (out.length+1) ((out++[(l.drop fr).take (i-fr)]).map bC) 1 true)=[.row (out.length+1) ((out++[(l.drop fr).take (i-fr)]).map bC) 1 true]:=rfl
  rw[Iy] at eP
  by_cases q1:i=l.length
  ·subst q1
   have aaG:gV c l=out++[(l.drop fr).take (l.length-fr)]:=by
    rw[hp]
    have:(l.drop fr).take (l.length-fr)=l.drop fr:=List.take_of_length_le (by rw[List.length_drop];omega)
    rw[this] at hc ⊢
    rw[FM hc]
   simp only[oM,g0,g1,g5,g6,g7,bN,dA,eq_self,e2,e4,e5,eP,wi,VX,Nat.reduceEqDiff,Nat.reduceAdd]
   refine⟨(out++[(l.drop fr).take (l.length-fr)],l.length+1,l.length+1),by simp only;omega,?_,by simp only;omega,by simp only;omega,?_,.inr ⟨rfl,aaG⟩,?_⟩
   ·simp
   ·simp only[List.length_append,List.length_cons,List.length_nil];omega
   ·simp
  ·have agM:i<l.length:=by omega
   have q1':¬(i:Int)=(l.length:Int):=by omega
   have e1:=Dq l agM
   have hgd:l.drop i=l.getD i 0::l.drop (i+1):=by rw[List.drop_eq_getElem_cons agM,List.getD_eq_getElem?_getD,List.getElem?_eq_getElem agM];rfl
   by_cases q2:l.getD i 0=c
   ·have q2':((l.getD i 0).toNat:Int)=(c.toNat:Int):=by rw[q2]
    have aaG:gV c l=(out++[(l.drop fr).take (i-fr)])++gV c (l.drop (i+1)):=by
     have TB:l.drop fr=(l.drop fr).take (i-fr)++c::l.drop (i+1):=by
      have h1:(l.drop fr).drop (i-fr)=l.drop i:=by rw[List.drop_drop];congr 1;omega
      conv=>lhs;rw[←List.take_append_drop (i-fr) (l.drop fr),h1,hgd,q2]
     rw[hp]
     conv=>lhs;rw[TB]
     rw[Mc hc,List.append_assoc]
     rfl
    simp only[oM,g0,g1,g5,g6,g7,bN,dA,q1',e1,q2',eq_self,e2,e4,e5,eP,wi,VX,Nat.reduceEqDiff,Nat.reduceAdd]
    refine⟨(out++[(l.drop fr).take (i-fr)],i+1,i+1),by simp only;omega,?_,by simp only;omega,by simp only;omega,?_,.inl ⟨by simp only;omega,aaG,by simp⟩,?_⟩
    ·simp
    ·simp only[List.length_append,List.length_cons,List.length_nil];omega
    ·simp
   ·have q2':¬((l.getD i 0).toNat:Int)=(c.toNat:Int):=fun h=>q2 (UInt8.toNat_inj.1 (by omega))
    simp only[oM,g0,g1,g5,g6,g7,bN,dA,q1',e1,q2',wi,VX,Nat.reduceEqDiff,Nat.reduceAdd]
    refine⟨(out,fr,i+1),by simp only;omega,rfl,by simp only;omega,by simp only;omega,jJ,.inl ⟨by simp only;omega,hp,?_⟩,rfl,rfl,rfl⟩
    simp only
    rw[show i+1-fr=(i-fr)+1 by omega,List.take_add_one,List.mem_append,not_or]
    refine⟨hc,?_⟩
    have:(l.drop fr)[i-fr]? = some (l.getD i 0):=by
     rw[List.getElem?_drop,show fr+(i-fr)=i by omega,List.getD_eq_getElem?_getD,List.getElem?_eq_getElem agM]
     rfl
    rw[this]
    simp
    exact fun h=>q2 h.symm
 ·have aaG:gV c l=out:=by
   rcases Fg with⟨h,_⟩ | ⟨_,h⟩
   ·omega
   ·exact h
  rw[aaG]
  simp only[oM,g0,g5,g7,bN,dA,VX,Nat.reduceEqDiff,Nat.reduceAdd]
  exact Li (es:=out.map bC) bA (by simp) (Nat.le_refl _) (gQ fun _=>rfl)
theorem aaS {l:List UInt8} (h:l.all iG=true) {i:Nat} (hi:i<l.length):48≤(l.getD i 0).toNat∧(l.getD i 0).toNat≤57:=by
 have:=List.all_eq_true.1 h (l.getD i 0) (by rw[List.getD_eq_getElem?_getD,List.getElem?_eq_getElem hi];exact List.getElem_mem hi)
 simpa[iG] using this
theorem LW {l:List UInt8} (hd:l.all iG=true) (hl:l.length≤1000000000000) {fr tq:Nat} (hft:fr≤tq) (h9:tq-fr≤9) (htl:tq≤l.length) {H:aA} {lo:Nat} {ρ:dQ} {Q:VQ} (h0:ρ 0=bC l) (h4:ρ 4=VI tq) (h6:ρ 6=VI 0) (h7:ρ 7=VI fr)
  (hQ:∀bK,(∀t,t<6→bK t=ρ t)→bK 6=VI (bU ((l.drop fr).take (tq-fr)))→Q .normal bK H):VW ⟨true,false⟩ lo (.loop mH) (Ab 2 Q) ρ H:=by
 refine aT (fun(i:Nat) bK H'=>fr≤i∧i≤tq∧H'=H∧(∀t,t<6→bK t=ρ t)∧bK 6=VI (bU ((l.drop fr).take (i-fr)))∧bK 7=VI i) (fun i=>tq-i) fr ⟨Nat.le_refl _,hft,rfl,fun _ _=>rfl,by rw[h6,Nat.sub_self];rfl,h7⟩ ?_
 rintro i bK H' ⟨hfi,hi,rfl,hk,g6,g7⟩
 have g0:=(hk 0 (by decide)).trans h0
 have g4:=(hk 4 (by decide)).trans h4
 by_cases dA:(i:Int)<(tq:Int)
 ·have UF:i<l.length:=by omega
  have e1:=Dq l UF
  obtain⟨c1,c2⟩:=aaS hd UF
  have wi:IntKind.i64.wrap ((i:Int)+1)=((i+1:Nat):Int):=wrapN (i+1) (by omega) (by omega)
  have hcd:((l.drop fr).take (i-fr)).all iG=true:=by
   rw[List.all_eq_true] at hd ⊢
   exact fun x hx=>hd x (List.mem_of_mem_drop (List.mem_of_mem_take hx))
  have bI:=Ha hcd
  rw[List.length_take,List.length_drop,Nat.min_eq_left (by omega)] at bI
  have hp9:10^(i-fr)≤10^8:=Nat.pow_le_pow_right (by decide) (by omega)
  have e8:(10:Nat)^8=100000000:=by decide
  have sE:bU ((l.drop fr).take (i+1-fr))=bU ((l.drop fr).take (i-fr))*10+dv (l.getD i 0):=by
   have:(l.drop fr)[i-fr]? = some (l.getD i 0):=by
    rw[List.getElem?_drop,show fr+(i-fr)=i by omega,List.getD_eq_getElem?_getD,List.getElem?_eq_getElem UF]
    rfl
   rw[show i+1-fr=(i-fr)+1 by omega,List.take_add_one,this]
   exact Xy _ _
  have hdv:dv (l.getD i 0)=(l.getD i 0).toNat-48:=rfl
  rw[hdv] at sE
  generalize (l.getD i 0).toNat=c at *
  generalize bU ((l.drop fr).take (i-fr))=D at *
  have w1:IntKind.i64.wrap (10*(D:Int))=((10*D:Nat):Int):=wrapN _ (by omega) (by omega)
  have w2:IntKind.u8.wrap ((c:Int)-48)=((c-48:Nat):Int):=by
   simp[IntKind.wrap,IntKind.bits,IntKind.signed]
   omega
  have w3:IntKind.i64.wrap ((c-48:Nat):Int)=((c-48:Nat):Int):=wrapN _ rfl (by omega)
  have w4:IntKind.i64.wrap (((10*D:Nat):Int)+((c-48:Nat):Int))=((D*10+(c-48):Nat):Int):=wrapN _ (by omega) (by omega)
  simp only[mH,g0,g4,g6,g7,dA,e1,w1,w2,w3,w4,wi,VX,Nat.reduceEqDiff,Nat.reduceAdd]
  refine⟨i+1,by omega,by omega,by omega,fun t ht => ?_,by rw[sE],rfl⟩
  try simp only[uW]
  repeat rw[if_neg (by omega)]
  exact hk t ht
 ·have nZ:i=tq:=by omega
  subst nZ
  simp only[mH,g4,g7,dA,VX,Nat.reduceEqDiff,Nat.reduceAdd]
  refine hQ _ (fun t ht => ?_) ?_
  ·try simp only[uW]
   repeat rw[if_neg (by omega)]
   exact hk t ht
  ·simp only[g6,VX,Nat.reduceEqDiff,Nat.reduceAdd]
set_option maxHeartbeats 1000000 in
theorem rZ (l:List UInt8) (hd:l.all iG=true) (hl:l.length≤1000000000):TC 169 [bC l] (bY (bU l)):=by
 refine TC.walk ⟨true,false⟩ Hf rfl (Nat.le_of_ble_eq_true rfl) rfl (nA _) ?_
 have e3:∀lr,jE lr [.int .i64 0] 0 [] []=some (.ref 0 0 0 0 0,[.row 0 (([]:List Nat).map tV) 1 true]):=fun lr=>iH (H:=[]) (lr:=lr) (z:=[.int .i64 0]) rfl
 have e4:∀(x:Nat) (H:aA),jE false [.int .i64 0] 1 [(0,tV x)] H=some (.tree [tV x] (.cl 1),H):=fun x H=>fZ (z:=[.int .i64 0]) rfl rfl rfl
 have e5:∀(x:Nat) (H:aA),cU 1 (.tree [tV x] (.cl 1)) H=some [tV x]:=fun x H=>dP rfl rfl
 simp only[Ce,zE,e3,bN,VX,Nat.reduceEqDiff,Nat.reduceAdd]
 refine aT (fun(s:List Nat×Int) ρ H=>H=[.row s.1.length (s.1.map tV) 1 true]∧s.2≤l.length ∧ -9≤s.2∧s.1.length+s.2.toNat≤l.length∧(∀d∈s.1,d<1000000000)∧bU l=val 1000000000 s.1+1000000000^s.1.length*bU (l.take s.2.toNat) ∧
  ρ 0=bC l∧ρ 3 = .ref 0 s.1.length 0 s.1.length s.1.length∧ρ 4=VI s.2) (fun s=>s.2.toNat) ([],(l.length:Int)) ⟨rfl,Int.le_refl _,by simp only;omega,by simp,by simp,?_,rfl,rfl,rfl⟩ ?_
 ·simp only[Int.toNat_natCast,List.take_length,List.length_nil,Nat.pow_zero,Nat.one_mul,val,Nat.zero_add]
 rintro⟨out,z⟩ ρ H ⟨rfl,hz,hz9,jJ,hds,hv,g0,g3,g4⟩
 simp only at hz hz9 jJ hds hv g3 g4
 by_cases lB:0<z
 ·obtain⟨tq,rfl⟩:∃tq:Nat,z=tq:=⟨z.toNat,by omega⟩
  rw[Int.toNat_natCast] at jJ hv
  have hto:0<tq:=by omega
  have key:∀fr:Nat,fr≤tq→tq-fr≤9→bU (l.take tq)=bU (l.take fr)*10^(tq-fr)+bU ((l.drop fr).take (tq-fr))∧bU ((l.drop fr).take (tq-fr))<1000000000:=by
   intro fr h1 h2
   have hcd:((l.drop fr).take (tq-fr)).all iG=true:=by
    rw[List.all_eq_true] at hd ⊢
    exact fun x hx=>hd x (List.mem_of_mem_drop (List.mem_of_mem_take hx))
   have hlen:((l.drop fr).take (tq-fr)).length=tq-fr:=by rw[List.length_take,List.length_drop];omega
   constructor
   ·have:=List.take_add (l:=l) (i:=fr) (j:=tq-fr)
    rw[show fr+(tq-fr)=tq by omega] at this
    rw[this,K0,hlen]
   ·have:=Ha hcd
    rw[hlen] at this
    exact Nat.lt_of_lt_of_le this (Nat.le_trans (Nat.pow_le_pow_right (by decide) h2) (by decide))
  have eP:=fun X=>iE (f:=tV) (xs:=out) (x:=X) (lo:=0) (b:=0) (g:=out.length) (n:=out.length) (e:=1) (bytes:=8) (H:=[.row out.length (out.map tV) 1 true]) bA rfl (Nat.zero_le _) (by decide) (by decide) (by omega)
  have Iy:∀X,([.row out.length (out.map tV) 1 true]:aA).set 0 (.row (out.length+1) ((out++[X]).map tV) 1 true)=[.row (out.length+1) ((out++[X]).map tV) 1 true]:=fun _=>rfl
  simp only[Iy] at eP
  by_cases h9:(9:Int)<(tq:Int)
  ·obtain⟨k1,k2⟩:=key (tq-9) (by omega) (by omega)
   have wz:IntKind.i64.wrap ((tq:Int)-9)=((tq-9:Nat):Int):=wrapN _ (by omega) (by omega)
   rw[show tq-(tq-9)=9 by omega] at k1 k2
   rw[show (10:Nat)^9=1000000000 by decide] at k1
   simp only[mM,g0,g3,g4,lB,h9,wz,VX,Nat.reduceEqDiff,Nat.reduceAdd]
   refine LW (l:=l) hd (by omega) (fr:=tq-9) (tq:=tq) (by omega) (by omega) (by omega) ?_ ?_ ?_ ?_ fun wT q q6 => ?_
   all_goals first | (simp only[g0,g4,VX,Nat.reduceEqDiff,Nat.reduceAdd];done) | skip
   rw[show tq-(tq-9)=9 by omega] at q6
   have u3:wT 3 = .ref 0 out.length 0 out.length out.length:=by rw[q 3 (by decide)];simp only[g3,VX,Nat.reduceEqDiff,Nat.reduceAdd]
   have u0:wT 0=bC l:=by rw[q 0 (by decide)];simp only[g0,VX,Nat.reduceEqDiff,Nat.reduceAdd]
   have u4:wT 4=VI tq:=by rw[q 4 (by decide)];simp only[g4,VX,Nat.reduceEqDiff,Nat.reduceAdd]
   generalize bU ((l.drop (tq-9)).take 9)=X at *
   have e4:=e4 X
   have e5:=e5 X
   have eP:=eP X
   simp only[u0,u3,u4,q6,e4,e5,eP,wz,VX,Nat.reduceEqDiff,Nat.reduceAdd]
   refine⟨(out++[X],((tq-9:Nat):Int)),by simp only;omega,?_,by simp only;omega,by simp only;omega,?_,?_,?_,?_⟩
   ·simp
   ·simp only[List.length_append,List.length_cons,List.length_nil];omega
   ·intro d hdm
    rcases List.mem_append.1 hdm with h | h
    ·exact hds d h
    ·rw[List.mem_singleton] at h;omega
   ·simp only[Int.toNat_natCast]
    rw[hv,k1,sQ,List.length_append,List.length_singleton,Nat.pow_succ]
    grind
   ·simp
  ·obtain⟨k1,k2⟩:=key 0 (by omega) (by omega)
   rw[List.take_zero,L7,Nat.zero_mul,Nat.zero_add,Nat.sub_zero] at k1
   rw[Nat.sub_zero] at k2
   have wz:IntKind.i64.wrap ((tq:Int)-9)=(tq:Int)-9:=wrap64 (by omega) (by omega)
   simp only[mM,g0,g3,g4,lB,h9,VX,Nat.reduceEqDiff,Nat.reduceAdd]
   refine LW (l:=l) hd (by omega) (fr:=0) (tq:=tq) (by omega) (by omega) (by omega) ?_ ?_ ?_ ?_ fun wT q q6 => ?_
   all_goals first | (simp only[g0,g4,VX,Nat.reduceEqDiff,Nat.reduceAdd];done) | (simp only[VX,Nat.reduceEqDiff,Nat.reduceAdd];rfl) | skip
   rw[Nat.sub_zero] at q6
   have u3:wT 3 = .ref 0 out.length 0 out.length out.length:=by rw[q 3 (by decide)];simp only[g3,VX,Nat.reduceEqDiff,Nat.reduceAdd]
   have u0:wT 0=bC l:=by rw[q 0 (by decide)];simp only[g0,VX,Nat.reduceEqDiff,Nat.reduceAdd]
   have u4:wT 4=VI tq:=by rw[q 4 (by decide)];simp only[g4,VX,Nat.reduceEqDiff,Nat.reduceAdd]
   generalize bU ((l.drop 0).take tq)=X at *
   have e4:=e4 X
   have e5:=e5 X
   have eP:=eP X
   simp only[u0,u3,u4,q6,e4,e5,eP,wz,VX,Nat.reduceEqDiff,Nat.reduceAdd]
   refine⟨(out++[X],(tq:Int)-9),by simp only;omega,?_,by simp only;omega,by simp only;omega,?_,?_,?_,?_⟩
   ·simp
   ·simp only[List.length_append,List.length_cons,List.length_nil];omega
   ·intro d hdm
    rcases List.mem_append.1 hdm with h | h
    ·exact hds d h
    ·rw[List.mem_singleton] at h;omega
   ·simp only
    rw[show ((tq:Int)-9).toNat=0 by omega,List.take_zero,L7,Nat.mul_zero,Nat.add_zero,hv,k1,sQ]
   ·simp
 ·have h0:z.toNat=0:=by omega
  rw[h0,List.take_zero,L7,Nat.mul_zero,Nat.add_zero] at hv
  rw[hv]
  have ct:=TC.aeV (f:=tV) (xs:=out) (size:=1) (e:=1) (w:=true) (H:=[.row out.length (out.map tV) 1 true]) (b:=0) (gn:=out.length) (n:=out.length) (c:=out.length) (sY out hds (by show out.length≤70368744177664;omega)) bA rfl (Nat.le_refl _) FI (fun _=>rfl) rfl rfl
  simp only[mM,g0,g3,g4,lB,ct,VX,Nat.reduceEqDiff,Nat.reduceAdd]
  exact aF (cG _)
end Go.PM
namespace Go.PM
open Go.Lib
def CS (l:List UInt8):VV:=match xI l with
 | some q => .dT [bB q,VB true]
 | none => .dT [Fy,VB false]
theorem Bq (q:Rat):aN (bB q)=true:=by simp[bB,aN,aM,cG,kC]
theorem Og (q:Rat):gJ (bB q)=true:=by simp[bB,gJ,qE,nA,kC]
theorem TN (l:List UInt8):gJ (CS l)=true:=by
 unfold CS
 split<;>simp[gJ,qE,Og,GR,kC]
theorem Mr {neg:Bool} {t b:Nat} (hb:b≠0) (hg:Nat.gcd t b=1) (hn:¬(neg=true∧t=0)):bB (mkRat (kG neg t) b) = .agg [VB neg,bY t,bY b]:=by
 obtain⟨e1,e2⟩:=I9 (neg:=neg) hb hg
 refine Kh ?_ (by rw[e1,nQ]) e2
 rw[e1]
 cases neg with
 | false=>unfold kG;simp
 |
  true =>
  have:t≠0:=fun h=>hn ⟨rfl,h⟩
  unfold kG
  simp
  omega
theorem DZ {n:Nat}:(((aC 1000000000 n).length:Nat):Int)=0↔n=0:=by
 rw[←lQ (b:=1000000000) (n:=n) (by decide),←List.length_eq_zero_iff]
 omega
theorem Ru {neg:Bool} {d t:List UInt8} (h:(47:UInt8)∈t):oK neg d (some t)=none:=by
 have ht:iA t=false:=by
  cases hk:iA t with
  | false=>rfl
  | true=>exact absurd h (ZQ (jL.1 hk).1)
 unfold oK
 split
 ·rfl
 ·simp only
  rw[if_neg (fun h=>by rw[ht] at h;exact absurd h.1 (by decide))]
theorem at_one (x:List UInt8) (H:aA):bJ 1 (aS bC [x]) (VI 0) H=some (.cT (bC x) 0):=aK (f:=bC) (t := .op) (H:=H) (size:=1) (k := .i64) (xs:=[x]) (i:=0) rfl rfl
theorem agN (x y:List UInt8) (H:aA):bJ 1 (aS bC [x,y]) (VI 0) H=some (.cT (bC x) 0):=aK (f:=bC) (t := .op) (H:=H) (size:=1) (k := .i64) (xs:=[x,y]) (i:=0) rfl rfl
theorem ahT (x y:List UInt8) (H:aA):bJ 1 (aS bC [x,y]) (VI 1) H=some (.cT (bC y) 0):=aK (f:=bC) (t := .op) (H:=H) (size:=1) (k := .i64) (xs:=[x,y]) (i:=1) rfl rfl
theorem Wg (x:List UInt8) (H:aA):oF (aS bC [x]) H=some (VI 1):=dV (f:=bC) (xs:=[x])
theorem agP (x y:List UInt8) (H:aA):oF (aS bC [x,y]) H=some (VI 2):=dV (f:=bC) (xs:=[x,y])
set_option maxRecDepth 100000 in
set_option maxHeartbeats 4000000 in
theorem JZ (l:List UInt8) (hl:l.length≤1000000000):TC 110 [bC l] (CS l):=by
 refine TC.walk ⟨true,false⟩ JU rfl (Nat.le_of_ble_eq_true rfl) rfl (TN l) ?_
 by_cases Bk:l=[]
 ·subst Bk
  have eC:TC 167 [.sc (.string ⟨#[]⟩),.sc (.int .u8 47)] (aS bC [[]]):=EF [] 47 (by simp)
  have eD:TC 168 [.sc (.string ⟨#[]⟩)] (VB false):=oU [] (by simp)
  have e1:zR (.string ⟨#[]⟩)=some (.int .i64 0):=rfl
  have a1:=at_one []
  have a2:=Wg []
  simp only[cB,bL,e1,eC,eD,a1,a2,Int.reduceLT,Int.reduceLE,aH,iS,Nat.reduceLeDiff,Nat.reduceLT,Nat.reduceSub,VX,Nat.reduceEqDiff,Nat.reduceAdd]
  exact bP (d:=6) gF (aJ (v:=VB false) rfl)
 have hp:0<l.length:=List.length_pos_iff.2 Bk
 have lB:(0:Int)<(l.length:Int):=by omega
 have e0:=HD l hp
 unfold CS
 unfold xI
 have pO:isNeg l=decide (((l.getD 0 0).toNat:Int)=45):=by
  unfold isNeg
  rw[decide_eq_true (show 1≤l.length from hp),Bool.true_and]
  refine decide_eq_decide.2 ⟨fun h=>by rw[h];rfl,fun h=>UInt8.toNat_inj.1 (by rw[show (45:UInt8).toNat=45 from rfl];omega)⟩
 have S9:(if isNeg l=true then l.drop 1 else l).length≤l.length:=by split<;>simp
 have q0:isNeg l=false→¬((l.getD 0 0).toNat:Int)=45:=fun h=>by rw[pO] at h;exact of_decide_eq_false h
 have q9:isNeg l=true→((l.getD 0 0).toNat:Int)=45:=fun h=>by rw[pO] at h;exact of_decide_eq_true h
 have r0:isNeg l=false→(if isNeg l=true then l.drop 1 else l)=l:=fun h=>by rw[h];rfl
 have r9:isNeg l=true→uU (bC l) (some (VI 1)) none=some (bC (if isNeg l=true then l.drop 1 else l)):=fun h=>by rw[h];exact N7 l (a:=1) hp
 generalize (if isNeg l=true then l.drop 1 else l)=r at *
 generalize isNeg l=neg at *
 clear pO
 have eC:TC 167 [bC r,.sc (.int .u8 47)] (aS bC (gV 47 r)):=EF r 47 (by omega)
 obtain⟨l1,l2⟩:=Rl (c:=47) (l:=r)
 cases hs:(lW 47 r).2 with
 |
  none =>
  have hd:=(Ax hs).2.1
  rw[SX hs] at eC
  rw[hd]
  have a1:=at_one r
  have a2:=Wg r
  have eD:=oU r (by omega)
  cases hk:iA r with
  |
   false =>
   rw[hk] at eD
   have YK:oK neg r none=none:=if_pos (.inl hk)
   rw[YK]
   cases neg with
   |
    false =>
    have q1:=q0 rfl
    have S9:=r0 rfl
    subst S9
    simp only[cB,bL,bN,lB,e0,q1,eC,eD,a1,a2,Int.reduceLT,aH,bF,aL,aZ,dU,fO,dS,fL,iS,Nat.reduceLeDiff,Nat.reduceLT,Nat.reduceSub,VX,Nat.reduceEqDiff,Nat.reduceAdd]
    exact bP (d:=6) gF (aJ (v:=VB false) rfl)
   |
    true =>
    have q1:=q9 rfl
    have e9:=r9 rfl
    simp only[cB,bL,bN,lB,e0,q1,eC,eD,a1,a2,Int.reduceLT,e9,aH,bF,aL,aZ,dU,fO,dS,fL,iS,Nat.reduceLeDiff,Nat.reduceLT,Nat.reduceSub,VX,Nat.reduceEqDiff,Nat.reduceAdd]
    exact bP (d:=6) gF (aJ (v:=VB false) rfl)
  |
   true =>
   rw[hk] at eD
   have hbt:=xX hk
   have eN:=rZ r (jL.1 hk).1 (by omega)
   by_cases hz:neg=true∧bU r=0
   ·have YK:oK neg r none=none:=if_pos (.inr hz)
    rw[YK]
    obtain⟨rfl,Hm⟩:=hz
    have q1:=q9 rfl
    have e9:=r9 rfl
    have HT:(((aC 1000000000 (bU r)).length:Nat):Int)=0:=DZ.2 Hm
    simp only[cB,bL,bN,lB,e0,q1,eC,eD,a1,a2,eN,e9,cL,HT,Int.reduceLT,aH,bF,aL,aZ,dU,fO,dS,fL,iS,Nat.reduceLeDiff,Nat.reduceLT,Nat.reduceSub,VX,Nat.reduceEqDiff,Nat.reduceAdd]
    exact bP (d:=6) gF (aJ (v:=VB false) rfl)
   ·have Eh:neg=true→¬(((aC 1000000000 (bU r)).length:Nat):Int)=0:=fun h h0=>hz ⟨h,DZ.1 h0⟩
    have YK:oK neg r none=some (mkRat (kG neg (bU r)) 1):=if_neg (by rw[hk];rintro(h | h);exact absurd h (by decide);exact hz h)
    rw[YK]
    simp only[]
    rw[Mr (by decide) (Nat.gcd_one_right _) hz]
    cases neg with
    |
     false =>
     have q1:=q0 rfl
     have S9:=r0 rfl
     subst S9
     simp only[cB,bL,bN,lB,e0,q1,eC,eD,a1,a2,eN,Int.reduceLT,Int.reduceEq,aH,bF,aL,aZ,dU,fO,dS,fL,iS,Nat.reduceLeDiff,Nat.reduceLT,Nat.reduceSub,VX,Nat.reduceEqDiff,Nat.reduceAdd]
     exact bP (d:=6) (qK (aJ (v:=VB false) rfl) (aJ (cG _)) PA) (aJ (v:=VB true) rfl)
    |
     true =>
     have q1:=q9 rfl
     have e9:=r9 rfl
     have HT:=Eh rfl
     simp only[cB,bL,bN,lB,e0,q1,eC,eD,a1,a2,eN,Int.reduceLT,Int.reduceEq,e9,cL,HT,aH,bF,aL,aZ,dU,fO,dS,fL,iS,Nat.reduceLeDiff,Nat.reduceLT,Nat.reduceSub,VX,Nat.reduceEqDiff,Nat.reduceAdd]
     exact bP (d:=6) (qK (aJ (v:=VB true) rfl) (aJ (cG _)) PA) (aJ (v:=VB true) rfl)
 |
  some t =>
  have ltt:=l2 t hs
  rw[Jc hs] at eC
  generalize (lW 47 r).1=d at *
  by_cases hm:(47:UInt8)∈t
  ·rw[Ru hm]
   have hP:=St hm
   generalize hPP:gV 47 t=P at *
   have a2:∀H,oF (aS bC (d::P)) H=some (VI ((d::P).length:Int)):=fun H=>dV (f:=bC) (xs:=d::P)
   have hq3:(2:Int)<((d::P).length:Int):=by rw[List.length_cons];omega
   generalize hQQ:d::P=PP at *
   clear hQQ hPP hP
   cases neg with
   |
    false =>
    have q1:=q0 rfl
    have S9:=r0 rfl
    subst S9
    simp only[cB,bL,bN,lB,e0,q1,eC,a2,hq3,aH,bF,aL,aZ,dU,fO,dS,fL,iS,Nat.reduceLeDiff,Nat.reduceLT,Nat.reduceSub,VX,Nat.reduceEqDiff,Nat.reduceAdd]
    exact bP (d:=6) gF (aJ (v:=VB false) rfl)
   |
    true =>
    have q1:=q9 rfl
    have e9:=r9 rfl
    simp only[cB,bL,bN,lB,e0,q1,eC,a2,hq3,e9,aH,bF,aL,aZ,dU,fO,dS,fL,iS,Nat.reduceLeDiff,Nat.reduceLT,Nat.reduceSub,VX,Nat.reduceEqDiff,Nat.reduceAdd]
    exact bP (d:=6) gF (aJ (v:=VB false) rfl)
  ·rw[FM hm] at eC
   have a1:=agN d t
   have a3:=ahT d t
   have a2:=agP d t
   have eD:=oU d (by omega)
   have eF:=oU t (by omega)
   cases hk:iA d with
   |
    false =>
    rw[hk] at eD
    have YK:oK neg d (some t)=none:=if_pos (.inl hk)
    rw[YK]
    cases neg with
    |
     false =>
     have q1:=q0 rfl
     have S9:=r0 rfl
     subst S9
     simp only[cB,bL,bN,lB,e0,q1,eC,eD,a1,a2,Int.reduceLT,aH,bF,aL,aZ,dU,fO,dS,fL,iS,Nat.reduceLeDiff,Nat.reduceLT,Nat.reduceSub,VX,Nat.reduceEqDiff,Nat.reduceAdd]
     exact bP (d:=6) gF (aJ (v:=VB false) rfl)
    |
     true =>
     have q1:=q9 rfl
     have e9:=r9 rfl
     simp only[cB,bL,bN,lB,e0,q1,eC,eD,a1,a2,Int.reduceLT,e9,aH,bF,aL,aZ,dU,fO,dS,fL,iS,Nat.reduceLeDiff,Nat.reduceLT,Nat.reduceSub,VX,Nat.reduceEqDiff,Nat.reduceAdd]
     exact bP (d:=6) gF (aJ (v:=VB false) rfl)
   |
    true =>
    rw[hk] at eD
    have hbt:=xX hk
    have eN:=rZ d (jL.1 hk).1 (by omega)
    by_cases hz:neg=true∧bU d=0
    ·have YK:oK neg d (some t)=none:=if_pos (.inr hz)
     rw[YK]
     obtain⟨rfl,Hm⟩:=hz
     have q1:=q9 rfl
     have e9:=r9 rfl
     have HT:(((aC 1000000000 (bU d)).length:Nat):Int)=0:=DZ.2 Hm
     simp only[cB,bL,bN,lB,e0,q1,eC,eD,a1,a2,eN,e9,cL,HT,Int.reduceLT,aH,bF,aL,aZ,dU,fO,dS,fL,iS,Nat.reduceLeDiff,Nat.reduceLT,Nat.reduceSub,VX,Nat.reduceEqDiff,Nat.reduceAdd]
     exact bP (d:=6) gF (aJ (v:=VB false) rfl)
    ·have Eh:neg=true→¬(((aC 1000000000 (bU d)).length:Nat):Int)=0:=fun h h0=>hz ⟨h,DZ.1 h0⟩
     have YK:oK neg d (some t)=if iA t=true∧1<bU t∧Nat.gcd (bU d) (bU t)=1 then some (mkRat (kG neg (bU d)) (bU t)) else none:=if_neg (by rw[hk];rintro(h | h);exact absurd h (by decide);exact hz h)
     rw[YK]
     clear YK
     cases ht:iA t with
     |
      false =>
      rw[ht] at eF
      rw[if_neg (fun h=>absurd h.1 (by decide))]
      cases neg with
      |
       false =>
       have q1:=q0 rfl
       have S9:=r0 rfl
       subst S9
       simp only[cB,bL,bN,lB,e0,q1,eC,eD,eF,a1,a2,a3,eN,Int.reduceLT,Int.reduceEq,aH,bF,aL,aZ,dU,fO,dS,fL,iS,Nat.reduceLeDiff,Nat.reduceLT,Nat.reduceSub,VX,Nat.reduceEqDiff,Nat.reduceAdd]
       exact bP (d:=6) gF (aJ (v:=VB false) rfl)
      |
       true =>
       have q1:=q9 rfl
       have e9:=r9 rfl
       have HT:=Eh rfl
       simp only[cB,bL,bN,lB,e0,q1,eC,eD,eF,a1,a2,a3,eN,Int.reduceLT,Int.reduceEq,e9,cL,HT,aH,bF,aL,aZ,dU,fO,dS,fL,iS,Nat.reduceLeDiff,Nat.reduceLT,Nat.reduceSub,VX,Nat.reduceEqDiff,Nat.reduceAdd]
       exact bP (d:=6) gF (aJ (v:=VB false) rfl)
     |
      true =>
      rw[ht] at eF
      have MD:=xX ht
      have eM:=rZ t (jL.1 ht).1 (by omega)
      have c2:∀lo H K,_:=fun lo H K=>Km (n:=bU t) (lo:=lo) (H:=H) (K:=K) (Nat.le_of_lt (oP (by omega)))
      have c3:=EH (bU d) (bU t) (oP (by omega)) (oP (by omega))
      by_cases h1:eW (bU t) 1≤0
      ·have hle:¬1<bU t:=fun h=>by unfold eW at h1;rw[if_neg (by omega),if_neg (by omega)] at h1;exact absurd h1 (by decide)
       rw[if_neg (fun h=>hle h.2.1)]
       cases neg with
       |
        false =>
        have q1:=q0 rfl
        have S9:=r0 rfl
        subst S9
        simp only[cB,bL,bN,lB,e0,q1,eC,eD,eF,a1,a2,a3,eN,eM,c2,h1,Int.reduceLT,Int.reduceEq,aH,bF,aL,aZ,dU,fO,dS,fL,iS,Nat.reduceLeDiff,Nat.reduceLT,Nat.reduceSub,VX,Nat.reduceEqDiff,Nat.reduceAdd]
        exact bP (d:=6) gF (aJ (v:=VB false) rfl)
       |
        true =>
        have q1:=q9 rfl
        have e9:=r9 rfl
        have HT:=Eh rfl
        simp only[cB,bL,bN,lB,e0,q1,eC,eD,eF,a1,a2,a3,eN,eM,c2,h1,Int.reduceLT,Int.reduceEq,e9,cL,HT,aH,bF,aL,aZ,dU,fO,dS,fL,iS,Nat.reduceLeDiff,Nat.reduceLT,Nat.reduceSub,VX,Nat.reduceEqDiff,Nat.reduceAdd]
        exact bP (d:=6) gF (aJ (v:=VB false) rfl)
      ·have bI:1<bU t:=by
        rcases Nat.lt_or_ge 1 (bU t) with h | h
        ·exact h
        ·exfalso
         apply h1
         unfold eW
         split<;>(try split)<;>first | decide | omega
       have hgl:bl (Nat.gcd (bU d) (bU t))≤665:=Nat.le_trans (kB (Nat.le_of_dvd (by omega) (Nat.gcd_dvd_right _ _))) MD
       have c4:∀lo H K,_:=fun lo H K=>Km (n:=Nat.gcd (bU d) (bU t)) (lo:=lo) (H:=H) (K:=K) (Nat.le_of_lt (oP (by omega)))
       by_cases hg:Nat.gcd (bU d) (bU t)=1
       ·have h4:eW (Nat.gcd (bU d) (bU t)) 1=0:=by rw[hg];rfl
        rw[if_pos ⟨rfl,bI,hg⟩]
        simp only[]
        rw[Mr (by omega) hg hz]
        cases neg with
        |
         false =>
         have q1:=q0 rfl
         have S9:=r0 rfl
         subst S9
         simp only[cB,bL,bN,lB,e0,q1,eC,eD,eF,a1,a2,a3,eN,eM,c2,c3,c4,h1,h4,Int.reduceLT,Int.reduceEq,aH,bF,aL,aZ,dU,fO,dS,fL,iS,Nat.reduceLeDiff,Nat.reduceLT,Nat.reduceSub,VX,Nat.reduceEqDiff,Nat.reduceAdd]
         exact bP (d:=6) (qK (aJ (v:=VB false) rfl) (aJ (cG _)) (aJ (cG _))) (aJ (v:=VB true) rfl)
        |
         true =>
         have q1:=q9 rfl
         have e9:=r9 rfl
         have HT:=Eh rfl
         simp only[cB,bL,bN,lB,e0,q1,eC,eD,eF,a1,a2,a3,eN,eM,c2,c3,c4,h1,h4,Int.reduceLT,Int.reduceEq,e9,cL,HT,aH,bF,aL,aZ,dU,fO,dS,fL,iS,Nat.reduceLeDiff,Nat.reduceLT,Nat.reduceSub,VX,Nat.reduceEqDiff,Nat.reduceAdd]
         exact bP (d:=6) (qK (aJ (v:=VB true) rfl) (aJ (cG _)) (aJ (cG _))) (aJ (v:=VB true) rfl)
       ·have h4:¬eW (Nat.gcd (bU d) (bU t)) 1=0:=by
         unfold eW
         split<;>(try split)<;>first | decide | omega
        rw[if_neg (fun h=>hg h.2.2)]
        cases neg with
        |
         false =>
         have q1:=q0 rfl
         have S9:=r0 rfl
         subst S9
         simp only[cB,bL,bN,lB,e0,q1,eC,eD,eF,a1,a2,a3,eN,eM,c2,c3,c4,h1,h4,Int.reduceLT,Int.reduceEq,aH,bF,aL,aZ,dU,fO,dS,fL,iS,Nat.reduceLeDiff,Nat.reduceLT,Nat.reduceSub,VX,Nat.reduceEqDiff,Nat.reduceAdd]
         exact bP (d:=6) gF (aJ (v:=VB false) rfl)
        |
         true =>
         have q1:=q9 rfl
         have e9:=r9 rfl
         have HT:=Eh rfl
         simp only[cB,bL,bN,lB,e0,q1,eC,eD,eF,a1,a2,a3,eN,eM,c2,c3,c4,h1,h4,Int.reduceLT,Int.reduceEq,e9,cL,HT,aH,bF,aL,aZ,dU,fO,dS,fL,iS,Nat.reduceLeDiff,Nat.reduceLT,Nat.reduceSub,VX,Nat.reduceEqDiff,Nat.reduceAdd]
         exact bP (d:=6) gF (aJ (v:=VB false) rfl)
end Go.PM
namespace Go.PM
open Go.Lib
theorem aiZ {a b:Rat}:(decide (a.num<0) != decide (b.num<0))=true→(decide (a<b)=decide (a.num<0)):=by
 intro h
 have h1:a.num<0↔a<0:=by rw[←Int.not_le,Rat.num_nonneg];constructor<;>intro h<;>grind
 have h2:b.num<0↔b<0:=by rw[←Int.not_le,Rat.num_nonneg];constructor<;>intro h<;>grind
 by_cases q1:a.num<0<;>by_cases q2:b.num<0
 ·simp[q1,q2] at h
 ·have:=h1.1 q1
  have:=mt h2.2 q2
  rw[decide_eq_true q1,decide_eq_true (by grind)]
 ·have:=h2.1 q2
  have:=mt h1.2 q1
  rw[decide_eq_false q1,decide_eq_false (by grind)]
 ·simp[q1,q2] at h
set_option maxHeartbeats 1000000 in
theorem KV (a b:Rat) (M3:aY a≤1099511627776) (HY:aY b≤1099511627776):TC 80 [bB a,bB b] (VB (decide (a<b))):=by
 refine TC.walk ⟨true,false⟩ Mn rfl (Nat.le_of_ble_eq_true rfl) (by simp only[aM,Bq];rfl) rfl ?_
 have b1 := @rH a
 have b2 := @rH b
 have b3 := @pB a
 have b4 := @pB b
 have b5:=nJ a.num.natAbs b.den
 have b6:=nJ b.num.natAbs a.den
 have c1:=gY a.num.natAbs b.den (Nat.le_of_lt (oP (by omega))) (Nat.le_of_lt (oP (by omega)))
 have c2:=gY b.num.natAbs a.den (Nat.le_of_lt (oP (by omega))) (Nat.le_of_lt (oP (by omega)))
 have c3:=uO (a.num.natAbs*b.den) (b.num.natAbs*a.den) (Nat.le_of_lt (oP (by omega))) (Nat.le_of_lt (oP (by omega)))
 have bI:=Rat.lt_iff (a:=a) (b:=b)
 by_cases q1:a.num<0<;>by_cases q2:b.num<0
 ·have Zu:a<b↔0<eW (a.num.natAbs*b.den) (b.num.natAbs*a.den):=by
   rw[bI,Wy]
   have e1:a.num = -(a.num.natAbs:Int):=by omega
   have e2:b.num = -(b.num.natAbs:Int):=by omega
   generalize a.num.natAbs=m at *
   generalize b.num.natAbs=n at *
   rw[e1,e2,Int.neg_mul,Int.neg_mul,←Int.natCast_mul,←Int.natCast_mul]
   omega
  by_cases q3:0<eW (a.num.natAbs*b.den) (b.num.natAbs*a.den)
  ·rw[decide_eq_true (Zu.2 q3)]
   simp only[mR,jT,c1,c2,c3,q1,q2,q3,oC,decide_true,decide_false,bne_self_eq_false,Bool.bne_true,Bool.bne_false,Bool.true_bne,Bool.false_bne,Bool.not_true,Bool.not_false,cA,fM,gD,fW,aL,iS,Nat.reduceLeDiff,Nat.reduceLT,Nat.reduceSub,VX,Nat.reduceEqDiff,Nat.reduceAdd]
   exact aF rfl
  ·rw[decide_eq_false (mt Zu.1 q3)]
   simp only[mR,jT,c1,c2,c3,q1,q2,q3,oC,decide_true,decide_false,bne_self_eq_false,Bool.bne_true,Bool.bne_false,Bool.true_bne,Bool.false_bne,Bool.not_true,Bool.not_false,cA,fM,gD,fW,aL,iS,Nat.reduceLeDiff,Nat.reduceLT,Nat.reduceSub,VX,Nat.reduceEqDiff,Nat.reduceAdd]
   exact aF rfl
 ·have hl:=aiZ (a:=a) (b:=b) (by simp[q1,q2])
  rw[hl,decide_eq_true q1]
  simp only[mR,jT,q1,q2,oC,decide_true,decide_false,bne_self_eq_false,Bool.bne_true,Bool.bne_false,Bool.true_bne,Bool.false_bne,Bool.not_true,Bool.not_false,cA,fM,gD,fW,aL,iS,Nat.reduceLeDiff,Nat.reduceLT,Nat.reduceSub,VX,Nat.reduceEqDiff,Nat.reduceAdd]
  exact aF rfl
 ·have hl:=aiZ (a:=a) (b:=b) (by simp[q1,q2])
  rw[hl,decide_eq_false q1]
  simp only[mR,jT,q1,q2,oC,decide_true,decide_false,bne_self_eq_false,Bool.bne_true,Bool.bne_false,Bool.true_bne,Bool.false_bne,Bool.not_true,Bool.not_false,cA,fM,gD,fW,aL,iS,Nat.reduceLeDiff,Nat.reduceLT,Nat.reduceSub,VX,Nat.reduceEqDiff,Nat.reduceAdd]
  exact aF rfl
 ·have Zu:a<b↔eW (a.num.natAbs*b.den) (b.num.natAbs*a.den)<0:=by
   rw[bI,uH]
   have e1:a.num=(a.num.natAbs:Int):=by omega
   have e2:b.num=(b.num.natAbs:Int):=by omega
   generalize a.num.natAbs=m at *
   generalize b.num.natAbs=n at *
   rw[e1,e2,←Int.natCast_mul,←Int.natCast_mul]
   omega
  by_cases q3:eW (a.num.natAbs*b.den) (b.num.natAbs*a.den)<0
  ·rw[decide_eq_true (Zu.2 q3)]
   simp only[mR,jT,c1,c2,c3,q1,q2,q3,oC,decide_true,decide_false,bne_self_eq_false,Bool.bne_true,Bool.bne_false,Bool.true_bne,Bool.false_bne,Bool.not_true,Bool.not_false,cA,fM,gD,fW,aL,iS,Nat.reduceLeDiff,Nat.reduceLT,Nat.reduceSub,VX,Nat.reduceEqDiff,Nat.reduceAdd]
   exact aF rfl
  ·rw[decide_eq_false (mt Zu.1 q3)]
   simp only[mR,jT,c1,c2,c3,q1,q2,q3,oC,decide_true,decide_false,bne_self_eq_false,Bool.bne_true,Bool.bne_false,Bool.true_bne,Bool.false_bne,Bool.not_true,Bool.not_false,cA,fM,gD,fW,aL,iS,Nat.reduceLeDiff,Nat.reduceLT,Nat.reduceSub,VX,Nat.reduceEqDiff,Nat.reduceAdd]
   exact aF rfl
end Go.PM
namespace Go.PM
open Go.Lib
theorem QD {l:List UInt8} {q:Rat} (h:xI l=some q):CS l = .dT [bB q,VB true]:=by unfold CS;rw[h]
theorem RB {l:List UInt8} (h:xI l=none):CS l = .dT [Fy,VB false]:=by unfold CS;rw[h]
end Go.PM