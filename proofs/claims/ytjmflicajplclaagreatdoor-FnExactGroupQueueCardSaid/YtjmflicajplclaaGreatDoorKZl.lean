/- Texts of a claim, in one: part 12. -/
import Derived.KernelRfl
import Derived.Test.YtjmflicajplclaaGreatDoorKZk
set_option linter.unusedSimpArgs false
set_option linter.unusedVariables false
namespace Go.PM
def kU:aD:=(LS [LO 13 (.bin .lss (LT 12) (LT 11))] (.seq (.cond (LT 13) .skip (.exit 0)) (.seq (.block 1 (LS [LO 14 (.iaddr 1 (LT 10) (LT 12)),LO 15 (LL 14),LM 6 15] (LS [LM 17 6,LO 18 (.call 159 [(LT 17)]),LM 16 18,LO 19 (LX 16 0),LO 20 (LX 16 1),LO 7 (.new [(.bool false),(.slice none 0 0),(.slice none 0 0)]),LN (.store 3 (LT 7) (LT 19)),LM 8 20] (.seq (LS [LM 21 8,LO 22 (.un .not (LT 21))] (.cond (LT 22) (LS [LO 2 (.mv (.const (.slice none 0 0))),LO 3 (.mv LF)] .ret) .skip)) (.dG [LM 23 4,LO 24 (LK 7),LO 25 (.lit [(.bool false),(.slice none 0 0),(.slice none 0 0)] 1 [(0,(LT 24))]),LO 26 (.app 3 56 (LT 23) (LT 25)),LM 4 26]))))) (.dG [LO 27 (.bin .add (LT 12) (LI 1)),LM 12 27]))))
def Ak:aD:=(LS [LO 2 (.mv (.const (.slice none 0 0))),LO 3 (.mv LF)] (LS [LO 9 (.lit [(.bool false),(.slice none 0 0),(.slice none 0 0)] 0 []),LM 4 9] (.seq (LS [LM 10 0,LO 11 (.len (LT 10)),LO 12 (.mv (LI 0))] (.block 0 (.loop kU))) (LS [LM 28 4,LM 2 28,LO 3 (.mv LG)] .ret))))
def Dv:aR:=⟨29,[(.tmp 2),(.tmp 3)],Ak⟩
theorem H8:fV 92=some Dv:=by kernel_rfl
def Bd:aD:=(LS [LO 15 (.bin .lss (LT 14) (LT 13))] (.seq (.cond (LT 15) .skip (.exit 0)) (.seq (.block 1 (LS [LO 16 (.iaddr 1 (LT 12) (LT 14)),LO 17 (LL 16),LM 5 17] (LS [LM 18 5,LO 19 (.call 70 [(LT 18)]),LO 6 (.new [(.bool false),(.slice none 0 0),(.slice none 0 0)]),LN (.store 3 (LT 6) (LT 19))] (LS [LO 20 (LK 6),LO 21 (LK 3),LO 22 (.call 148 [(LT 20),(LT 21)]),LO 23 (.bin .gtr (LT 22) (LI 0))] (.cond (LT 23) (.dG [LO 24 (LK 6),LN (.store 3 (LT 3) (LT 24))]) .skip))))) (.dG [LO 25 (.bin .add (LT 14) (LI 1)),LM 14 25]))))
def By:aD:=(LS [LO 30 (.bin .lss (LT 29) (LT 28))] (.seq (.cond (LT 30) .skip (.exit 2)) (.seq (.block 3 (LS [LM 31 29,LO 32 (.iaddr 1 (LT 27) (LT 29)),LO 33 (LL 32),LM 8 31,LM 9 33] (LS [LM 34 9,LO 35 (LK 3),LO 36 (.call 149 [(LT 34),(LT 35)]),LM 10 36] (LS [LM 37 10,LM 38 8,LO 39 (.call 64 [(LI 1)]),LM 40 10,LO 41 (.call 70 [(LT 40)]),LO 42 (.call 128 [(LT 39),(LT 41)]),LO 43 (.iaddr 3 (LT 37) (LT 38)),LN (.store 3 (LT 43) (LT 42))] (.dG [LM 44 7,LM 45 10,LO 46 (.lit [(.slice none 0 0)] 1 [(0,(LT 45))]),LO 47 (.app 1 24 (LT 44) (LT 46)),LM 7 47]))))) (.dG [LO 48 (.bin .add (LT 29) (LI 1)),LM 29 48]))))
def Jj:aD:=(LS [LO 2 (.mv (.const (.slice none 0 0)))] (LS [LO 11 (.call 64 [(LI 0)]),LO 3 (.new [(.bool false),(.slice none 0 0),(.slice none 0 0)]),LN (.store 3 (LT 3) (LT 11))] (.seq (LS [LM 12 0,LO 13 (.len (LT 12)),LO 14 (.mv (LI 0))] (.block 0 (.loop Bd))) (LS [LO 26 (.lit [(.slice none 0 0)] 0 []),LM 7 26] (.seq (LS [LM 27 0,LO 28 (.len (LT 27)),LO 29 (.mv (LI 0))] (.block 2 (.loop By))) (LS [LM 49 7,LM 2 49] .ret))))))
def Nt:aR:=⟨50,[(.tmp 2)],Jj⟩
theorem R0:fV 72=some Nt:=by kernel_rfl
def rC:aD:=(LS [LO 40 (.bin .lss (LT 39) (LT 38))] (.seq (.cond (LT 40) .skip (.exit 0)) (.seq (.block 1 (LS [LM 41 39,LM 13 41] (LS [LM 42 12,LM 43 13,LM 44 13,LO 45 (.bin .add (LT 44) (LI 1)),LM 46 3,LO 47 (.min (LT 45) (LT 46)),LM 48 10,LO 49 (.iaddr 3 (LT 48) (LI 0)),LO 50 (LK 49),LO 51 (.call 95 [(LT 42),(LT 43),(LT 47),(LT 50)])] (.dG [LM 52 12,LM 53 13,LM 54 13,LM 55 2,LO 56 (.bin .sub (LT 54) (LT 55)),LO 57 (.max (LT 56) (LI 0)),LM 58 10,LO 59 (.iaddr 3 (LT 58) (LI 1)),LO 60 (LK 59),LO 61 (.call 95 [(LT 52),(LT 53),(LT 57),(LT 60)])])))) (.dG [LO 62 (.bin .add (LT 39) (LI 1)),LM 39 62]))))
def iP:aD:=(LS [LO 8 (.new [(.slice none 0 0)]),LO 9 (.mv LF)] (LS [LM 15 0,LM 16 1,LO 17 (.lit [(.string ⟨#[]⟩)] 2 [(0,(LT 15)),(1,(LT 16))]),LO 18 (.call 92 [(LT 17)]),LM 14 18,LO 19 (LX 14 0),LO 20 (LX 14 1),LM 10 19,LM 11 20] (.seq (LS [LM 21 11,LO 22 (.un .not (LT 21)),LM 23 22,LZ 23 24 (.mv (LT 2)),LZ 23 25 (.call 93 [(LT 24),(LI 1),(LI 12)]),LZ 23 26 (.un .not (LT 25)),LO 27 (.pick (LT 23) LG (LT 26)),LM 28 27,LZ 28 29 (.mv (LT 3)),LZ 28 30 (.call 93 [(LT 29),(LI 1),(LI 11)]),LZ 28 31 (.un .not (LT 30)),LO 32 (.pick (LT 28) LG (LT 31))] (.cond (LT 32) (LS [LO 33 (.build [(.slice none 0 0)] [(0,1)] []),LN (.store 1 (LT 8) (LT 33)),LO 9 (.mv LF)] .ret) .skip)) (LS [LM 34 3,LO 35 (.bin .add (LT 34) (LI 1)),LO 36 (.call 94 [(LT 35)]),LM 12 36] (.seq (LS [LM 37 3,LO 38 (.bin .add (LT 37) (LI 1)),LO 39 (.mv (LI 0))] (.block 0 (.loop rC))) (LS [LM 63 12,LO 64 (.call 72 [(LT 63)]),LO 65 (.call 71 [(LT 64)]),LO 66 (LX 65 0),LO 67 (LX 65 1),LN (.store 1 (LT 8) (LT 66)),LM 9 67] .ret))))))
def kI:aR:=⟨68,[(.cell 8 true 1),(.tmp 9)],iP⟩
theorem Gg:fV 31=some kI:=by kernel_rfl
def AV:aD:=(LS [LO 2 (.mv (.const (.slice none 0 0)))] (LS [LM 3 0,LO 4 (.call 99 [(LT 3)]),LM 2 4] .ret))
def Dm:aR:=⟨5,[(.tmp 2)],AV⟩
theorem HS:fV 94=some Dm:=by kernel_rfl
def oQ:aD:=(LS [LO 7 (.box (LT 3))] (LS [LM 8 1,LM 9 2,LO 10 (.bin .neq (LT 8) (LT 9))] (.cond (LT 10) (.dG [LM 11 0,LM 12 1,LO 13 (.iaddr 1 (LT 11) (LT 12)),LO 14 (LL 13),LM 15 2,LM 16 0,LM 17 1,LO 18 (.iaddr 1 (LT 16) (LT 17)),LO 19 (LL 18),LM 20 2,LO 21 (.iaddr 3 (LT 19) (LT 20)),LO 22 (LK 21),LO 23 (LK 7),LQ 24 (.call 69 [(LT 22),(LT 23)]),LO 25 (.iaddr 3 (LT 14) (LT 15)),LN (.store 3 (LT 25) (LT 24))]) .skip)))
def rD:aR:=⟨26,[],oQ⟩
theorem CL:fV 95=some rD:=by kernel_rfl
end Go.PM
namespace Go.PM
open Go.Lib
theorem akH {n k lo hi:Nat} {H:aA} {P:Nat→Nat→aA→VV→Prop} {v:VV} {ok:Bool} (hk:n≤k) (hl:k≤H.length) (hT:BB n k H) (hv:fB n v=true)
  (I3:∀ {lo hi H H' v},P lo hi H v→dI lo hi H H'→P lo hi H' v) (aoQ:∀ {lo hi gP mC:Nat} {H:aA} {v:VV},P lo hi H v→gP≤lo→hi≤mC→P gP mC H v) (hp:P lo hi H v) (dL:k≤lo) (hhi:hi≤H.length) :
  ∃L,GQ H (List.replicate n .dead++L)∧fB n (.eX [v,.sc (.bool ok)])=true∧eK n L=true∧W0 P ok n (.eX [v,.sc (.bool ok)]) L:=by
 obtain⟨L,k1,k2,k3⟩:=QQ hk hl hT
 refine⟨L,k1,by simp[fB,oA,hv,kC],k2,v,rfl,?_⟩
 have hl3:=k1.1
 rw[List.length_append,List.length_replicate] at hl3
 exact aoQ (I3 hp (H':=List.replicate n cG.dead++L) fun b g x h1 h2 h3=>k3 b g x (by omega) h3) (by omega) (by omega)
theorem CG.wide {bE:List (List ByteArray)}:∀ {lo hi gP mC:Nat} {H:aA} {v:VV},CG bE lo hi H v→gP≤lo→hi≤mC→CG bE gP mC H v:=by
 rintro lo hi gP mC H v ⟨c,h1,h2⟩ hl hh
 exact⟨c,h1,h2.wide hl hh⟩
theorem CG.own {n lo hi:Nat} {H:aA} {v:VV} {bE:List (List ByteArray)} (h:CG bE lo hi H v) (hn:n≤lo):∃c,v = .agg [c]∧bP c=true∧aB c=[c]∧fB n c=true:=by
 obtain⟨c,rfl,h | ⟨b,g,cc,rs,h1,h2,rfl,h3⟩⟩:=h
 ·obtain⟨rfl,_⟩:=h
  exact⟨_,rfl,rfl,rfl,rfl⟩
 ·exact⟨_,rfl,rfl,rfl,by simp[fB];omega⟩
theorem Ws.wide {s:J6}:∀ {lo hi gP mC:Nat} {H:aA} {v:VV},Ws s lo hi H v→gP≤lo→hi≤mC→Ws s gP mC H v:=by
 rintro lo hi gP mC H v ⟨a,b,c,m1,m2,h1,k1,k2,k3,h2,h3,h4⟩ hl hh
 exact⟨a,b,c,m1,m2,h1,by omega,k2,by omega,h2.wide hl (Nat.le_refl _),h3,h4.wide (Nat.le_refl _) hh⟩
theorem BB.aqK {n k:Nat} {H L:aA} (h:BB n k H) (hL:eK n L=true):BB n k (H++L):=by
 intro b g es e w hb hr
 rcases Nat.lt_or_ge b H.length with bH | Eh
 ·rw[List.getElem?_append_left bH] at hr
  exact h b g es e w hb hr
 ·rw[List.getElem?_append_right Eh] at hr
  exact List.all_eq_true.1 hL _ (List.mem_of_getElem? hr)
theorem BB.start {n:Nat} {H:aA}:BB n H.length H:=fun b g es e w hb hr=>by
 rw[List.getElem?_eq_none hb] at hr
 cases hr
def O7 (o:Option Rat):VV:=match o with
 | none => .eX [ET,VB false]
 | some q => .eX [aQ q,VB (decide (0<q))]
theorem YV (o:Option Rat):iD (O7 o)=true:=by
 unfold O7
 split<;>simp[iD,pY,qB,F1,kC]
theorem Jt (x:ByteArray) (hx:x.size≤1000000000):TC 159 [sV x] (O7 (pQ x)):=by
 refine TC.walk ⟨true,false⟩ JC rfl (Nat.le_of_ble_eq_true rfl) rfl (YV _) ?_
 have e2:=KQ x.data.toList (by rw[Array.length_toList];show x.size≤_;omega)
 rw[←aaJ] at e2
 cases hp:pQ x with
 |
  none =>
  rw[SJ hp] at e2
  simp only[uC,qJ,e2,O7,Cy,E6,Kq,aU,aV,aO,iR,Nat.reduceLeDiff,Nat.reduceLT,Nat.reduceSub,Eo,lE,nI,tX,AQ,AM,bne_iff_ne,ne_eq,not_false_eq_true,not_true_eq_false,fW,VX,Nat.reduceEqDiff,Nat.reduceAdd,Nat.reduceLeDiff,Nat.reduceLT,Nat.reduceSub]
  exact aI (tL Oh rfl)
 |
  some q =>
  rw[RM hp] at e2
  have e1:=iT q
  by_cases h:0<q
  ·have h':=Oc.2 h
   simp only[uC,qJ,e1,e2,O7,h',h,decide_true,aF,dD,dK,aU,aV,aO,iR,Nat.reduceLeDiff,Nat.reduceLT,Nat.reduceSub,Eo,lE,nI,tX,AQ,AM,bne_iff_ne,ne_eq,not_false_eq_true,not_true_eq_false,fW,VX,Nat.reduceEqDiff,Nat.reduceAdd,Nat.reduceLeDiff,Nat.reduceLT,Nat.reduceSub]
   exact aI (tL (gR _) rfl)
  ·have h':¬0<kV q:=fun k=>h (Oc.1 k)
   simp only[uC,qJ,e1,e2,O7,h',h,decide_false,aF,dD,dK,aU,aV,aO,iR,Nat.reduceLeDiff,Nat.reduceLT,Nat.reduceSub,Eo,lE,nI,tX,AQ,AM,bne_iff_ne,ne_eq,not_false_eq_true,not_true_eq_false,fW,VX,Nat.reduceEqDiff,Nat.reduceAdd,Nat.reduceLeDiff,Nat.reduceLT,Nat.reduceSub]
   exact aI (tL (gR _) rfl)
def qT (x:ByteArray):Option Rat:=match pQ x with
 | some q=>if 0<q then some q else none
 | none=>none
def abQ (xs:List ByteArray):Option (List Rat):=xs.mapM qT
theorem Hx {x:ByteArray} {q:Rat} (h:qT x=some q):pQ x=some q∧0<q:=by
 unfold qT at h
 split at h
 ·rename_i p hp
  split at h
  ·rename_i h0
   cases h
   exact⟨hp,h0⟩
  ·cases h
 ·cases h
theorem aeF {x:ByteArray} {q:Rat} (h:pQ x=some q):aZ q≤665:=by
 have h1:Vc [x]=some [q]:=by
  unfold Vc
  rw[if_pos (by simp),List.mapM_cons,h]
  rfl
 exact(Tl h1).1 q List.mem_cons_self
set_option maxHeartbeats 1000000 in
theorem Ih (xs:List ByteArray) (hn:xs.length≤1000000000) (hs:∀s∈xs,s.size≤1000000000):TC 92 [qC xs] (QN (abQ xs)):=by
 refine TC.walk ⟨true,false⟩ H8 rfl (Nat.le_of_ble_eq_true rfl) (by simp[aM,qY]) (XX _) ?_
 unfold abQ
 have e0:=fun H=>iC (H:=H) (lr:=false) (z:=[.bool false,.slice none 0 0,.slice none 0 0]) rfl
 simp only[Dv,Ak,e0,fW,VX,Nat.reduceEqDiff,Nat.reduceAdd,Nat.reduceLeDiff,Nat.reduceLT,Nat.reduceSub]
 refine Sy (fun(s:Nat×List Rat) ρ H=>s.1≤xs.length∧(xs.take s.1).mapM qT=some s.2∧H=[.row s.1 (s.2.map aQ) 3 true]∧ρ 4 = .ref 0 s.1 0 s.1 s.1∧ρ 10=qC xs∧ρ 11=VI xs.length∧ρ 12=VI s.1) (fun s=>xs.length-s.1) (0,[]) ⟨Nat.zero_le _,rfl,rfl,rfl,rfl,rfl,rfl⟩ ?_
 rintro⟨i,out⟩ ρ H ⟨hi,ZA,rfl,g4,g10,g11,g12⟩
 simp only at hi ZA g4 g12
 have jM:out.length=i:=by rw[sT ZA,List.length_take];omega
 by_cases dA:(i:Int)<(xs.length:Int)
 ·obtain⟨x,hx⟩:∃x,xs[i]? = some x:=⟨_,List.getElem?_eq_getElem (by omega)⟩
  have hxm:=List.mem_of_getElem? hx
  have e1:=fun H=>aL (f:=sV) (t := .op) (H:=H) (size:=1) (k := .i64) hx rfl
  have wi:IntKind.i64.wrap ((i:Int)+1)=((i+1:Nat):Int):=wrapN (i+1) (by omega) (by omega)
  have e2:=Jt x (hs x hxm)
  cases hp:pQ x with
  |
   none =>
   rw[hp] at e2
   have hq:qT x=none:=by unfold qT;rw[hp]
   rw[mapM_none hq hxm]
   simp only[O7] at e2
   simp only[kU,g4,g10,g11,g12,dA,e1,e2,Cy,E6,Kq,aU,aV,aO,iR,Nat.reduceLeDiff,Nat.reduceLT,Nat.reduceSub,Eo,lE,nI,tX,AQ,AM,bne_iff_ne,ne_eq,not_false_eq_true,not_true_eq_false,fW,VX,Nat.reduceEqDiff,Nat.reduceAdd,Nat.reduceLeDiff,Nat.reduceLT,Nat.reduceSub]
   exact acC
  |
   some q =>
   rw[hp] at e2
   by_cases h0:0<q
   ·simp only[O7,decide_eq_true h0] at e2
    have hq:qT x=some q:=by unfold qT;rw[hp];exact if_pos h0
    have eL:∀H,jQ false [.bool false,.slice none 0 0,.slice none 0 0] 1 [(0,aQ q)] H=some (.tree [aQ q] (.cl 3),H):=fun H=>gD rfl rfl rfl
    have eS:∀H,cT 3 (.tree [aQ q] (.cl 3)) H=some [aQ q]:=fun H=>dQ rfl rfl
    have eP:eJ 0 3 56 (.ref 0 i 0 i i) [aQ q] [.row i (out.map aQ) 3 true,.row 0 [aQ q] 3 true]=some (.ref 0 (i+1) 0 (i+1) (i+1),[.row (i+1) ((out++[q]).map aQ) 3 true,.row 0 [aQ q] 3 true]):=by
     rw[iG (f:=aQ) (xs:=out) (by rw[aS]) jM.symm (Nat.le_refl _) (by decide) (by decide) (by omega),List.set_cons_zero]
    simp only[kU,g4,g10,g11,g12,dA,e1,e2,eL,eS,eP,wi,aF,dD,dK,aU,aV,aO,iR,Nat.reduceLeDiff,Nat.reduceLT,Nat.reduceSub,Eo,lE,nI,tX,AQ,AM,bne_iff_ne,ne_eq,not_false_eq_true,not_true_eq_false,fW,VX,Nat.reduceEqDiff,Nat.reduceAdd,Nat.reduceLeDiff,Nat.reduceLT,Nat.reduceSub]
    refine⟨(i+1,out++[q]),by simp only;omega,?_,by simp only;omega,by simp only[gV hx];exact HI ZA hq,rfl,?_⟩
    ·rw[DC (oE _ (gN gR)),NO]
    ·simp only[Bj,g10,g11,FK (qY _),Np (Nat.lt_succ_self 0),VX,Nat.reduceEqDiff,Nat.reduceAdd,List.take_zero,kH,List.all_nil,List.length_nil,Bj,Rw,FK]
   ·simp only[O7,decide_eq_false h0] at e2
    have hq:qT x=none:=by unfold qT;rw[hp];exact if_neg h0
    rw[mapM_none hq hxm]
    simp only[kU,g4,g10,g11,g12,dA,e1,e2,aF,dD,dK,aU,aV,aO,iR,Nat.reduceLeDiff,Nat.reduceLT,Nat.reduceSub,Eo,lE,nI,tX,AQ,AM,bne_iff_ne,ne_eq,not_false_eq_true,not_true_eq_false,fW,VX,Nat.reduceEqDiff,Nat.reduceAdd,Nat.reduceLeDiff,Nat.reduceLT,Nat.reduceSub]
    exact acC
 ·have oB:i=xs.length:=by omega
  subst oB
  rw[List.take_length] at ZA
  rw[ZA]
  simp only[kU,g4,g10,g11,g12,dA,fW,VX,Nat.reduceEqDiff,Nat.reduceAdd,Nat.reduceLeDiff,Nat.reduceLT,Nat.reduceSub]
  refine bT (d:=6) ?_ (aJ (v:=VB true) rfl)
  have:=Y1 (d:=5) (w:=true) (f:=aQ) (e:=3) (b:=0) (g:=xs.length) (c:=xs.length) (xs:=out) (H:=[.row xs.length (out.map aQ) 3 true]) gR (by rw[aS]) (by omega)
  rw[jM] at this
  exact this
end Go.PM
namespace Go.PM
section
variable {α:Type}
def vec (n:Nat) (f:Nat→α):List α:=(List.range n).map f
def MU (n m:Nat) (F:Nat→Nat→α):List (List α):=vec n fun a=>vec m (F a)
theorem uG (n:Nat) (f:Nat→α):(vec n f).length=n:=by simp[vec]
theorem FP (n m:Nat) (F:Nat→Nat→α):(MU n m F).length=n:=uG ..
theorem BA {n i:Nat} {f:Nat→α} (h:i<n):(vec n f)[i]? = some (f i):=by simp[vec,h]
theorem KN {n i:Nat} {f:Nat→α} (h:n≤i):(vec n f)[i]? = none:=by rw[List.getElem?_eq_none];rw[uG];exact h
theorem AB {n:Nat} {f g:Nat→α} (h:∀i,i<n→f i=g i):vec n f=vec n g:=List.map_congr_left fun i hi=>h i (List.mem_range.1 hi)
theorem Ox {n m:Nat} {F G:Nat→Nat→α} (h:∀a b,a<n→b<m→F a b=G a b):MU n m F=MU n m G:=AB fun a ha=>AB fun b hb=>h a b ha hb
theorem Wy {n m i:Nat} {F:Nat→Nat→α} (h:i<n):(MU n m F)[i]? = some (vec m (F i)):=BA h
theorem Vu {n j:Nat} {f:Nat→α} {y:α}:(vec n f).set j y=vec n fun b=>if b=j then y else f b:=by
 apply List.ext_getElem?
 intro b
 rw[List.getElem?_set,uG]
 by_cases hb:b<n
 ·rw[BA hb,BA hb]
  by_cases hj:j=b
  ·subst hj;simp[hb]
  ·simp[hj,Ne.symm hj]
 ·rw[KN (by omega),KN (by omega)]
  split
  ·rw[if_neg (by omega)]
  ·rfl
theorem aeZ {n m i:Nat} {F:Nat→Nat→α} {g:Nat→α}:(MU n m F).set i (vec m g)=MU n m fun a b=>if a=i then g b else F a b:=by
 rw[MU,Vu]
 refine AB fun a _ => ?_
 split
 ·rename_i h
  exact AB fun b _=>(if_pos h).symm
 ·rename_i h
  exact AB fun b _=>(if_neg h).symm
theorem Nw {n:Nat} {x:α}:List.replicate n x=vec n fun _=>x:=by
 apply List.ext_getElem?
 intro i
 by_cases h:i<n
 ·rw[BA h,List.getElem?_replicate,if_pos h]
 ·rw[KN (by omega),List.getElem?_replicate,if_neg h]
theorem X3 {n m:Nat} {x:α}:List.replicate n (List.replicate m x)=MU n m fun _ _=>x:=by rw[Nw,Nw];rfl
theorem GF {n:Nat} {f:Nat→α} {x:α}:x∈vec n f↔∃i,i<n∧f i=x:=by simp[vec]
theorem Vf {n m:Nat} {F:Nat→Nat→α} {r:List α} (h:r∈MU n m F):∃i,i<n∧r=vec m (F i):=by
 obtain⟨i,hi,rfl⟩:=GF.1 h
 exact⟨i,hi,rfl⟩
end
end Go.PM
namespace Go.PM
open Go.Lib
theorem Y9 {qs:List Rat} {B i:Nat} {y:Rat} (h:∀q∈qs,aZ q≤B) (hy:aZ y≤B):∀q∈qs.set i y,aZ q≤B:=fun q hq=>by
 rcases List.mem_or_eq_of_mem_set hq with h1 | rfl
 ·exact h q h1
 ·exact hy
theorem Ws.own {n lo hi:Nat} {s:J6} {H:aA} {v:VV} (h:Ws s lo hi H v) (hn:n≤lo):∃a b c,v = .agg [a,b,c]∧bP a=true∧bP b=true∧bP c=true∧fB n a=true∧fB n b=true∧fB n c=true:=by
 obtain⟨a,b,c,m1,m2,rfl,l1,l2,l3,ha,hb,hc⟩:=h
 refine⟨a,b,c,rfl,ha.cell,hb.cell,hc.cell,?_,?_,?_⟩
 ·rcases ha with⟨rfl,_⟩ | ⟨b,g,c,h1,h2,rfl,h3⟩
  ·rfl
  ·simp[fB];omega
 ·rcases hb with⟨rfl,_⟩ | ⟨b,g,c,rs,h1,h2,rfl,h3⟩
  ·rfl
  ·simp[fB];omega
 ·rcases hc with⟨rfl,_⟩ | ⟨b,g,c,h1,h2,rfl,h3⟩
  ·rfl
  ·simp[fB];omega
end Go.PM
namespace Go.PM
open Go.Lib
section
variable {α:Type} {f:α→VV} {e:Nat}
structure YW (f:α→VV) (e:Nat) (m:List (List α)) (H:aA) (v:VV):Prop where
 len:∀H',H <+: H'→oK v H'=some (VI m.length)
 get:∀H',H <+: H'→∀(i:Nat) r,m[i]? = some r→∃p w,bK 1 v (VI i) H'=some p∧cE false 1 p H'=some w∧Rd f e r H' w
theorem YW.pre {m:List (List α)} {H H':aA} {v:VV} (h:YW f e m H v) (hh:H <+: H'):YW f e m H' v:=⟨fun H2 h2=>h.len H2 (hh.trans h2),fun H2 h2=>h.get H2 (hh.trans h2)⟩
theorem YW.tree {m:List (List α)} {H:aA} {t:TK} (hs:∀x,(aB (f x)).length=e):YW f e m H (.tree (m.map (bI f)) t) :=
 ⟨fun _ _=>dV,fun _ _ i x hx=>⟨_,_,aL hx rfl,by rw[JS];rfl,Rd.tree hs⟩⟩
theorem YW.row {m:List (List α)} {H:aA} {b g n c:Nat} {w:Bool} (h:aH H b g=some (m.map (bI f),1,w)) (hn:n=m.length) (hs:∀x,(aB (f x)).length=e):YW f e m H (.ref b g 0 n c):=by
 subst hn
 refine⟨fun H' hh=>fL (cS hh h),fun H' hh i x hx => ?_⟩
 have hi:=(List.getElem?_eq_some_iff.1 hx).1
 have e1:=bD (o:=0) (n:=m.length) (c:=c) (i:=i) (k := .i64) (cS hh h) hi
 rw[Nat.zero_add] at e1
 exact⟨_,_,e1,by rw[pD (f:=bI f) (cS hh h) hx];rfl,Rd.tree hs⟩
theorem MG.rdT {lo hi b g n c:Nat} {H:aA} {rs:List (vC α)} (h:MG f e lo hi b g H rs) (hn:n=rs.length):YW f e (rs.map (·.xs)) H (.ref b g 0 n c):=by
 subst hn
 refine⟨fun H' hh=>by rw[List.length_map];exact(h.pre hh).len,fun H' hh i x hx => ?_⟩
 rw[List.getElem?_map] at hx
 obtain⟨r,hr,rfl⟩:=Option.map_eq_some_iff.1 hx
 have hi:=(List.getElem?_eq_some_iff.1 hr).1
 exact⟨_,_,(h.pre hh).addr hi,(h.pre hh).cell hr,Rd.row ((h.pre hh).row hr) rfl⟩
theorem MG.snoc {lo hi gP b g:Nat} {H:aA} {rs:List (vC α)} (h:MG f e lo hi b g H rs) (hg:g=rs.length) (dL:gP≤lo) (hn:g≤1000000000) (r:vC α) (hhi:hi≤r.b) (hc:r.xs.length≤r.c) (hr:aH H r.b r.g=some (r.xs.map f,e,true)) :
  eJ gP 1 24 (.ref b g 0 g g) [.ref r.b r.g 0 r.xs.length r.c] H=some (.ref b (g+1) 0 (g+1) (g+1),H.set b (.row (g+1) ((rs++[r]).map nC) 1 true))∧MG f e lo H.length b (g+1) (H.set b (.row (g+1) ((rs++[r]).map nC) 1 true)) (rs++[r]):=by
 have aCh:=h.blo
 have aA7:=h.bhi
 have Ae:=fR hr
 have sW:=iG (f:=nC) (xs:=rs) (x:=r) (lo:=gP) (bytes:=24) h.out hg (by omega) (by decide) (by decide) (by omega)
 refine⟨sW,cA h.out,h.blo,fR h.out,?_,fun s hs => ?_⟩
 ·rw[List.map_append,List.nodup_append]
  refine⟨h.rows.nd,by simp,fun a ha c UM => ?_⟩
  obtain⟨s,hs,rfl⟩:=List.mem_map.1 ha
  have:=h.rows.row s hs
  simp only[List.map_cons,List.map_nil,List.mem_singleton] at UM
  omega
 ·rcases List.mem_append.1 hs with hs | hs
  ·obtain⟨k1,k2,k3,k4,k5⟩:=h.rows.row s hs
   exact⟨k1,by omega,k3,k4,cF (by omega) k5⟩
  ·rw[List.mem_singleton] at hs
   subst hs
   exact⟨by omega,Ae,by omega,hc,cF (by omega) hr⟩
end
def iV (m:List (List Rat)) (i:Nat):Rat:=(m.take i).foldl (fun a r=>if a<dY r then dY r else a) 0
def cM (m:List (List Rat)):Rat:=iV m m.length
theorem zG {m:List (List Rat)} {i:Nat} {r:List Rat} (h:m[i]? = some r):iV m (i+1)=if iV m i<dY r then dY r else iV m i:=by
 unfold iV
 rw[gV h,List.foldl_append]
 rfl
def kA (d:Rat) (i:Nat) (r:List Rat):List Rat:=(r.map (· / d)).set i (1-dY (r.map (· / d)))
def lZ (m:List (List Rat)):List (List Rat):=vec m.length fun i=>kA (cM m) i (m.getD i [])
theorem tS {qs:List Rat} {B n:Nat} (h:∀q∈qs,aZ q≤B) (hn:qs.length≤n):aZ (dY qs)≤n*(B+1)+1:=by
 have h1:=E5 h qs.length
 rw[List.take_length] at h1
 have h2:qs.length*(B+1)≤n*(B+1):=Nat.mul_le_mul_right _ hn
 omega
theorem tG {m:List (List Rat)} {B n:Nat} (h:∀r∈m,r.length≤n∧∀q∈r,aZ q≤B):∀i,aZ (iV m i)≤n*(B+1)+1
 |
  0=>by
  show aZ 0≤_
  rw[Fh]
  omega
 |
  i+1=>by
  cases hr:m[i]? with
  |
   none =>
   have:iV m (i+1)=iV m i:=by
    unfold iV
    rw[List.take_add_one,hr]
    simp
   rw[this]
   exact tG h i
  |
   some r =>
   rw[zG hr]
   have:=h r (List.mem_of_getElem? hr)
   split
   ·exact tS this.2 this.1
   ·exact tG h i
theorem Hi {qs:List Rat} {d:Rat} {B D:Nat} (h:∀q∈qs,aZ q≤B) (hd:aZ d≤D):∀q∈qs.map (· / d),aZ q≤B+D+1:=fun q hq=>by
 obtain⟨p,hp,rfl⟩:=List.mem_map.1 hq
 have h1:=h p hp
 have h2:=Xu p d
 omega
set_option maxHeartbeats 4000000 in
theorem Rr {lo:Nat} {H:aA} {v:VV} (m:List (List Rat)) {n B:Nat} (hv:YW aQ 3 m H v) (dL:lo≤H.length) (hm:m.length=n) (hn:n≤100) (hB:B≤1000000) (hb:∀r∈m,r.length=n∧∀q∈r,aZ q≤B) (hd:cM m≠0) :
  gQ 72 [v] lo H (GZ (TabIs aQ 3 (lZ m)) H):=by
 have hmul:n*(B+1)≤100*(B+1):=Nat.mul_le_mul_right _ hn
 have uD:∀r∈m,r.length≤n∧∀q∈r,aZ q≤B:=fun r hr=>⟨Nat.le_of_eq (hb r hr).1,(hb r hr).2⟩
 refine gQ.walk ⟨true,false⟩ R0 (Nat.le_of_ble_eq_true rfl) ?_
 have e1:TC 64 [VI 0] (aQ 0):=rR 0 (by decide) (by decide)
 have s0:=AL (lo:=lo) (H:=H) (q:=0) dL
 have e2:=hv.len _ (List.prefix_append H [.row 0 [aQ 0] 3 true])
 simp only[Nt,Jj,e1,s0,e2,fW,VX,Nat.reduceEqDiff,Nat.reduceAdd,Nat.reduceLeDiff,Nat.reduceLT,Nat.reduceSub]
 refine aT (fun(i:Nat) ρ H1=>i≤m.length∧H <+: H1∧aH H1 H.length 0=some ([aQ (iV m i)],3,true)∧ρ 0=v∧ρ 3 = .ptr H.length 0 0 0∧ρ 12=v∧ρ 13=VI m.length∧ρ 14=VI i) (fun i=>m.length-i) 0 ⟨Nat.zero_le _,List.prefix_append _ _,fN,rfl,rfl,rfl,rfl,rfl⟩ ?_
 rintro i ρ H1 ⟨hi,hp,Vj,g0,g3,g12,g13,g14⟩
 have Bk:=fR Vj
 by_cases dA:(i:Int)<(m.length:Int)
 ·obtain⟨r,hr⟩:∃r,m[i]? = some r:=⟨_,List.getElem?_eq_getElem (by omega)⟩
  have Ct:=hb r (List.mem_of_getElem? hr)
  obtain⟨p,w,a1,a2,hw⟩:=hv.get H1 hp i r hr
  have wi:IntKind.i64.wrap ((i:Int)+1)=((i+1:Nat):Int):=wrapN (i+1) (by omega) (by omega)
  have Ae:r.length*(B+1)≤100*(B+1):=Nat.mul_le_mul_right _ (by omega)
  simp only[Bd,g0,g3,g12,g13,g14,dA,a1,a2,fW,VX,Nat.reduceEqDiff,Nat.reduceAdd,Nat.reduceLeDiff,Nat.reduceLT,Nat.reduceSub]
  refine lB rfl (L8 (H:=H1) r hw (by omega) Ct.2 (by omega) (by omega) (by omega)) fun x L hx => ?_
  subst hx
  have ES:=bS (L:=L) Vj
  have J5:=jN (L:=L) hp
  have CJ:H1.length≤(H1++L).length:=by rw[List.length_append];omega
  generalize H1++L=H2 at *
  have s1:=AL (lo:=lo) (H:=H2) (q:=dY r) (by omega)
  have s2:=JU (H:=H2) (K:=[]) (q:=dY r)
  have s3:cE true 3 (.ptr H.length 0 0 0) (H2++[cG.row 0 [aQ (dY r)] 3 true])=some (aQ (iV m i)):=by
   rw[bO,bS ES]
   exact dK _
  have b1:=tS Ct.2 (Nat.le_of_eq Ct.1)
  have b2:=tG uD i
  have e3:=Lf (dY r) (iV m i) (by omega) (by omega)
  have E3:=zG hr
  by_cases hc:iV m i<dY r
  ·have UM:=VC.2 hc
   rw[if_pos hc] at E3
   have s4:=bU (lo:=lo) (v:=aQ (dY r)) (j:=0) (bS (L:=[.row 0 [aQ (dY r)] 3 true]) ES) (by exact Nat.zero_lt_one) dL rfl rfl
   rw[List.set_cons_zero] at s4
   simp only[g0,g3,g12,g13,g14,s1,s2,s3,s4,e3,UM,wi,fW,VX,Nat.reduceEqDiff,Nat.reduceAdd,Nat.reduceLeDiff,Nat.reduceLT,Nat.reduceSub]
   exact⟨i+1,by omega,by omega,kQ (jN J5) (Nat.le_refl _),by rw[E3];exact cA (bS ES),by (repeat' apply And.intro)<;>first | rfl | trivial | assumption⟩
  ·have UM:=mt VC.1 hc
   rw[if_neg hc] at E3
   simp only[g0,g3,g12,g13,g14,s1,s2,s3,e3,UM,wi,fW,VX,Nat.reduceEqDiff,Nat.reduceAdd,Nat.reduceLeDiff,Nat.reduceLT,Nat.reduceSub]
   exact⟨i+1,by omega,by omega,jN J5,by rw[E3];exact bS ES,by (repeat' apply And.intro)<;>first | rfl | trivial | assumption⟩
 ·have oB:i=m.length:=by omega
  subst oB
  have e0:∀K,jQ false [.slice none 0 0] 0 [] K=some (.ref K.length 0 0 0 0,K++[.row 0 [] 1 true]):=fun K=>iC rfl
  have e3:=hv.len _ (jN (L:=[.row 0 [] 1 true]) hp)
  simp only[Bd,g0,g3,g12,g13,g14,dA,e0,e3,fW,VX,Nat.reduceEqDiff,Nat.reduceAdd,Nat.reduceLeDiff,Nat.reduceLT,Nat.reduceSub]
  have Vj:aH H1 H.length 0=some ([aQ (cM m)],3,true):=Vj
  have bm:=tG uD m.length
  rw[←cM] at bm
  refine aT (fun(i:Nat) ρ H2=>i≤m.length∧H <+: H2∧aH H2 H.length 0=some ([aQ (cM m)],3,true)∧(∃rs,rs.length=i∧rs.map (·.xs)=(lZ m).take i∧MG aQ 3 H1.length H2.length H1.length i H2 rs)∧ρ 3 = .ptr H.length 0 0 0∧ρ 7 = .ref H1.length i 0 i i∧ρ 27=v∧ρ 28=VI m.length∧ρ 29=VI i) (fun i=>m.length-i) 0
   ⟨Nat.zero_le _,jN hp,bS Vj,⟨[],rfl,rfl,fN,Nat.le_refl _,by simp,by simp,by simp⟩,by (repeat' apply And.intro)<;>first | rfl | trivial | assumption⟩ ?_
  clear g0 g3 g12 g13 g14 dA
  rintro i ρ H2 ⟨hi,J5,ES,⟨rs,Ae,Nk,hM⟩,g3,g7,g27,g28,g29⟩
  by_cases dA:(i:Int)<(m.length:Int)
  ·obtain⟨r,hr⟩:∃r,m[i]? = some r:=⟨_,List.getElem?_eq_getElem (by omega)⟩
   have Ct:=hb r (List.mem_of_getElem? hr)
   obtain⟨p,w,a1,a2,hw⟩:=hv.get H2 J5 i r hr
   have wi:IntKind.i64.wrap ((i:Int)+1)=((i+1:Nat):Int):=wrapN (i+1) (by omega) (by omega)
   have hbh:=hM.bhi
   have s3:cE true 3 (.ptr H.length 0 0 0) H2=some (aQ (cM m)):=by
    rw[bO,ES]
    exact dK _
   simp only[By,g3,g7,g27,g28,g29,dA,a1,a2,s3,fW,VX,Nat.reduceEqDiff,Nat.reduceAdd,Nat.reduceLeDiff,Nat.reduceLT,Nat.reduceSub]
   refine lB rfl (Nf (H:=H2) r (cM m) hd hw (by omega) (by omega) (fun q hq=>by have:=Ct.2 q hq;omega) (by omega)) fun x L3 hx => ?_
   obtain⟨bp,gp,cp,k1,k2,rfl,k3,k4⟩:=hx
   have hM3:=hM.pre (List.prefix_append H2 L3)
   have auG:=bS (L:=L3) ES
   have hp3:=jN (L:=L3) J5
   have hl3:H2.length≤(H2++L3).length:=by rw[List.length_append];omega
   generalize H2++L3=H3 at *
   have e4:TC 64 [VI 1] (aQ 1):=rR 1 (by decide) (by decide)
   have qb:=Hi Ct.2 bm
   have aaW:(r.map (· / cM m)).length*(B+(n*(B+1)+1)+1+1)≤100*(B+(n*(B+1)+1)+1+1):=Nat.mul_le_mul_right _ (by rw[List.length_map];omega)
   simp only[e4,fW,VX,Nat.reduceEqDiff,Nat.reduceAdd,Nat.reduceLeDiff,Nat.reduceLT,Nat.reduceSub]
   refine lB rfl (L8 (H:=H3) (v := .ref bp gp 0 r.length cp) (r.map (· / cM m)) (Rd.row k4 (List.length_map ..).symm) (by omega) qb (by omega) (by omega) (by rw[List.length_map];omega)) fun x L4 hx => ?_
   subst hx
   have hM4:=hM3.pre (List.prefix_append H3 L4)
   have alB:=bS (L:=L4) auG
   have hp4:=jN (L:=L4) hp3
   have hl4:H3.length≤(H3++L4).length:=by rw[List.length_append];omega
   have k5:=bS (L:=L4) k4
   generalize H3++L4=H4 at *
   have b3:=tS (n:=n) qb (Nat.le_of_eq (by rw[List.length_map];exact Ct.1))
   have arD:n*(B+(n*(B+1)+1)+1+1)≤100*(B+(n*(B+1)+1)+1+1):=Nat.mul_le_mul_right _ hn
   have e5:=KB 1 (dY (r.map (· / cM m))) (by rw[HB];omega) (by omega)
   have a3:=bD (o:=0) (n:=r.length) (c:=cp) (i:=i) (k := .i64) k5 (by omega)
   rw[Nat.zero_add] at a3
   have s5:=fJ (lo:=lo) (f:=aQ) (x:=1-dY (r.map (· / cM m))) (j:=i) k5 (by rw[List.length_map];omega) (by omega) rfl rfl
   have hM5:=hM4.cK (H':=H4.set bp (.row gp ((kA (cM m) i r).map aQ) 3 true)) (dI.set (by omega))
   have k6:=cA (g:=gp) (e:=3) (w:=true) (es:=(kA (cM m) i r).map aQ) k5
   have U8:(kA (cM m) i r).length=r.length:=by rw[kA,List.length_set,List.length_map]
   have hk6:=fR k6
   obtain⟨ap,hM6⟩:=hM5.snoc (gP:=lo) Ae.symm (by omega) (by omega) ⟨bp,gp,cp,kA (cM m) i r⟩ k1 (by simp only[U8];rw[List.length_map] at k3;exact k3) k6
   simp only[U8] at ap
   have eL:∀K,jQ false [.slice none 0 0] 1 [(0,.ref bp gp 0 r.length cp)] K=some (.tree [.ref bp gp 0 r.length cp] (.cl 1),K):=fun K=>gD rfl rfl rfl
   have eS:∀K,cT 1 (.tree [.ref bp gp 0 r.length cp] (.cl 1)) K=some [.ref bp gp 0 r.length cp]:=fun K=>dQ rfl rfl
   have s5':bQ lo 3 (.ptr bp gp i 0) (aQ (1-dY (r.map (· / cM m)))) H4=some (H4.set bp (.row gp ((kA (cM m) i r).map aQ) 3 true)):=s5
   simp only[g7,e5,a3,s5',eL,eS,ap,wi,g29,fW,VX,Nat.reduceEqDiff,Nat.reduceAdd,Nat.reduceLeDiff,Nat.reduceLT,Nat.reduceSub]
   refine⟨i+1,by omega,by omega,kQ (kQ hp4 (by omega)) (by omega),cF (by omega) (cF (by omega) alB),⟨rs++[⟨bp,gp,cp,kA (cM m) i r⟩],by rw[List.length_append,Ae];rfl,?_,?_⟩,by (repeat' apply And.intro)<;>first | rfl | trivial | assumption⟩
   ·have rK:(lZ m)[i]? = some (kA (cM m) i r):=by
     rw[lZ,BA (by omega),List.getD_eq_getElem?_getD,hr]
     rfl
    rw[gV rK,List.map_append,Nk]
    rfl
   ·exact hM6.wide (Nat.le_refl _) (by simp)
  ·have oB:i=m.length:=by omega
   subst oB
   rw[List.take_of_length_le (by rw[lZ,uG];exact Nat.le_refl _)] at Nk
   simp only[By,g3,g7,g27,g28,g29,dA,fW,VX,Nat.reduceEqDiff,Nat.reduceAdd,Nat.reduceLeDiff,Nat.reduceLT,Nat.reduceSub]
   have U8:(lZ m).length=m.length:=by rw[lZ,uG]
   exact⟨J5,H1.length,m.length,m.length,rs,by rw[U8],by rw[U8];exact Nat.le_refl _,hM.wide hp.length_le (Nat.le_refl _),Nk⟩
end Go.PM
namespace Go.PM
open Go.Lib
theorem afM {lo hi:Nat} {H:aA}:CG [] lo hi H (.agg [.tree [] .nil]):=⟨_,rfl,.inl ⟨rfl,rfl⟩⟩
abbrev Ca:cG := .row 0 [.tree [] .nil] 1 true
theorem A3 {n:Nat} {K:aA}:aH (List.replicate n cG.dead++Ca::K) n 0=some ([.tree [] .nil],1,true):=by rw[zI,aS]
theorem Vx {n t:Nat} {F:Nat} {args iH:List VV} {bE:List (List ByteArray)} {ok:Bool} {H:aA} {K:VV→aA→Prop} (h:FC F iH (W0 (CG bE) ok)) (xS:Ci.contains F=true) (hf:args.mapM (PM.fz depth H)=some iH) (hr:aH H t 0=some ([.tree [] .nil],1,true)) (hnt:n≤t)
  (hk:∀v H2 H3,bQ n 1 (.ptr t 0 0 0) v H2=some H3→cE true 1 (.ptr t 0 0 0) H3=some v→(∃L',GQ H3 (List.replicate n .dead++L')∧fB n (.eX [v,.sc (.bool ok)])=true∧eK n L'=true∧W0 (CG bE) ok n (.eX [v,.sc (.bool ok)]) L')→K (.eX [v,.sc (.bool ok)]) H2) :
  cQ F args n H K:=by
 refine h.aaO xS hf ?_
 rintro r L ⟨v,rfl,hv⟩ Ef hL
 have hv:=hv.cK dI.move
 rw[←List.length_append] at hv
 have ht:=fR hr
 obtain⟨c,rfl,h1,h2,h3⟩:=hv.own (n:=n) (by omega)
 have hL':eK n L=true:=F8 (by omega) hL
 refine hk (.agg [c]) _ ((H++L).set t (.row 0 [.agg [c]] 1 true)) ?_ ?_ ?_
 ·rw[bU (bS hr) (by exact Nat.zero_lt_one) hnt rfl (by simp[aB,h1])]
  rfl
 ·rw[bO,cA (bS hr)]
  rfl
 ·exact akH (k:=H.length) (lo:=H.length) (hi:=(H++L).length) (by omega) (by rw[List.length_set,List.length_append];omega) ((BB.start.aqK hL').set (by omega)) (by simp[fB,oA,h3]) CG.cK CG.wide (hv.cK (dI.set (by omega))) (Nat.le_refl _) (by rw[List.length_set];exact Nat.le_refl _)
theorem Li {n t:Nat} {H:aA} {bE:Option (List (List ByteArray))} (hr:aH H t 0=some ([.tree [] .nil],1,true)) (hnt:n≤t) (hv:bE=none) :
  bQ n 1 (.ptr t 0 0 0) (.agg [.tree [] .nil]) H=some (H.set t (.row 0 [.agg [.tree [] .nil]] 1 true))∧cE true 1 (.ptr t 0 0 0) (H.set t (.row 0 [.agg [.tree [] .nil]] 1 true))=some (.agg [.tree [] .nil]) ∧
  ∃L,GQ (H.set t (.row 0 [.agg [.tree [] .nil]] 1 true)) (List.replicate n .dead++L)∧fB n (.eX [.agg [.tree [] .nil],.sc (.bool false)])=true∧eK n L=true∧W0 (CG (bE.getD [])) bE.isSome n (.eX [.agg [.tree [] .nil],.sc (.bool false)]) L:=by
 subst hv
 refine⟨?_,?_,_,AJ (by rw[List.length_set];have:=fR hr;omega),rfl,AZ,_,rfl,afM⟩
 ·rw[bU hr (by exact Nat.zero_lt_one) hnt rfl rfl]
  rfl
 ·rw[bO,cA hr]
  rfl
theorem Hh {a:Nat} (h:a≤12):a*(665+1)+1≤7993:=by omega
theorem Qm {qs:List Rat} (h:∀q∈qs,0≤q):0≤dY qs:=by
 have key:∀i,i≤qs.length→0≤dY (qs.take i):=by
  intro i
  induction i with
  | zero=>intro _;show (0:Rat)≤0;exact Rat.le_refl
  |
   succ i ih =>
   intro hi
   have hq:qs[i]? = some qs[i]:=List.getElem?_eq_getElem (by omega)
   rw[A4 hq]
   have h1:=ih (by omega)
   have h2:=h _ (List.getElem_mem (by omega:i<qs.length))
   grind
 have:=key qs.length (Nat.le_refl _)
 rwa [List.take_length] at this
theorem Kb {m:List (List Rat)} (h:∀r∈m,0≤dY r):∀i,0≤iV m i∧0≤dY ((m.map dY).take i)∧(dY ((m.map dY).take i)=0↔iV m i=0)∧(((m.take i).any fun r => !decide (dY r=0)) = !decide (iV m i=0))
 | 0=>⟨Rat.le_refl,Rat.le_refl,⟨fun _=>rfl,fun _=>rfl⟩,rfl⟩
 |
  i+1=>by
  obtain⟨h1,h2,h3,h4⟩:=Kb h i
  cases hr:m[i]? with
  |
   none =>
   have e1:iV m (i+1)=iV m i:=by unfold iV;rw[List.take_add_one,hr];simp
   have e2:(m.map dY).take (i+1)=(m.map dY).take i:=by rw[List.take_add_one,List.getElem?_map,hr];simp
   have e3:m.take (i+1)=m.take i:=by rw[List.take_add_one,hr];simp
   rw[e1,e2,e3]
   exact⟨h1,h2,h3,h4⟩
  |
   some r =>
   have h0:=h r (List.mem_of_getElem? hr)
   have Ef:(m.map dY)[i]? = some (dY r):=by rw[List.getElem?_map,hr];rfl
   rw[zG hr,A4 Ef,gV hr,List.any_append,h4]
   simp only[List.any_cons,List.any_nil,Bool.or_false]
   by_cases hc:iV m i<dY r
   ·rw[if_pos hc]
    have hp:¬dY r=0:=by grind
    have hs:¬dY ((m.map dY).take i)+dY r=0:=by grind
    refine⟨h0,by grind,⟨fun h=>absurd h hs,fun h=>absurd h hp⟩,by simp[hp]⟩
   ·rw[if_neg hc]
    refine⟨h1,by grind,?_,?_⟩
    ·constructor
     ·intro h;exact h3.1 (by grind)
     ·intro h;have:=h3.2 h;grind
    ·by_cases hz:iV m i=0
     ·have:dY r=0:=by grind
      simp[hz,this]
     ·simp[hz]
theorem NZ {m:List (List Rat)} {n B:Nat} (hm:m.length=n) (hb:∀r∈m,r.length=n∧∀q∈r,aZ q≤B) (hn:n≤100) (hB:B≤1000000):(lZ m).length=n∧∀r∈lZ m,r.length=n∧∀q∈r,aZ q≤100000000000:=by
 refine⟨by rw[lZ,uG,hm],fun r hr => ?_⟩
 obtain⟨i,hi,rfl⟩:=GF.1 hr
 have hgi:m[i]? = some m[i]:=List.getElem?_eq_getElem hi
 have Ct:=hb _ (List.getElem_mem hi)
 rw[List.getD_eq_getElem?_getD,hgi,Option.getD_some]
 have bm:=tG (n:=n) (B:=B) (fun r hr=>⟨Nat.le_of_eq (hb r hr).1,(hb r hr).2⟩) m.length
 rw[←cM] at bm
 have qb:=Hi Ct.2 bm
 have hl:(m[i].map (· / cM m)).length=n:=by rw[List.length_map];exact Ct.1
 have b3:=tS qb (Nat.le_of_eq hl)
 have m1:n*(B+1)≤100*(B+1):=Nat.mul_le_mul_right _ hn
 have m2:n*(B+(n*(B+1)+1)+1+1)≤100*(B+(n*(B+1)+1)+1+1):=Nat.mul_le_mul_right _ hn
 have b4:=W1 1 (dY (m[i].map (· / cM m)))
 rw[HB] at b4
 refine⟨by rw[kA,List.length_set,hl],Y9 (fun q hq => ?_) (by omega)⟩
 have:=qb q hq
 omega
end Go.PM
namespace Go.PM
abbrev E9:=Nat×Nat×Rat
def FF (F:Nat→Nat→Rat) (i j:Nat) (q:Rat) (a b:Nat):Rat:=if i≠j∧a=i∧b=j then F a b+q else F a b
theorem WE {F:Nat→Nat→Rat} {i:Nat} {q:Rat}:FF F i i q=F:=by
 funext a b
 exact if_neg fun h=>h.1 rfl
def Gp (F:Nat→Nat→Rat) (L:List E9):Nat→Nat→Rat:=L.foldl (fun F t=>FF F t.1 t.2.1 t.2.2) F
def fH (L:List E9):Nat→Nat→Rat:=Gp (fun _ _=>0) L
theorem Ff {F:Nat→Nat→Rat} {t:E9} {L:List E9}:Gp F (t::L)=Gp (FF F t.1 t.2.1 t.2.2) L:=rfl
theorem G0 {F:Nat→Nat→Rat} {L M:List E9}:Gp F (L++M)=Gp (Gp F L) M:=List.foldl_append
theorem Fa {L:List E9} {i j:Nat} {q:Rat}:fH (L++[(i,j,q)])=FF (fH L) i j q:=G0
theorem Fp {L:List E9} {i:Nat} {q:Rat}:fH (L++[(i,i,q)])=fH L:=by rw[Fa,WE]
theorem Lu {Q:Nat}:∀(L:List E9) (F:Nat→Nat→Rat) (B:Nat),(∀t∈L,aZ t.2.2≤Q)→(∀a b,aZ (F a b)≤B)→∀a b,aZ (Gp F L a b)≤B+L.length*(Q+1)
 |
  [],F,B,_,hF,a,b=>by
  have:=hF a b
  show aZ (F a b)≤_
  omega
 |
  t::L,F,B,hL,hF,a,b=>by
  rw[Ff]
  have ht:=hL t List.mem_cons_self
  have:=Lu L (FF F t.1 t.2.1 t.2.2) (B+(Q+1)) (fun s hs=>hL s (List.mem_cons_of_mem _ hs)) (fun a b=>by
   unfold FF
   have h1:=hF a b
   have h2:=Ib (F a b) t.2.2
   split<;>omega) a b
  rw[List.length_cons,Nat.succ_mul]
  omega
theorem Ka {Q:Nat} {L:List E9} (h:∀t∈L,aZ t.2.2≤Q) (a b:Nat):aZ (fH L a b)≤1+L.length*(Q+1) :=
 Lu L _ 1 h (fun _ _=>by show aZ 0≤1;rw[Fh];exact Nat.le_refl _) a b
theorem KT:∀(L:List E9) (F:Nat→Nat→Rat),(∀t∈L,0≤t.2.2)→∀a b,F a b≤Gp F L a b
 | [],F,_,a,b=>Rat.le_refl
 |
  t::L,F,hL,a,b=>by
  rw[Ff]
  have ht:=hL t List.mem_cons_self
  have h1:=KT L (FF F t.1 t.2.1 t.2.2) (fun s hs=>hL s (List.mem_cons_of_mem _ hs)) a b
  have h2:F a b≤FF F t.1 t.2.1 t.2.2 a b:=by
   unfold FF
   split<;>grind
  exact Rat.le_trans h2 h1
theorem G1 {L:List E9} (h:∀t∈L,0≤t.2.2) (a b:Nat):0≤fH L a b:=KT L _ h a b
theorem W8 {L:List E9} {i j:Nat} {q:Rat} (h:∀t∈L,0≤t.2.2) (ht:(i,j,q)∈L) (O6:i≠j) (hq:0<q):0<fH L i j:=by
 obtain⟨s,r,rfl⟩:=List.append_of_mem ht
 have hs:∀t∈s,0≤t.2.2:=fun t ht=>h t (List.mem_append_left _ ht)
 have hr:∀t∈r,0≤t.2.2:=fun t ht=>h t (List.mem_append_right _ (List.mem_cons_of_mem _ ht))
 have h1:=KT r (FF (fH s) i j q) hr i j
 have h2:fH (s++(i,j,q)::r)=Gp (FF (fH s) i j q) r:=by
  unfold fH
  rw[G0,Ff]
 rw[h2]
 have h3:=G1 hs i j
 have h4:FF (fH s) i j q i j=fH s i j+q:=if_pos ⟨O6,rfl,rfl⟩
 rw[h4] at h1
 grind
theorem afK {qs:List Rat} (h:∀q∈qs,0≤q) {q:Rat} (hq:q∈qs):q≤dY qs:=by
 have key:∀i,i≤qs.length→0≤dY (qs.take i)∧∀p∈qs.take i,p≤dY (qs.take i):=by
  intro i
  induction i with
  | zero=>intro _;exact⟨by show (0:Rat)≤0;exact Rat.le_refl,by simp⟩
  |
   succ i ih =>
   intro hi
   have hq:qs[i]? = some qs[i]:=List.getElem?_eq_getElem (by omega)
   obtain⟨h1,h2⟩:=ih (by omega)
   have h3:=h _ (List.getElem_mem (by omega:i<qs.length))
   rw[A4 hq]
   refine⟨by grind,fun p hp => ?_⟩
   rw[gV hq] at hp
   rcases List.mem_append.1 hp with hp | hp
   ·have:=h2 p hp
    grind
   ·rw[List.mem_singleton] at hp
    subst hp
    grind
 have:=(key qs.length (Nat.le_refl _)).2
 rw[List.take_length] at this
 exact this q hq
theorem TQ {N:Nat} {L:List E9} {i j:Nat} {q:Rat} (h:∀t∈L,0≤t.2.2) (ht:(i,j,q)∈L) (O6:i≠j) (hq:0<q) (hi:i<N) (hj:j<N):cM (MU N N (fH L))≠0:=by
 have hnn:∀r∈MU N N (fH L),∀q∈r,0≤q:=fun r hr q hq=>by
  obtain⟨a,_,rfl⟩:=Vf hr
  obtain⟨b,_,rfl⟩:=GF.1 hq
  exact G1 h a b
 obtain⟨_,_,_,h4⟩:=Kb (fun r hr=>Qm (hnn r hr)) (MU N N (fH L)).length
 rw[List.take_length] at h4
 intro h0
 rw[←cM,h0,decide_eq_true rfl,Bool.not_true] at h4
 have kD:=List.mem_of_getElem? (Wy (m:=N) (F:=fH L) hi)
 have h5:=List.any_eq_false.1 h4 _ kD
 have h6:=afK (hnn _ kD) (q:=fH L i j) (GF.2 ⟨j,hj,rfl⟩)
 have h7:=W8 h ht O6 hq
 simp only[Bool.not_eq_true',decide_eq_false_iff_not,not_true_eq_false,Classical.not_not] at h5
 rw[h5] at h6
 grind
theorem Tv {Q N:Nat} {L:List E9} (h:∀t∈L,aZ t.2.2≤Q):∀r∈MU N N (fH L),r.length=N∧∀q∈r,aZ q≤1+L.length*(Q+1):=fun r hr=>by
 obtain⟨a,_,rfl⟩:=Vf hr
 refine⟨uG ..,fun q hq => ?_⟩
 obtain⟨b,_,rfl⟩:=GF.1 hq
 exact Ka h a b
def akN (N:Nat) (L:List E9):Option (List (List ByteArray)):=uU (lZ (MU N N (fH L)))
end Go.PM
namespace Go.PM
theorem LR {a b:ByteArray}:abQ [a,b]=match qT a,qT b with
  | some x,some y=>some [x,y]
  | _,_=>none:=by
 unfold abQ
 cases ha:qT a<;>cases hb:qT b<;>simp[List.mapM_cons,ha,hb]
def HZ (o:Option (Nat×List E9)):Option (List (List ByteArray)):=o.bind fun p=>akN p.1 p.2
def tM (p:Nat×List E9):List (List Rat):=MU p.1 p.1 (fH p.2)
structure QOk (p:Nat×List E9):Prop where
 n:p.1≤12
 l:p.2.length≤400
 t:∀t∈p.2,aZ t.2.2≤1331∧0≤t.2.2
 s:∃i j q,(i,j,q)∈p.2∧i≠j∧0<q∧i<p.1∧j<p.1
theorem QOk.aoX {p:Nat×List E9} (h:QOk p):cM (tM p)≠0:=by
 obtain⟨i,j,q,h1,h2,h3,h4,h5⟩:=h.s
 exact TQ (fun t ht=>(h.t t ht).2) h1 h2 h3 h4 h5
theorem QOk.rows {p:Nat×List E9} (h:QOk p):∀r∈tM p,r.length=p.1∧∀q∈r,aZ q≤600000:=fun r hr=>by
 obtain⟨h1,h2⟩:=Tv (Q:=1331) (fun t ht=>(h.t t ht).1) r hr
 have h3:p.2.length*(1331+1)≤400*(1331+1):=Nat.mul_le_mul_right _ h.l
 exact⟨h1,fun q hq=>by have:=h2 q hq;omega⟩
theorem BM {p:Nat×List E9}:(tM p).length=p.1:=FP ..
theorem Hn {x:ByteArray} {q:Rat} (h:qT x=some q):aZ q≤665∧0<q:=⟨aeF (Hx h).1,(Hx h).2⟩
theorem DM {x:ByteArray} {q:Rat} (h:qT x=some q):aZ q≤1331∧0≤q:=⟨by have:=(Hn h).1;omega,Rat.le_of_lt (Hn h).2⟩
def kZ (x y:Rat) (gr nA:Nat):Nat→List E9
 | 0=>[]
 | n+1=>kZ x y gr nA n++[(n,min (n+1) nA,x),(n,n-gr,y)]
def lT (a s:ByteArray) (gr nA:Int):Option (Nat×List E9):=match qT a,qT s with
 | some x,some y=>if (1≤gr∧gr≤12)∧1≤nA∧nA≤11 then some (nA.toNat+1,kZ x y gr.toNat nA.toNat (nA.toNat+1)) else none
 | _,_=>none
theorem KH {P:E9→Prop} {x y:Rat} {gr nA:Nat} (h:∀n,P (n,min (n+1) nA,x)∧P (n,n-gr,y)):∀n,∀t∈kZ x y gr nA n,P t
 | 0,t,ht=>by cases ht
 |
  n+1,t,ht=>by
  rcases List.mem_append.1 ht with ht | ht
  ·exact KH h n t ht
  ·simp only[List.mem_cons,List.not_mem_nil,or_false] at ht
   rcases ht with rfl | rfl
   ·exact(h n).1
   ·exact(h n).2
theorem Bz {x y:Rat} {gr nA:Nat}:∀n,(kZ x y gr nA n).length=2*n
 | 0=>rfl
 | n+1=>by rw[kZ,List.length_append,Bz n];simp;omega
theorem Le {x y:Rat} {gr nA:Nat} (hl:1≤nA):∀n,1≤n→(0,1,x)∈kZ x y gr nA n
 |
  n+1,_=>by
  by_cases hn:n=0
  ·subst hn
   rw[kZ]
   have:min (0+1) nA=1:=by omega
   rw[this]
   simp
  ·rw[kZ]
   exact List.mem_append_left _ (Le hl n (by omega))
theorem HV {a s:ByteArray} {gr nA:Int} {p:Nat×List E9} (h:lT a s gr nA=some p):QOk p:=by
 unfold lT at h
 split at h
 ·rename_i x y hx hy
  split at h
  ·rename_i hc
   cases h
   exact⟨by simp only[];omega,by simp only[];rw[Bz];omega,KH (P:=fun t=>aZ t.2.2≤1331∧0≤t.2.2) (fun n=>⟨DM hx,DM hy⟩) _,0,1,x,Le (by omega) _ (by omega),by decide,(Hn hx).2,by simp only[];omega,by simp only[];omega⟩
  ·cases h
 ·cases h
end Go.PM
namespace Go.PM
theorem Ma (q:Rat):(aB (aQ q)).all bP=true:=rfl
def aeO (F:Nat→Nat→Rat) (i j:Nat) (y:Rat) (a b:Nat):Rat:=if a=i∧b=j then y else F a b
theorem Rp {F:Nat→Nat→Rat} {i j:Nat} {q:Rat} (h:i≠j):FF F i j q=aeO F i j (F i j+q):=by
 funext a b
 unfold FF aeO
 by_cases hc:a=i∧b=j
 ·obtain⟨rfl,rfl⟩:=hc
  rw[if_pos ⟨h,rfl,rfl⟩,if_pos ⟨rfl,rfl⟩]
 ·rw[if_neg hc,if_neg fun k=>hc k.2]
def Tb (f:Rat→VV) (lo hi N M b g:Nat) (F:Nat→Nat→Rat) (H:aA):Prop:=∃rs,MG f 3 lo hi b g H rs∧rs.map (·.xs)=MU N M F
def JG (lo hi:Nat) (H H':aA):Prop:=H'.length=H.length∧∀b g x,b<lo∨hi≤b→aH H b g=some x→aH H' b g=some x
theorem JG.refl {lo hi:Nat} {H:aA}:JG lo hi H H:=⟨rfl,fun _ _ _ _ h=>h⟩
section
variable {f:Rat→VV} {lo hi N M b g:Nat} {F:Nat→Nat→Rat} {H H':aA}
theorem Tb.cK (h:Tb f lo hi N M b g F H) (hk:dI lo hi H H'):Tb f lo hi N M b g F H':=by
 obtain⟨rs,h1,h2⟩:=h
 exact⟨rs,h1.cK hk,h2⟩
theorem Tb.pre (h:Tb f lo hi N M b g F H) (hh:H <+: H'):Tb f lo hi N M b g F H':=h.cK (dI.pre hh)
theorem Tb.congr {G:Nat→Nat→Rat} (h:Tb f lo hi N M b g F H) (hF:∀a c,a<N→c<M→F a c=G a c):Tb f lo hi N M b g G H:=by
 obtain⟨rs,h1,h2⟩:=h
 exact⟨rs,h1,h2.trans (Ox hF)⟩
theorem Tb.lt (h:Tb f lo hi N M b g F H):lo≤b∧b<hi∧b<H.length:=by
 obtain⟨rs,h1,_⟩:=h
 exact⟨h1.blo,h1.bhi,fR h1.out⟩
theorem Tb.addr {c i:Nat} (h:Tb f lo hi N M b g F H) (mC:i<N):bK 1 (.ref b g 0 N c) (VI i) H=some (.ptr b g i 0):=by
 obtain⟨rs,h1,_⟩:=h
 exact h1.addr mC
theorem Tb.len {c:Nat} (h:Tb f lo hi N M b g F H):oK (.ref b g 0 N c) H=some (VI N):=by
 obtain⟨rs,h1,_⟩:=h
 exact h1.len
theorem Tb.rdT {c:Nat} (h:Tb f lo hi N M b g F H):YW f 3 (MU N M F) H (.ref b g 0 N c):=by
 obtain⟨rs,h1,h2⟩:=h
 have hl:=congrArg List.length h2
 rw[List.length_map,FP] at hl
 rw[←h2]
 exact h1.rdT hl.symm
theorem Tb.fz {d c:Nat} (h:Tb f lo hi N M b g F H) (hc:N≤c) (hp:∀x,aP (f x)=true):PM.fz (d+3) H (.ref b g 0 N c)=some (bI (bI f) (MU N M F)):=by
 obtain⟨rs,h1,h2⟩:=h
 have hl:=congrArg List.length h2
 rw[List.length_map,FP] at hl
 rw[←h2,←hl]
 exact h1.fz (by omega) hp
theorem TabIs.tb {v:VV} (h:TabIs f 3 (MU N M F) lo hi H v):∃b g c,v = .ref b g 0 N c∧N≤c∧Tb f lo hi N M b g F H:=by
 obtain⟨b,g,c,rs,h1,h2,h3,h4⟩:=h
 rw[FP] at h1 h2
 exact⟨b,g,c,h1,h2,rs,h3,h4⟩
theorem Tb.spot {i j:Nat} (h:Tb f lo hi N M b g F H) (mC:i<N) (hj:j<M) (hfs:∀x,(aB (f x)).length=3) (hfa:∀x,(aB (f x)).all bP=true) :
  ∃rb rg rc,cE false 1 (.ptr b g i 0) H=some (.ref rb rg 0 M rc)∧bK 3 (.ref rb rg 0 M rc) (VI j) H=some (.ptr rb rg j 0)∧(∀ag,cE ag 3 (.ptr rb rg j 0) H=dC ag 3 (f (F i j)) 0) ∧
  ∀gP y,gP≤lo→∃H',bQ gP 3 (.ptr rb rg j 0) (f y) H=some H'∧JG lo hi H H'∧Tb f lo hi N M b g (aeO F i j y) H'∧∀k,cE false 1 (.ptr b g k 0) H'=cE false 1 (.ptr b g k 0) H:=by
 obtain⟨rs,hM,hx⟩:=h
 have hl:=congrArg List.length hx
 rw[List.length_map,FP] at hl
 obtain⟨r,hr⟩:∃r,rs[i]? = some r:=⟨_,List.getElem?_eq_getElem (by omega)⟩
 have PA:r.xs=vec M (F i):=by
  have h1:(rs.map (·.xs))[i]? = some r.xs:=by rw[List.getElem?_map,hr];rfl
  rw[hx,Wy mC] at h1
  exact(Option.some.inj h1).symm
 have Ae:r.xs.length=M:=by rw[PA,uG]
 have hgj:r.xs[j]? = some (F i j):=by rw[PA,BA hj]
 refine⟨r.b,r.g,r.c,?_,hM.at hr hj,fun ag=>hM.get hr hgj,fun gP y dL => ?_⟩
 ·have:=hM.cell hr
  rw[Ae] at this
  exact this
 ·have h1:=hM.put (j:=j) (gP:=gP) (y:=y) hr (by omega) dL (hfs y) (hfa y)
  have h2:=hM.set (ys:=r.xs.set j y) hr (by rw[List.length_set])
  have Ct:=hM.rows.row r (List.mem_of_getElem? hr)
  refine⟨_,h1,⟨by rw[List.length_set],fun b' g' x uD Uy=>cF (by have h7:=Ct.1;have h8:=Ct.2.1;omega) Uy⟩,⟨_,h2,?_⟩,fun k => ?_⟩
  ·have e:(rs.set i { r with xs:=r.xs.set j y }).map (fun r:vC Rat=>r.xs)=(rs.map (fun r:vC Rat=>r.xs)).set i (r.xs.set j y):=List.map_set
   rw[e,hx,PA,Vu,aeZ]
   exact Ox fun a c _ _=>by unfold aeO;by_cases ha:a=i<;>by_cases hc:c=j<;>simp[ha,hc]
  ·rw[bO,bO,cF Ct.2.2.1 hM.out,hM.out]
end
theorem SQ {N:Nat}:List.replicate N (List.replicate N (0:Rat))=MU N N fun _ _=>0:=X3
end Go.PM
namespace Go.PM
open Go.Lib
end Go.PM
namespace Go.PM
end Go.PM
namespace Go.PM
open Go.Lib
theorem acA (d:Nat) (h:d≤9223372036854775807):TC 219 [VI (d:Int)] (bB (decDigits d)):=by
 have:=MF (d:Int) (by omega) (by omega)
 rw[if_neg (by omega),List.nil_append,Int.natAbs_natCast] at this
 exact this
theorem ZS {n i:Nat} (hi:i+1=(aC 1000000000 n).length):n / 1000000000^i=n / 1000000000^i % 1000000000:=by
 have h1:=Yo (b:=1000000000) (by decide) n (i+1)
 rw[List.drop_of_length_le (by omega)] at h1
 have h2:=(lL (b:=1000000000) (by decide)).1 h1.symm
 rw[rM] at h2
 rcases Nat.div_eq_zero_iff.1 h2 with h | h
 ·exact absurd h (by decide)
 ·exact(Nat.mod_eq_of_lt h).symm
theorem IY (l:List UInt8) (a b:Nat):(⟨l.toArray⟩:ByteArray).extract a b=⟨((l.drop a).take (b-a)).toArray⟩:=by
 rw[ByteArray.ext_iff,ByteArray.data_extract]
 simp[List.extract_toArray,List.extract_eq_take_drop]
theorem abA (l:List UInt8) {a b:Nat} (h:a≤b) (hb:b≤l.length):uL (bB l) (some (VI (a:Int))) (some (VI (b:Int)))=some (bB ((l.drop a).take (b-a))):=by
 have hs:(⟨l.toArray⟩:ByteArray).size=l.length:=by simp[ByteArray.size]
 have e1:(0:Int)≤b∧(b:Int)≤(l.length:Int):=by omega
 have e2:(0:Int)≤a∧(a:Int)≤(b:Int):=by omega
 simp only[uL,EV,yT,hs,eT,e1,e2,and_self,if_true,Int.toNat_natCast,IY]
theorem NY (l:List UInt8) {a:Nat} (h:a≤l.length):uL (bB l) (some (VI (a:Int))) none=some (bB (l.drop a)):=by
 have hs:(⟨l.toArray⟩:ByteArray).size=l.length:=by simp[ByteArray.size]
 have e2:(0:Int)≤a∧(a:Int)≤(l.length:Int):=by omega
 simp only[uL,EV,yT,hs,eT,e2,and_self,if_true,Int.toNat_natCast,IY]
 rw[List.take_of_length_le (by simp)]
theorem aqP (l:List UInt8) (h:1≤l.length):uL (bB l) (some (VI 1)) none=some (bB (l.drop 1)):=NY l h
theorem WB {a:Nat} (h:a<1000000000):IntKind.i64.wrap ((a:Int)+1000000000)=((a+1000000000:Nat):Int):=wrapN _ (by omega) (by omega)
theorem nX (n:Nat) (hn:bl n≤2199023255552):TC 208 [bY n] (bB (decDigits n)):=by
 refine TC.walk ⟨true,false⟩ F9 rfl (Nat.le_of_ble_eq_true rfl) (by simp[aM,cI]) rfl ?_
 by_cases h0:n=0
 ·subst h0
  have hl:(((aC 1000000000 0).length:Nat):Int)=0:=by rw[cB];rfl
  simp only[uY,rP,cN,hl,VX,Nat.reduceEqDiff,Nat.reduceAdd]
  rw[iL (by decide)]
  exact aI rfl
 have hl:¬(((aC 1000000000 n).length:Nat):Int)=0:=by have:=(qI (n:=n)).2 h0;omega
 obtain⟨L,hL⟩:∃L,(aC 1000000000 n).length=L+1:=⟨(aC 1000000000 n).length-1,by omega⟩
 have CD:=oN (n:=n) (by omega)
 have hlT:=aiD n
 have hdl:=AY n
 have w1:IntKind.i64.wrap (((L+1:Nat):Int)-1)=(L:Int):=wrapN _ (by omega) (by omega)
 have w2:IntKind.i64.wrap (((L+1:Nat):Int)-2)=(L:Int)-1:=by rw[wrap64 (by omega) (by omega)];omega
 have at':∀i,i≤L→bK 1 (bY n) (VI (i:Int)) []=some (.cU (tV (n / 1000000000^i % 1000000000)) 0):=fun i hi=>aL (f:=tV) (t := .op) (H:=[]) (size:=1) (k := .i64) (KI (b:=1000000000) (by decide) (n:=n) (i:=i) (by omega)) rfl
 have eL:=at' L (Nat.le_refl _)
 have Z4:=ZS (n:=n) (i:=L) (by omega)
 rw[←Z4] at eL
 have Qe:n / 1000000000^L≠0:=(DK (b:=1000000000) (by decide)).1 (by omega)
 have hqT:n / 1000000000^L<1000000000:=by rw[Z4];exact Nat.mod_lt _ (by decide)
 have c1:=acA (n / 1000000000^L) (by omega)
 rw[hL] at hl
 simp only[uY,rP,cN,hL,hl,w1,w2,eL,c1,VX,Nat.reduceEqDiff,Nat.reduceAdd]
 refine aT (fun(j:Nat) ρ H=>j≤L∧H=[]∧ρ 0=bY n∧ρ 3=bB (decDigits (n / 1000000000^j))∧ρ 4=VI ((j:Int)-1)) (fun j=>j) L ⟨Nat.le_refl _,rfl,rfl,rfl,rfl⟩ ?_
 rintro j ρ H ⟨hj,rfl,g0,g3,g4⟩
 by_cases hz:(0:Int)≤(j:Int)-1
 ·obtain⟨i,rfl⟩:∃i,j=i+1:=⟨j-1,by omega⟩
  have Ht:((i+1:Nat):Int)-1=(i:Int):=by omega
  rw[Ht] at g4 hz
  have e1:=at' i (by omega)
  have hm:=Nat.mod_lt (n / 1000000000^i) (show 0<1000000000 by decide)
  have hq1:n / 1000000000^(i+1)≠0:=(DK (b:=1000000000) (by decide)).1 (by omega)
  have hdm:=Nat.mod_add_div (n / 1000000000^i) 1000000000
  rw[←rM] at hdm
  have hch:=Hz (Nat.pos_of_ne_zero hq1) hm
  have hle:n / 1000000000^i≤n:=Nat.div_le_self _ _
  have Y2:=AY (n / 1000000000^i)
  have hbi:=kB hle
  rw[show n / 1000000000^(i+1)*1000000000+n / 1000000000^i % 1000000000=n / 1000000000^i by omega] at hch
  generalize hAA:n / 1000000000^i=A at *
  generalize n / 1000000000^(i+1)=B at *
  have w4:IntKind.i64.wrap ((i:Int)-1)=(i:Int)-1:=wrap64 (by omega) (by omega)
  have c2:=acA (A % 1000000000+1000000000) (by omega)
  rw[agC hm] at c2
  have e2:=aqP (d10 1::Cp 9 (A % 1000000000)) (by simp)
  rw[List.drop_succ_cons,List.drop_zero] at e2
  have hlen:=congrArg List.length hch
  rw[List.length_append] at hlen
  have a1:=qP (decDigits B) (Cp 9 (A % 1000000000)) (by omega)
  rw[←hch] at a1
  have auV:i≤L:=by omega
  have hmu:i<i+1:=by omega
  have w3:=WB hm
  simp only[qV,g0,g3,g4,hz,e1,w3,w4,c2,e2,a1,VX,Nat.reduceEqDiff,Nat.reduceAdd]
  refine⟨i,hmu,auV,?_⟩
  rw[hAA]
  exact⟨rfl,rfl⟩
 ·have Um:j=0:=by omega
  subst Um
  rw[Nat.pow_zero,Nat.div_one] at g3
  simp only[qV,g0,g3,g4,hz,VX,Nat.reduceEqDiff,Nat.reduceAdd]
  exact aI rfl
theorem L7 (q:Rat) (hk:aZ q≤1099511627776):TC 188 [bA q] (VB (vP q)):=by
 refine TC.walk ⟨true,false⟩ Kj rfl (Nat.le_of_ble_eq_true rfl) (by simp[aM,jL]) rfl ?_
 have la:=tR hk
 have lb:=tJ hk
 have t1:=nX q.num.natAbs (by omega)
 have t2:=nX q.den (by omega)
 have hf:vP q=(decide (((decDigits q.num.natAbs).length:Int)≤200)&&decide (((decDigits q.den).length:Int)≤200)):=by
  unfold vP
  congr 1<;>exact decide_eq_decide.2 (by omega)
 rw[hf]
 by_cases hl:((decDigits q.num.natAbs).length:Int)≤200
 ·simp only[Bi,xL,t1,t2,hl,bM,bZ,fQ,gH,gC,aK,iR,Nat.reduceLeDiff,Nat.reduceLT,Nat.reduceSub,VX,Nat.reduceEqDiff,Nat.reduceAdd]
  exact aI rfl
 ·simp only[Bi,xL,t1,t2,hl,bM,bZ,fQ,gH,gC,aK,iR,Nat.reduceLeDiff,Nat.reduceLT,Nat.reduceSub,VX,Nat.reduceEqDiff,Nat.reduceAdd]
  exact aI rfl
theorem Ku (q:Rat) (hk:aZ q≤1099511627776):TC 189 [bA q] (bB (Eg q)):=by
 refine TC.walk ⟨true,false⟩ Kx rfl (Nat.le_of_ble_eq_true rfl) (by simp[aM,jL]) rfl ?_
 have la:=tR hk
 have lb:=tJ hk
 have t1:=nX q.num.natAbs (by omega)
 have t2:=nX q.den (by omega)
 have d1:=AY q.num.natAbs
 have d2:=AY q.den
 have c1:∀lo H K,_:=fun lo H K=>J0 (n:=q.den) (lo:=lo) (H:=H) (K:=K) (Nat.le_of_lt (oN (by omega)))
 have a1:dH .add (.string ⟨#[45]⟩) (.string ⟨(decDigits q.num.natAbs).toArray⟩)=some (.string ⟨(45::decDigits q.num.natAbs).toArray⟩):=qP [45] _ (by simp only[List.length_cons,List.length_nil];omega)
 have a2:dH .add (.string ⟨#[47]⟩) (.string ⟨(decDigits q.den).toArray⟩)=some (.string ⟨(47::decDigits q.den).toArray⟩):=qP [47] (decDigits q.den) (by simp only[List.length_cons,List.length_nil];omega)
 have a3:=qP (45::decDigits q.num.natAbs) (47::decDigits q.den) (by simp only[List.length_cons];omega)
 have a4:=qP (decDigits q.num.natAbs) (47::decDigits q.den) (by simp only[List.length_cons];omega)
 have hs:Eg q=(if q.num<0 then (45::decDigits q.num.natAbs) else decDigits q.num.natAbs)++(if q.den=1 then [] else 47::decDigits q.den):=by
  unfold Eg
  by_cases hn:q.num<0
  ·rw[if_pos hn,if_pos hn];rfl
  ·rw[if_neg hn,if_neg hn];rfl
 rw[hs]
 by_cases hd:eW q.den 1=0
 ·rw[if_pos (AF.1 hd),List.append_nil]
  by_cases hn:q.num<0
  all_goals
   simp only[Bu,wS,t1,t2,a1,a2,a3,a4,c1,hd,hn,dU,bZ,fQ,gH,gC,aK,iR,Nat.reduceLeDiff,Nat.reduceLT,Nat.reduceSub,VX,Nat.reduceEqDiff,Nat.reduceAdd]
   exact aI rfl
 ·rw[if_neg (mt AF.2 hd)]
  by_cases hn:q.num<0
  all_goals
   simp only[Bu,wS,t1,t2,a1,a2,a3,a4,c1,hd,hn,dU,bZ,fQ,gH,gC,aK,iR,Nat.reduceLeDiff,Nat.reduceLT,Nat.reduceSub,VX,Nat.reduceEqDiff,Nat.reduceAdd]
   exact aI rfl
theorem Lv (q:Rat) (hk:aZ q≤1099511627776):TC 171 [bA q] (Rn q):=by
 refine TC.walk ⟨true,false⟩ Mr rfl (Nat.le_of_ble_eq_true rfl) (by simp[aM,jL]) (XP q) ?_
 have t1:=L7 q hk
 have t2:=Ku q hk
 unfold Rn
 by_cases h:vP q=true
 ·rw[h] at t1
  rw[if_pos h]
  simp only[Bb,wU,t1,t2,bZ,fF,mH,aK,iR,Nat.reduceLeDiff,Nat.reduceLT,Nat.reduceSub,VX,Nat.reduceEqDiff,Nat.reduceAdd]
  exact aI rfl
 ·have h':vP q=false:=by simpa using h
  rw[h'] at t1
  rw[if_neg h]
  simp only[Bb,wU,t1,bZ,fF,mH,aK,iR,Nat.reduceLeDiff,Nat.reduceLT,Nat.reduceSub,VX,Nat.reduceEqDiff,Nat.reduceAdd]
  exact aI rfl
end Go.PM
namespace Go.PM
open Go.Lib
def gW (c:UInt8):List UInt8→List (List UInt8)
 | []=>[[]]
 |
  x::r=>if x=c then []::gW c r else match gW c r with
  | []=>[[x]]
  | a::t=>(x::a)::t
theorem LU {c:UInt8} {r:List UInt8}:∀ {a:List UInt8},c∉a→gW c (a++c::r)=a::gW c r:=by
 intro a
 induction a with
 | nil=>intro _;rw[List.nil_append,gW,if_pos rfl]
 |
  cons x a ih =>
  intro h
  rw[List.mem_cons,not_or] at h
  rw[List.cons_append,gW,if_neg (fun he=>h.1 he.symm),ih h.2]
theorem Fo {c:UInt8}:∀ {a:List UInt8},c∉a→gW c a=[a]:=by
 intro a
 induction a with
 | nil=>intro _;rfl
 |
  cons x a ih =>
  intro h
  rw[List.mem_cons,not_or] at h
  rw[gW,if_neg (fun he=>h.1 he.symm),ih h.2]
theorem T0 {c:UInt8} (l:List UInt8):gW c l≠[]:=by
 cases l with
 | nil=>simp[gW]
 |
  cons x r =>
  rw[gW]
  split
  ·simp
  ·split<;>simp
theorem QA {c:UInt8} {l:List UInt8} (h:(lX c l).2=none):gW c l=[l]:=Fo (Ap h).2.2
theorem Jc {c:UInt8} {l r:List UInt8} (h:(lX c l).2=some r):gW c l=(lX c l).1::gW c r:=by
 obtain⟨_,h2,h3⟩:=Hj h
 have:=LU (r:=r) h3
 rw[←h2] at this
 exact this
theorem QL {c:UInt8} {l:List UInt8} (h:c∈l):2≤(gW c l).length:=by
 cases hc:(lX c l).2 with
 | none=>exact absurd h (Ap hc).2.2
 |
  some r =>
  rw[Jc hc,List.length_cons]
  have:=List.length_pos_iff.2 (T0 (c:=c) r)
  omega
theorem WX {l:List UInt8} {i:Nat} (h:i<l.length):(l.take (i+1)).all iB=((l.take i).all iB&&iB (l.getD i 0)):=by
 rw[List.take_add_one,List.all_append]
 have:l[i]? = some (l.getD i 0):=by rw[List.getElem?_eq_getElem h,List.getD_eq_getElem?_getD,List.getElem?_eq_getElem h];rfl
 rw[this]
 simp
set_option maxHeartbeats 1000000 in
theorem pB (l:List UInt8) (hl:l.length≤1000000000000):TC 168 [bB l] (VB (gY l)):=by
 refine TC.walk ⟨true,false⟩ HK rfl (Nat.le_of_ble_eq_true rfl) rfl rfl ?_
 simp only[C8,Ax,VX,Nat.reduceEqDiff,Nat.reduceAdd]
 refine aT (fun(i:Nat) ρ H=>i≤l.length∧H=[]∧(l.take i).all iB=true∧ρ 0=bB l∧ρ 3=VI i) (fun i=>l.length-i) 0 ⟨Nat.zero_le _,rfl,rfl,rfl,rfl⟩ ?_
 rintro i ρ H ⟨hi,rfl,hd,g0,g3⟩
 by_cases dA:(i:Int)<(l.length:Int)
 ·have UF:i<l.length:=by omega
  have e1:=Dk l UF
  have wi:IntKind.i64.wrap ((i:Int)+1)=((i+1:Nat):Int):=wrapN (i+1) (by omega) (by omega)
  have ht:=WX UF
  rw[hd,Bool.true_and] at ht
  have Uz:iB (l.getD i 0)=(decide (48≤(l.getD i 0).toNat)&&decide ((l.getD i 0).toNat≤57)):=rfl
  have pE:iB (l.getD i 0)=false→gY l=false:=by
   intro h
   rw[h] at ht
   have:l.all iB=false:=by rw[←List.take_append_drop (i+1) l,List.all_append,ht,Bool.false_and]
   unfold gY
   rw[this]
   rfl
  generalize (l.getD i 0).toNat=c at *
  by_cases q1:(c:Int)<48
  ·rw[pE (by rw[Uz,decide_eq_false (by omega)];rfl)]
   simp only[dR,g0,g3,bM,dA,e1,q1,VX,Nat.reduceEqDiff,Nat.reduceAdd]
   exact aI rfl
  ·by_cases q2:(57:Int)<(c:Int)
   ·rw[pE (by rw[Uz,decide_eq_false (show ¬c≤57 by omega),Bool.and_false])]
    simp only[dR,g0,g3,bM,dA,e1,q1,q2,VX,Nat.reduceEqDiff,Nat.reduceAdd]
    exact aI rfl
   ·rw[Uz,decide_eq_true (by omega),decide_eq_true (by omega),Bool.and_self] at ht
    simp only[dR,g0,g3,bM,dA,e1,q1,q2,wi,VX,Nat.reduceEqDiff,Nat.reduceAdd]
    exact⟨i+1,by omega,by omega,ht,rfl⟩
 ·have oB:i=l.length:=by omega
  subst oB
  rw[List.take_length] at hd
  by_cases h1:(1:Int)≤(l.length:Int)
  ·by_cases h2:(l.length:Int)≤200
   ·by_cases h3:(l.length:Int)=1
    ·rw[jI.2 ⟨hd,by omega,by omega,.inl (by omega)⟩]
     simp only[dR,g0,g3,bM,dA,ge_iff_le,h1,h2,h3,Int.reduceLE,Int.reduceLT,VX,Nat.reduceEqDiff,Nat.reduceAdd]
     exact aI rfl
    ·have e1:=Hm l (by omega)
     by_cases h4:(((l.getD 0 0).toNat:Int)=48)
     ·have hk:gY l=false:=by
       cases h:gY l with
       | false=>rfl
       |
        true =>
        rcases(jI.1 h).2.2.2 with h5 | h5
        ·omega
        ·exact absurd (UInt8.toNat_inj.1 (by rw[show (48:UInt8).toNat=48 from rfl];omega)) h5
      rw[hk]
      simp only[dR,g0,g3,bM,dA,ge_iff_le,h1,h2,h3,h4,e1,VX,Nat.reduceEqDiff,Nat.reduceAdd]
      exact aI rfl
     ·have h5:l.getD 0 0≠48:=fun h=>h4 (by rw[h];rfl)
      rw[jI.2 ⟨hd,by omega,by omega,.inr h5⟩]
      simp only[dR,g0,g3,bM,dA,ge_iff_le,h1,h2,h3,h4,e1,VX,Nat.reduceEqDiff,Nat.reduceAdd]
      exact aI rfl
   ·have hk:gY l=false:=by
     cases h:gY l with
     | false=>rfl
     | true=>have:=(jI.1 h).2.2.1;omega
    rw[hk]
    simp only[dR,g0,g3,bM,dA,ge_iff_le,h1,h2,VX,Nat.reduceEqDiff,Nat.reduceAdd]
    exact aI rfl
  ·have hk:gY l=false:=by
    cases h:gY l with
    | false=>rfl
    | true=>have:=(jI.1 h).2.1;omega
   rw[hk]
   simp only[dR,g0,g3,bM,dA,ge_iff_le,h1,VX,Nat.reduceEqDiff,Nat.reduceAdd]
   exact aI rfl
set_option maxHeartbeats 1000000 in
theorem Es (l:List UInt8) (c:UInt8) (hl:l.length≤1000000000000):TC 167 [bB l,.sc (.int .u8 (c.toNat:Int))] (bI bB (gW c l)):=by
 refine TC.walk ⟨true,false⟩ ML rfl (Nat.le_of_ble_eq_true rfl) rfl (F5 (size:=1) (fun _=>rfl) (fun _=>rfl) fun _=>rfl) ?_
 have e3:∀lr,jQ lr [.string ⟨#[]⟩] 0 [] []=some (.ref 0 0 0 0 0,[.row 0 (([]:List (List UInt8)).map bB) 1 true]):=fun lr=>iC (H:=[]) (lr:=lr) (z:=[.string ⟨#[]⟩]) rfl
 have e4:∀(x:List UInt8) (H:aA),jQ false [.string ⟨#[]⟩] 1 [(0,bB x)] H=some (.tree [bB x] (.cl 1),H):=fun x H=>gD (z:=[.string ⟨#[]⟩]) rfl rfl rfl
 have e5:∀(x:List UInt8) (H:aA),cT 1 (.tree [bB x] (.cl 1)) H=some [bB x]:=fun x H=>dQ rfl rfl
 simp only[IG,El,e3,VX,Nat.reduceEqDiff,Nat.reduceAdd]
 refine aT (fun(s:List (List UInt8)×Nat×Nat) ρ H=>H=[.row s.1.length (s.1.map bB) 1 true]∧s.2.1≤s.2.2∧s.2.2≤l.length+1∧s.1.length≤s.2.1 ∧
  ((s.2.2≤l.length∧gW c l=s.1++gW c (l.drop s.2.1)∧c∉(l.drop s.2.1).take (s.2.2-s.2.1))∨(s.2.2=l.length+1∧gW c l=s.1)) ∧
  ρ 0=bB l∧ρ 1 = .sc (.int .u8 (c.toNat:Int))∧ρ 5 = .ref 0 s.1.length 0 s.1.length s.1.length∧ρ 6=VI s.2.1∧ρ 7=VI s.2.2) (fun s=>l.length+1-s.2.2) ([],0,0) ⟨rfl,Nat.zero_le _,Nat.zero_le _,Nat.zero_le _,.inl ⟨Nat.zero_le _,rfl,by simp⟩,rfl,rfl,rfl,rfl,rfl⟩ ?_
 rintro⟨out,fr,i⟩ ρ H ⟨rfl,hfi,hi,jM,E3,g0,g1,g5,g6,g7⟩
 simp only at hfi hi jM E3 g5 g6 g7
 by_cases dA:(i:Int)≤(l.length:Int)
 ·have UF:i≤l.length:=by omega
  obtain⟨hp,hc⟩:gW c l=out++gW c (l.drop fr)∧c∉(l.drop fr).take (i-fr):=by
   rcases E3 with⟨_,h1,h2⟩ | ⟨h,_⟩
   ·exact⟨h1,h2⟩
   ·omega
  have wi:IntKind.i64.wrap ((i:Int)+1)=((i+1:Nat):Int):=wrapN (i+1) (by omega) (by omega)
  have e2:=abA l hfi UF
  have eP:=iG (f:=bB) (xs:=out) (x:=(l.drop fr).take (i-fr)) (lo:=0) (b:=0) (g:=out.length) (n:=out.length) (e:=1) (bytes:=16) (H:=[.row out.length (out.map bB) 1 true]) aS rfl (Nat.zero_le _) (by decide) (by decide) (by omega)
  have Ie:([.row out.length (out.map bB) 1 true]:aA).set 0 (.row (out.length+1) ((out++[(l.drop fr).take (i-fr)]).map bB) 1 true)=[.row (out.length+1) ((out++[(l.drop fr).take (i-fr)]).map bB) 1 true]:=rfl
  rw[Ie] at eP
  by_cases q1:i=l.length
  ·subst q1
   have ZG:gW c l=out++[(l.drop fr).take (l.length-fr)]:=by
    rw[hp]
    have:(l.drop fr).take (l.length-fr)=l.drop fr:=List.take_of_length_le (by rw[List.length_drop];omega)
    rw[this] at hc ⊢
    rw[Fo hc]
   simp only[oI,g0,g1,g5,g6,g7,bM,dA,eq_self,e2,e4,e5,eP,wi,VX,Nat.reduceEqDiff,Nat.reduceAdd]
   refine⟨(out++[(l.drop fr).take (l.length-fr)],l.length+1,l.length+1),by simp only;omega,?_,by simp only;omega,by simp only;omega,?_,.inr ⟨rfl,ZG⟩,?_⟩
   ·simp
   ·simp only[List.length_append,List.length_cons,List.length_nil];omega
   ·simp
  ·have afH:i<l.length:=by omega
   have q1':¬(i:Int)=(l.length:Int):=by omega
   have e1:=Dk l afH
   have hgd:l.drop i=l.getD i 0::l.drop (i+1):=by rw[List.drop_eq_getElem_cons afH,List.getD_eq_getElem?_getD,List.getElem?_eq_getElem afH];rfl
   by_cases q2:l.getD i 0=c
   ·have q2':((l.getD i 0).toNat:Int)=(c.toNat:Int):=by rw[q2]
    have ZG:gW c l=(out++[(l.drop fr).take (i-fr)])++gW c (l.drop (i+1)):=by
     have T9:l.drop fr=(l.drop fr).take (i-fr)++c::l.drop (i+1):=by
      have h1:(l.drop fr).drop (i-fr)=l.drop i:=by rw[List.drop_drop];congr 1;omega
      conv=>lhs;rw[←List.take_append_drop (i-fr) (l.drop fr),h1,hgd,q2]
     rw[hp]
     conv=>lhs;rw[T9]
     rw[LU hc,List.append_assoc]
     rfl
    simp only[oI,g0,g1,g5,g6,g7,bM,dA,q1',e1,q2',eq_self,e2,e4,e5,eP,wi,VX,Nat.reduceEqDiff,Nat.reduceAdd]
    refine⟨(out++[(l.drop fr).take (i-fr)],i+1,i+1),by simp only;omega,?_,by simp only;omega,by simp only;omega,?_,.inl ⟨by simp only;omega,ZG,by simp⟩,?_⟩
    ·simp
    ·simp only[List.length_append,List.length_cons,List.length_nil];omega
    ·simp
   ·have q2':¬((l.getD i 0).toNat:Int)=(c.toNat:Int):=fun h=>q2 (UInt8.toNat_inj.1 (by omega))
    simp only[oI,g0,g1,g5,g6,g7,bM,dA,q1',e1,q2',wi,VX,Nat.reduceEqDiff,Nat.reduceAdd]
    refine⟨(out,fr,i+1),by simp only;omega,rfl,by simp only;omega,by simp only;omega,jM,.inl ⟨by simp only;omega,hp,?_⟩,rfl,rfl,rfl⟩
    simp only
    rw[show i+1-fr=(i-fr)+1 by omega,List.take_add_one,List.mem_append,not_or]
    refine⟨hc,?_⟩
    have:(l.drop fr)[i-fr]? = some (l.getD i 0):=by
     rw[List.getElem?_drop,show fr+(i-fr)=i by omega,List.getD_eq_getElem?_getD,List.getElem?_eq_getElem afH]
     rfl
    rw[this]
    simp
    exact fun h=>q2 h.symm
 ·have ZG:gW c l=out:=by
   rcases E3 with⟨h,_⟩ | ⟨_,h⟩
   ·omega
   ·exact h
  rw[ZG]
  simp only[oI,g0,g5,g7,bM,dA,VX,Nat.reduceEqDiff,Nat.reduceAdd]
  exact Kn (es:=out.map bB) aS (by simp) (Nat.le_refl _) (gN fun _=>rfl)
theorem Y0 {l:List UInt8} (h:l.all iB=true) {i:Nat} (hi:i<l.length):48≤(l.getD i 0).toNat∧(l.getD i 0).toNat≤57:=by
 have:=List.all_eq_true.1 h (l.getD i 0) (by rw[List.getD_eq_getElem?_getD,List.getElem?_eq_getElem hi];exact List.getElem_mem hi)
 simpa[iB] using this
theorem K8 {l:List UInt8} (hd:l.all iB=true) (hl:l.length≤1000000000000) {fr tq:Nat} (hft:fr≤tq) (h9:tq-fr≤9) (htl:tq≤l.length) {H:aA} {lo:Nat} {ρ:dS} {Q:VQ} (h0:ρ 0=bB l) (h4:ρ 4=VI tq) (h6:ρ 6=VI 0) (h7:ρ 7=VI fr)
  (hQ:∀bJ,(∀t,t<6→bJ t=ρ t)→bJ 6=VI (bX ((l.drop fr).take (tq-fr)))→Q .normal bJ H):VW ⟨true,false⟩ lo (.loop mP) (zR 2 Q) ρ H:=by
 refine aT (fun(i:Nat) bJ H'=>fr≤i∧i≤tq∧H'=H∧(∀t,t<6→bJ t=ρ t)∧bJ 6=VI (bX ((l.drop fr).take (i-fr)))∧bJ 7=VI i) (fun i=>tq-i) fr ⟨Nat.le_refl _,hft,rfl,fun _ _=>rfl,by rw[h6,Nat.sub_self];rfl,h7⟩ ?_
 rintro i bJ H' ⟨hfi,hi,rfl,hk,g6,g7⟩
 have g0:=(hk 0 (by decide)).trans h0
 have g4:=(hk 4 (by decide)).trans h4
 by_cases dA:(i:Int)<(tq:Int)
 ·have UF:i<l.length:=by omega
  have e1:=Dk l UF
  obtain⟨c1,c2⟩:=Y0 hd UF
  have wi:IntKind.i64.wrap ((i:Int)+1)=((i+1:Nat):Int):=wrapN (i+1) (by omega) (by omega)
  have hcd:((l.drop fr).take (i-fr)).all iB=true:=by
   rw[List.all_eq_true] at hd ⊢
   exact fun x hx=>hd x (List.mem_of_mem_drop (List.mem_of_mem_take hx))
  have bH:=GR hcd
  rw[List.length_take,List.length_drop,Nat.min_eq_left (by omega)] at bH
  have hp9:10^(i-fr)≤10^8:=Nat.pow_le_pow_right (by decide) (by omega)
  have e8:(10:Nat)^8=100000000:=by decide
  have rQ:bX ((l.drop fr).take (i+1-fr))=bX ((l.drop fr).take (i-fr))*10+dv (l.getD i 0):=by
   have:(l.drop fr)[i-fr]? = some (l.getD i 0):=by
    rw[List.getElem?_drop,show fr+(i-fr)=i by omega,List.getD_eq_getElem?_getD,List.getElem?_eq_getElem UF]
    rfl
   rw[show i+1-fr=(i-fr)+1 by omega,List.take_add_one,this]
   exact XF _ _
  have hdv:dv (l.getD i 0)=(l.getD i 0).toNat-48:=rfl
  rw[hdv] at rQ
  generalize (l.getD i 0).toNat=c at *
  generalize bX ((l.drop fr).take (i-fr))=D at *
  have w1:IntKind.i64.wrap (10*(D:Int))=((10*D:Nat):Int):=wrapN _ (by omega) (by omega)
  have w2:IntKind.u8.wrap ((c:Int)-48)=((c-48:Nat):Int):=by
   simp[IntKind.wrap,IntKind.bits,IntKind.signed]
   omega
  have w3:IntKind.i64.wrap ((c-48:Nat):Int)=((c-48:Nat):Int):=wrapN _ rfl (by omega)
  have w4:IntKind.i64.wrap (((10*D:Nat):Int)+((c-48:Nat):Int))=((D*10+(c-48):Nat):Int):=wrapN _ (by omega) (by omega)
  simp only[mP,g0,g4,g6,g7,dA,e1,w1,w2,w3,w4,wi,VX,Nat.reduceEqDiff,Nat.reduceAdd]
  refine⟨i+1,by omega,by omega,by omega,fun t ht => ?_,by rw[rQ],rfl⟩
  try simp only[uP]
  repeat rw[if_neg (by omega)]
  exact hk t ht
 ·have oB:i=tq:=by omega
  subst oB
  simp only[mP,g4,g7,dA,VX,Nat.reduceEqDiff,Nat.reduceAdd]
  refine hQ _ (fun t ht => ?_) ?_
  ·try simp only[uP]
   repeat rw[if_neg (by omega)]
   exact hk t ht
  ·simp only[g6,VX,Nat.reduceEqDiff,Nat.reduceAdd]
set_option maxHeartbeats 1000000 in
theorem rS (l:List UInt8) (hd:l.all iB=true) (hl:l.length≤1000000000):TC 169 [bB l] (bY (bX l)):=by
 refine TC.walk ⟨true,false⟩ Ga rfl (Nat.le_of_ble_eq_true rfl) rfl (nE _) ?_
 have e3:∀lr,jQ lr [.int .i64 0] 0 [] []=some (.ref 0 0 0 0 0,[.row 0 (([]:List Nat).map tV) 1 true]):=fun lr=>iC (H:=[]) (lr:=lr) (z:=[.int .i64 0]) rfl
 have e4:∀(x:Nat) (H:aA),jQ false [.int .i64 0] 1 [(0,tV x)] H=some (.tree [tV x] (.cl 1),H):=fun x H=>gD (z:=[.int .i64 0]) rfl rfl rfl
 have e5:∀(x:Nat) (H:aA),cT 1 (.tree [tV x] (.cl 1)) H=some [tV x]:=fun x H=>dQ rfl rfl
 simp only[BW,yW,e3,bM,VX,Nat.reduceEqDiff,Nat.reduceAdd]
 refine aT (fun(s:List Nat×Int) ρ H=>H=[.row s.1.length (s.1.map tV) 1 true]∧s.2≤l.length ∧ -9≤s.2∧s.1.length+s.2.toNat≤l.length∧(∀d∈s.1,d<1000000000)∧bX l=val 1000000000 s.1+1000000000^s.1.length*bX (l.take s.2.toNat) ∧
  ρ 0=bB l∧ρ 3 = .ref 0 s.1.length 0 s.1.length s.1.length∧ρ 4=VI s.2) (fun s=>s.2.toNat) ([],(l.length:Int)) ⟨rfl,Int.le_refl _,by simp only;omega,by simp,by simp,?_,rfl,rfl,rfl⟩ ?_
 ·simp only[Int.toNat_natCast,List.take_length,List.length_nil,Nat.pow_zero,Nat.one_mul,val,Nat.zero_add]
 rintro⟨out,z⟩ ρ H ⟨rfl,hz,hz9,jM,hds,hv,g0,g3,g4⟩
 simp only at hz hz9 jM hds hv g3 g4
 by_cases lC:0<z
 ·obtain⟨tq,rfl⟩:∃tq:Nat,z=tq:=⟨z.toNat,by omega⟩
  rw[Int.toNat_natCast] at jM hv
  have hto:0<tq:=by omega
  have key:∀fr:Nat,fr≤tq→tq-fr≤9→bX (l.take tq)=bX (l.take fr)*10^(tq-fr)+bX ((l.drop fr).take (tq-fr))∧bX ((l.drop fr).take (tq-fr))<1000000000:=by
   intro fr h1 h2
   have hcd:((l.drop fr).take (tq-fr)).all iB=true:=by
    rw[List.all_eq_true] at hd ⊢
    exact fun x hx=>hd x (List.mem_of_mem_drop (List.mem_of_mem_take hx))
   have hlen:((l.drop fr).take (tq-fr)).length=tq-fr:=by rw[List.length_take,List.length_drop];omega
   constructor
   ·have:=List.take_add (l:=l) (i:=fr) (j:=tq-fr)
    rw[show fr+(tq-fr)=tq by omega] at this
    rw[this,Lo,hlen]
   ·have:=GR hcd
    rw[hlen] at this
    exact Nat.lt_of_lt_of_le this (Nat.le_trans (Nat.pow_le_pow_right (by decide) h2) (by decide))
  have eP:=fun X=>iG (f:=tV) (xs:=out) (x:=X) (lo:=0) (b:=0) (g:=out.length) (n:=out.length) (e:=1) (bytes:=8) (H:=[.row out.length (out.map tV) 1 true]) aS rfl (Nat.zero_le _) (by decide) (by decide) (by omega)
  have Ie:∀X,([.row out.length (out.map tV) 1 true]:aA).set 0 (.row (out.length+1) ((out++[X]).map tV) 1 true)=[.row (out.length+1) ((out++[X]).map tV) 1 true]:=fun _=>rfl
  simp only[Ie] at eP
  by_cases h9:(9:Int)<(tq:Int)
  ·obtain⟨k1,k2⟩:=key (tq-9) (by omega) (by omega)
   have wz:IntKind.i64.wrap ((tq:Int)-9)=((tq-9:Nat):Int):=wrapN _ (by omega) (by omega)
   rw[show tq-(tq-9)=9 by omega] at k1 k2
   rw[show (10:Nat)^9=1000000000 by decide] at k1
   simp only[mN,g0,g3,g4,lC,h9,wz,VX,Nat.reduceEqDiff,Nat.reduceAdd]
   refine K8 (l:=l) hd (by omega) (fr:=tq-9) (tq:=tq) (by omega) (by omega) (by omega) ?_ ?_ ?_ ?_ fun wO q q6 => ?_
   all_goals first | (simp only[g0,g4,VX,Nat.reduceEqDiff,Nat.reduceAdd];done) | skip
   rw[show tq-(tq-9)=9 by omega] at q6
   have u3:wO 3 = .ref 0 out.length 0 out.length out.length:=by rw[q 3 (by decide)];simp only[g3,VX,Nat.reduceEqDiff,Nat.reduceAdd]
   have u0:wO 0=bB l:=by rw[q 0 (by decide)];simp only[g0,VX,Nat.reduceEqDiff,Nat.reduceAdd]
   have u4:wO 4=VI tq:=by rw[q 4 (by decide)];simp only[g4,VX,Nat.reduceEqDiff,Nat.reduceAdd]
   generalize bX ((l.drop (tq-9)).take 9)=X at *
   have e4:=e4 X
   have e5:=e5 X
   have eP:=eP X
   simp only[u0,u3,u4,q6,e4,e5,eP,wz,VX,Nat.reduceEqDiff,Nat.reduceAdd]
   refine⟨(out++[X],((tq-9:Nat):Int)),by simp only;omega,?_,by simp only;omega,by simp only;omega,?_,?_,?_,?_⟩
   ·simp
   ·simp only[List.length_append,List.length_cons,List.length_nil];omega
   ·intro d hdm
    rcases List.mem_append.1 hdm with h | h
    ·exact hds d h
    ·rw[List.mem_singleton] at h;omega
   ·simp only[Int.toNat_natCast]
    rw[hv,k1,rY,List.length_append,List.length_singleton,Nat.pow_succ]
    grind
   ·simp
  ·obtain⟨k1,k2⟩:=key 0 (by omega) (by omega)
   rw[List.take_zero,Lj,Nat.zero_mul,Nat.zero_add,Nat.sub_zero] at k1
   rw[Nat.sub_zero] at k2
   have wz:IntKind.i64.wrap ((tq:Int)-9)=(tq:Int)-9:=wrap64 (by omega) (by omega)
   simp only[mN,g0,g3,g4,lC,h9,VX,Nat.reduceEqDiff,Nat.reduceAdd]
   refine K8 (l:=l) hd (by omega) (fr:=0) (tq:=tq) (by omega) (by omega) (by omega) ?_ ?_ ?_ ?_ fun wO q q6 => ?_
   all_goals first | (simp only[g0,g4,VX,Nat.reduceEqDiff,Nat.reduceAdd];done) | (simp only[VX,Nat.reduceEqDiff,Nat.reduceAdd];rfl) | skip
   rw[Nat.sub_zero] at q6
   have u3:wO 3 = .ref 0 out.length 0 out.length out.length:=by rw[q 3 (by decide)];simp only[g3,VX,Nat.reduceEqDiff,Nat.reduceAdd]
   have u0:wO 0=bB l:=by rw[q 0 (by decide)];simp only[g0,VX,Nat.reduceEqDiff,Nat.reduceAdd]
   have u4:wO 4=VI tq:=by rw[q 4 (by decide)];simp only[g4,VX,Nat.reduceEqDiff,Nat.reduceAdd]
   generalize bX ((l.drop 0).take tq)=X at *
   have e4:=e4 X
   have e5:=e5 X
   have eP:=eP X
   simp only[u0,u3,u4,q6,e4,e5,eP,wz,VX,Nat.reduceEqDiff,Nat.reduceAdd]
   refine⟨(out++[X],(tq:Int)-9),by simp only;omega,?_,by simp only;omega,by simp only;omega,?_,?_,?_,?_⟩
   ·simp
   ·simp only[List.length_append,List.length_cons,List.length_nil];omega
   ·intro d hdm
    rcases List.mem_append.1 hdm with h | h
    ·exact hds d h
    ·rw[List.mem_singleton] at h;omega
   ·simp only
    rw[show ((tq:Int)-9).toNat=0 by omega,List.take_zero,Lj,Nat.mul_zero,Nat.add_zero,hv,k1,rY]
   ·simp
 ·have h0:z.toNat=0:=by omega
  rw[h0,List.take_zero,Lj,Nat.mul_zero,Nat.add_zero] at hv
  rw[hv]
  have ct:=TC.aeX (f:=tV) (xs:=out) (size:=1) (e:=1) (w:=true) (H:=[.row out.length (out.map tV) 1 true]) (b:=0) (gn:=out.length) (n:=out.length) (c:=out.length) (sR out hds (by show out.length≤70368744177664;omega)) aS rfl (Nat.le_refl _) Fe (fun _=>rfl) rfl rfl
  simp only[mN,g0,g3,g4,lC,ct,VX,Nat.reduceEqDiff,Nat.reduceAdd]
  exact aI (cI _)
end Go.PM
namespace Go.PM
open Go.Lib
def Dr (l:List UInt8):VV:=match xX l with
 | some q => .eX [bA q,VB true]
 | none => .eX [ET,VB false]
theorem Fq (q:Rat):aP (bA q)=true:=by simp[bA,aP,aM,cI,kC]
theorem Yd (q:Rat):iD (bA q)=true:=by simp[bA,iD,pY,nE,kC]
theorem Ub (l:List UInt8):iD (Dr l)=true:=by
 unfold Dr
 split<;>simp[iD,pY,Yd,F1,kC]
theorem KF {neg:Bool} {t b:Nat} (hb:b≠0) (hg:Nat.gcd t b=1) (hn:¬(neg=true∧t=0)):bA (mkRat (kG neg t) b) = .agg [VB neg,bY t,bY b]:=by
 obtain⟨e1,e2⟩:=IZ (neg:=neg) hb hg
 refine J4 ?_ (by rw[e1,nR]) e2
 rw[e1]
 cases neg with
 | false=>unfold kG;simp
 |
  true =>
  have:t≠0:=fun h=>hn ⟨rfl,h⟩
  unfold kG
  simp
  omega
theorem DF {n:Nat}:(((aC 1000000000 n).length:Nat):Int)=0↔n=0:=by
 rw[←lL (b:=1000000000) (n:=n) (by decide),←List.length_eq_zero_iff]
 omega
theorem Rl {neg:Bool} {d t:List UInt8} (h:(47:UInt8)∈t):oO neg d (some t)=none:=by
 have ht:gY t=false:=by
  cases hk:gY t with
  | false=>rfl
  | true=>exact absurd h (acI (jI.1 hk).1)
 unfold oO
 split
 ·rfl
 ·simp only
  rw[if_neg (fun h=>by rw[ht] at h;exact absurd h.1 (by decide))]
theorem at_one (x:List UInt8) (H:aA):bK 1 (bI bB [x]) (VI 0) H=some (.cU (bB x) 0):=aL (f:=bB) (t := .op) (H:=H) (size:=1) (k := .i64) (xs:=[x]) (i:=0) rfl rfl
theorem ahE (x y:List UInt8) (H:aA):bK 1 (bI bB [x,y]) (VI 0) H=some (.cU (bB x) 0):=aL (f:=bB) (t := .op) (H:=H) (size:=1) (k := .i64) (xs:=[x,y]) (i:=0) rfl rfl
theorem afD (x y:List UInt8) (H:aA):bK 1 (bI bB [x,y]) (VI 1) H=some (.cU (bB y) 0):=aL (f:=bB) (t := .op) (H:=H) (size:=1) (k := .i64) (xs:=[x,y]) (i:=1) rfl rfl
theorem VG (x:List UInt8) (H:aA):oK (bI bB [x]) H=some (VI 1):=dV (f:=bB) (xs:=[x])
theorem agM (x y:List UInt8) (H:aA):oK (bI bB [x,y]) H=some (VI 2):=dV (f:=bB) (xs:=[x,y])
set_option maxRecDepth 100000 in
set_option maxHeartbeats 4000000 in
theorem Jr (l:List UInt8) (hl:l.length≤1000000000):TC 110 [bB l] (Dr l):=by
 refine TC.walk ⟨true,false⟩ Jy rfl (Nat.le_of_ble_eq_true rfl) rfl (Ub l) ?_
 by_cases Ba:l=[]
 ·subst Ba
  have eC:TC 167 [.sc (.string ⟨#[]⟩),.sc (.int .u8 47)] (bI bB [[]]):=Es [] 47 (by simp)
  have eD:TC 168 [.sc (.string ⟨#[]⟩)] (VB false):=pB [] (by simp)
  have e1:zN (.string ⟨#[]⟩)=some (.int .i64 0):=rfl
  have a1:=at_one []
  have a2:=VG []
  simp only[cC,bL,e1,eC,eD,a1,a2,Int.reduceLT,Int.reduceLE,aF,iR,Nat.reduceLeDiff,Nat.reduceLT,Nat.reduceSub,VX,Nat.reduceEqDiff,Nat.reduceAdd]
  exact bT (d:=6) gE (aJ (v:=VB false) rfl)
 have hp:0<l.length:=List.length_pos_iff.2 Ba
 have lC:(0:Int)<(l.length:Int):=by omega
 have e0:=Hm l hp
 unfold Dr
 unfold xX
 have oV:isNeg l=decide (((l.getD 0 0).toNat:Int)=45):=by
  unfold isNeg
  rw[decide_eq_true (show 1≤l.length from hp),Bool.true_and]
  refine decide_eq_decide.2 ⟨fun h=>by rw[h];rfl,fun h=>UInt8.toNat_inj.1 (by rw[show (45:UInt8).toNat=45 from rfl];omega)⟩
 have SZ:(if isNeg l=true then l.drop 1 else l).length≤l.length:=by split<;>simp
 have q0:isNeg l=false→¬((l.getD 0 0).toNat:Int)=45:=fun h=>by rw[oV] at h;exact of_decide_eq_false h
 have q9:isNeg l=true→((l.getD 0 0).toNat:Int)=45:=fun h=>by rw[oV] at h;exact of_decide_eq_true h
 have r0:isNeg l=false→(if isNeg l=true then l.drop 1 else l)=l:=fun h=>by rw[h];rfl
 have r9:isNeg l=true→uL (bB l) (some (VI 1)) none=some (bB (if isNeg l=true then l.drop 1 else l)):=fun h=>by rw[h];exact NY l (a:=1) hp
 generalize (if isNeg l=true then l.drop 1 else l)=r at *
 generalize isNeg l=neg at *
 clear oV
 have eC:TC 167 [bB r,.sc (.int .u8 47)] (bI bB (gW 47 r)):=Es r 47 (by omega)
 obtain⟨l1,l2⟩:=QO (c:=47) (l:=r)
 cases hs:(lX 47 r).2 with
 |
  none =>
  have hd:=(Ap hs).2.1
  rw[QA hs] at eC
  rw[hd]
  have a1:=at_one r
  have a2:=VG r
  have eD:=pB r (by omega)
  cases hk:gY r with
  |
   false =>
   rw[hk] at eD
   have Ys:oO neg r none=none:=if_pos (.inl hk)
   rw[Ys]
   cases neg with
   |
    false =>
    have q1:=q0 rfl
    have SZ:=r0 rfl
    subst SZ
    simp only[cC,bL,bM,lC,e0,q1,eC,eD,a1,a2,Int.reduceLT,aF,bF,aK,aY,dU,fO,dT,fP,iR,Nat.reduceLeDiff,Nat.reduceLT,Nat.reduceSub,VX,Nat.reduceEqDiff,Nat.reduceAdd]
    exact bT (d:=6) gE (aJ (v:=VB false) rfl)
   |
    true =>
    have q1:=q9 rfl
    have e9:=r9 rfl
    simp only[cC,bL,bM,lC,e0,q1,eC,eD,a1,a2,Int.reduceLT,e9,aF,bF,aK,aY,dU,fO,dT,fP,iR,Nat.reduceLeDiff,Nat.reduceLT,Nat.reduceSub,VX,Nat.reduceEqDiff,Nat.reduceAdd]
    exact bT (d:=6) gE (aJ (v:=VB false) rfl)
  |
   true =>
   rw[hk] at eD
   have hbt:=xH hk
   have eN:=rS r (jI.1 hk).1 (by omega)
   by_cases hz:neg=true∧bX r=0
   ·have Ys:oO neg r none=none:=if_pos (.inr hz)
    rw[Ys]
    obtain⟨rfl,Il⟩:=hz
    have q1:=q9 rfl
    have e9:=r9 rfl
    have Ir:(((aC 1000000000 (bX r)).length:Nat):Int)=0:=DF.2 Il
    simp only[cC,bL,bM,lC,e0,q1,eC,eD,a1,a2,eN,e9,cN,Ir,Int.reduceLT,aF,bF,aK,aY,dU,fO,dT,fP,iR,Nat.reduceLeDiff,Nat.reduceLT,Nat.reduceSub,VX,Nat.reduceEqDiff,Nat.reduceAdd]
    exact bT (d:=6) gE (aJ (v:=VB false) rfl)
   ·have D8:neg=true→¬(((aC 1000000000 (bX r)).length:Nat):Int)=0:=fun h h0=>hz ⟨h,DF.1 h0⟩
    have Ys:oO neg r none=some (mkRat (kG neg (bX r)) 1):=if_neg (by rw[hk];rintro(h | h);exact absurd h (by decide);exact hz h)
    rw[Ys]
    simp only[]
    rw[KF (by decide) (Nat.gcd_one_right _) hz]
    cases neg with
    |
     false =>
     have q1:=q0 rfl
     have SZ:=r0 rfl
     subst SZ
     simp only[cC,bL,bM,lC,e0,q1,eC,eD,a1,a2,eN,Int.reduceLT,Int.reduceEq,aF,bF,aK,aY,dU,fO,dT,fP,iR,Nat.reduceLeDiff,Nat.reduceLT,Nat.reduceSub,VX,Nat.reduceEqDiff,Nat.reduceAdd]
     exact bT (d:=6) (qR (aJ (v:=VB false) rfl) (aJ (cI _)) P9) (aJ (v:=VB true) rfl)
    |
     true =>
     have q1:=q9 rfl
     have e9:=r9 rfl
     have Ir:=D8 rfl
     simp only[cC,bL,bM,lC,e0,q1,eC,eD,a1,a2,eN,Int.reduceLT,Int.reduceEq,e9,cN,Ir,aF,bF,aK,aY,dU,fO,dT,fP,iR,Nat.reduceLeDiff,Nat.reduceLT,Nat.reduceSub,VX,Nat.reduceEqDiff,Nat.reduceAdd]
     exact bT (d:=6) (qR (aJ (v:=VB true) rfl) (aJ (cI _)) P9) (aJ (v:=VB true) rfl)
 |
  some t =>
  have ltt:=l2 t hs
  rw[Jc hs] at eC
  generalize (lX 47 r).1=d at *
  by_cases hm:(47:UInt8)∈t
  ·rw[Rl hm]
   have hP:=QL hm
   generalize hPP:gW 47 t=P at *
   have a2:∀H,oK (bI bB (d::P)) H=some (VI ((d::P).length:Int)):=fun H=>dV (f:=bB) (xs:=d::P)
   have hq3:(2:Int)<((d::P).length:Int):=by rw[List.length_cons];omega
   generalize hQQ:d::P=PP at *
   clear hQQ hPP hP
   cases neg with
   |
    false =>
    have q1:=q0 rfl
    have SZ:=r0 rfl
    subst SZ
    simp only[cC,bL,bM,lC,e0,q1,eC,a2,hq3,aF,bF,aK,aY,dU,fO,dT,fP,iR,Nat.reduceLeDiff,Nat.reduceLT,Nat.reduceSub,VX,Nat.reduceEqDiff,Nat.reduceAdd]
    exact bT (d:=6) gE (aJ (v:=VB false) rfl)
   |
    true =>
    have q1:=q9 rfl
    have e9:=r9 rfl
    simp only[cC,bL,bM,lC,e0,q1,eC,a2,hq3,e9,aF,bF,aK,aY,dU,fO,dT,fP,iR,Nat.reduceLeDiff,Nat.reduceLT,Nat.reduceSub,VX,Nat.reduceEqDiff,Nat.reduceAdd]
    exact bT (d:=6) gE (aJ (v:=VB false) rfl)
  ·rw[Fo hm] at eC
   have a1:=ahE d t
   have a3:=afD d t
   have a2:=agM d t
   have eD:=pB d (by omega)
   have eF:=pB t (by omega)
   cases hk:gY d with
   |
    false =>
    rw[hk] at eD
    have Ys:oO neg d (some t)=none:=if_pos (.inl hk)
    rw[Ys]
    cases neg with
    |
     false =>
     have q1:=q0 rfl
     have SZ:=r0 rfl
     subst SZ
     simp only[cC,bL,bM,lC,e0,q1,eC,eD,a1,a2,Int.reduceLT,aF,bF,aK,aY,dU,fO,dT,fP,iR,Nat.reduceLeDiff,Nat.reduceLT,Nat.reduceSub,VX,Nat.reduceEqDiff,Nat.reduceAdd]
     exact bT (d:=6) gE (aJ (v:=VB false) rfl)
    |
     true =>
     have q1:=q9 rfl
     have e9:=r9 rfl
     simp only[cC,bL,bM,lC,e0,q1,eC,eD,a1,a2,Int.reduceLT,e9,aF,bF,aK,aY,dU,fO,dT,fP,iR,Nat.reduceLeDiff,Nat.reduceLT,Nat.reduceSub,VX,Nat.reduceEqDiff,Nat.reduceAdd]
     exact bT (d:=6) gE (aJ (v:=VB false) rfl)
   |
    true =>
    rw[hk] at eD
    have hbt:=xH hk
    have eN:=rS d (jI.1 hk).1 (by omega)
    by_cases hz:neg=true∧bX d=0
    ·have Ys:oO neg d (some t)=none:=if_pos (.inr hz)
     rw[Ys]
     obtain⟨rfl,Il⟩:=hz
     have q1:=q9 rfl
     have e9:=r9 rfl
     have Ir:(((aC 1000000000 (bX d)).length:Nat):Int)=0:=DF.2 Il
     simp only[cC,bL,bM,lC,e0,q1,eC,eD,a1,a2,eN,e9,cN,Ir,Int.reduceLT,aF,bF,aK,aY,dU,fO,dT,fP,iR,Nat.reduceLeDiff,Nat.reduceLT,Nat.reduceSub,VX,Nat.reduceEqDiff,Nat.reduceAdd]
     exact bT (d:=6) gE (aJ (v:=VB false) rfl)
    ·have D8:neg=true→¬(((aC 1000000000 (bX d)).length:Nat):Int)=0:=fun h h0=>hz ⟨h,DF.1 h0⟩
     have Ys:oO neg d (some t)=if gY t=true∧1<bX t∧Nat.gcd (bX d) (bX t)=1 then some (mkRat (kG neg (bX d)) (bX t)) else none:=if_neg (by rw[hk];rintro(h | h);exact absurd h (by decide);exact hz h)
     rw[Ys]
     clear Ys
     cases ht:gY t with
     |
      false =>
      rw[ht] at eF
      rw[if_neg (fun h=>absurd h.1 (by decide))]
      cases neg with
      |
       false =>
       have q1:=q0 rfl
       have SZ:=r0 rfl
       subst SZ
       simp only[cC,bL,bM,lC,e0,q1,eC,eD,eF,a1,a2,a3,eN,Int.reduceLT,Int.reduceEq,aF,bF,aK,aY,dU,fO,dT,fP,iR,Nat.reduceLeDiff,Nat.reduceLT,Nat.reduceSub,VX,Nat.reduceEqDiff,Nat.reduceAdd]
       exact bT (d:=6) gE (aJ (v:=VB false) rfl)
      |
       true =>
       have q1:=q9 rfl
       have e9:=r9 rfl
       have Ir:=D8 rfl
       simp only[cC,bL,bM,lC,e0,q1,eC,eD,eF,a1,a2,a3,eN,Int.reduceLT,Int.reduceEq,e9,cN,Ir,aF,bF,aK,aY,dU,fO,dT,fP,iR,Nat.reduceLeDiff,Nat.reduceLT,Nat.reduceSub,VX,Nat.reduceEqDiff,Nat.reduceAdd]
       exact bT (d:=6) gE (aJ (v:=VB false) rfl)
     |
      true =>
      rw[ht] at eF
      have Kh:=xH ht
      have eM:=rS t (jI.1 ht).1 (by omega)
      have c2:∀lo H K,_:=fun lo H K=>J0 (n:=bX t) (lo:=lo) (H:=H) (K:=K) (Nat.le_of_lt (oN (by omega)))
      have c3:=EK (bX d) (bX t) (oN (by omega)) (oN (by omega))
      by_cases h1:eW (bX t) 1≤0
      ·have hle:¬1<bX t:=fun h=>by unfold eW at h1;rw[if_neg (by omega),if_neg (by omega)] at h1;exact absurd h1 (by decide)
       rw[if_neg (fun h=>hle h.2.1)]
       cases neg with
       |
        false =>
        have q1:=q0 rfl
        have SZ:=r0 rfl
        subst SZ
        simp only[cC,bL,bM,lC,e0,q1,eC,eD,eF,a1,a2,a3,eN,eM,c2,h1,Int.reduceLT,Int.reduceEq,aF,bF,aK,aY,dU,fO,dT,fP,iR,Nat.reduceLeDiff,Nat.reduceLT,Nat.reduceSub,VX,Nat.reduceEqDiff,Nat.reduceAdd]
        exact bT (d:=6) gE (aJ (v:=VB false) rfl)
       |
        true =>
        have q1:=q9 rfl
        have e9:=r9 rfl
        have Ir:=D8 rfl
        simp only[cC,bL,bM,lC,e0,q1,eC,eD,eF,a1,a2,a3,eN,eM,c2,h1,Int.reduceLT,Int.reduceEq,e9,cN,Ir,aF,bF,aK,aY,dU,fO,dT,fP,iR,Nat.reduceLeDiff,Nat.reduceLT,Nat.reduceSub,VX,Nat.reduceEqDiff,Nat.reduceAdd]
        exact bT (d:=6) gE (aJ (v:=VB false) rfl)
      ·have bH:1<bX t:=by
        rcases Nat.lt_or_ge 1 (bX t) with h | h
        ·exact h
        ·exfalso
         apply h1
         unfold eW
         split<;>(try split)<;>first | decide | omega
       have hgl:bl (Nat.gcd (bX d) (bX t))≤665:=Nat.le_trans (kB (Nat.le_of_dvd (by omega) (Nat.gcd_dvd_right _ _))) Kh
       have c4:∀lo H K,_:=fun lo H K=>J0 (n:=Nat.gcd (bX d) (bX t)) (lo:=lo) (H:=H) (K:=K) (Nat.le_of_lt (oN (by omega)))
       by_cases hg:Nat.gcd (bX d) (bX t)=1
       ·have h4:eW (Nat.gcd (bX d) (bX t)) 1=0:=by rw[hg];rfl
        rw[if_pos ⟨rfl,bH,hg⟩]
        simp only[]
        rw[KF (by omega) hg hz]
        cases neg with
        |
         false =>
         have q1:=q0 rfl
         have SZ:=r0 rfl
         subst SZ
         simp only[cC,bL,bM,lC,e0,q1,eC,eD,eF,a1,a2,a3,eN,eM,c2,c3,c4,h1,h4,Int.reduceLT,Int.reduceEq,aF,bF,aK,aY,dU,fO,dT,fP,iR,Nat.reduceLeDiff,Nat.reduceLT,Nat.reduceSub,VX,Nat.reduceEqDiff,Nat.reduceAdd]
         exact bT (d:=6) (qR (aJ (v:=VB false) rfl) (aJ (cI _)) (aJ (cI _))) (aJ (v:=VB true) rfl)
        |
         true =>
         have q1:=q9 rfl
         have e9:=r9 rfl
         have Ir:=D8 rfl
         simp only[cC,bL,bM,lC,e0,q1,eC,eD,eF,a1,a2,a3,eN,eM,c2,c3,c4,h1,h4,Int.reduceLT,Int.reduceEq,e9,cN,Ir,aF,bF,aK,aY,dU,fO,dT,fP,iR,Nat.reduceLeDiff,Nat.reduceLT,Nat.reduceSub,VX,Nat.reduceEqDiff,Nat.reduceAdd]
         exact bT (d:=6) (qR (aJ (v:=VB true) rfl) (aJ (cI _)) (aJ (cI _))) (aJ (v:=VB true) rfl)
       ·have h4:¬eW (Nat.gcd (bX d) (bX t)) 1=0:=by
         unfold eW
         split<;>(try split)<;>first | decide | omega
        rw[if_neg (fun h=>hg h.2.2)]
        cases neg with
        |
         false =>
         have q1:=q0 rfl
         have SZ:=r0 rfl
         subst SZ
         simp only[cC,bL,bM,lC,e0,q1,eC,eD,eF,a1,a2,a3,eN,eM,c2,c3,c4,h1,h4,Int.reduceLT,Int.reduceEq,aF,bF,aK,aY,dU,fO,dT,fP,iR,Nat.reduceLeDiff,Nat.reduceLT,Nat.reduceSub,VX,Nat.reduceEqDiff,Nat.reduceAdd]
         exact bT (d:=6) gE (aJ (v:=VB false) rfl)
        |
         true =>
         have q1:=q9 rfl
         have e9:=r9 rfl
         have Ir:=D8 rfl
         simp only[cC,bL,bM,lC,e0,q1,eC,eD,eF,a1,a2,a3,eN,eM,c2,c3,c4,h1,h4,Int.reduceLT,Int.reduceEq,e9,cN,Ir,aF,bF,aK,aY,dU,fO,dT,fP,iR,Nat.reduceLeDiff,Nat.reduceLT,Nat.reduceSub,VX,Nat.reduceEqDiff,Nat.reduceAdd]
         exact bT (d:=6) gE (aJ (v:=VB false) rfl)
end Go.PM
namespace Go.PM
open Go.Lib
theorem ahL {a b:Rat}:(decide (a.num<0) != decide (b.num<0))=true→(decide (a<b)=decide (a.num<0)):=by
 intro h
 have h1:a.num<0↔a<0:=by rw[←Int.not_le,Rat.num_nonneg];constructor<;>intro h<;>grind
 have h2:b.num<0↔b<0:=by rw[←Int.not_le,Rat.num_nonneg];constructor<;>intro h<;>grind
 by_cases q1:a.num<0<;>by_cases q2:b.num<0
 ·simp[q1,q2] at h
 ·have:=h1.1 q1
  have:=mt h2.2 q2
  rw[decide_eq_true q1,decide_eq_true (by grind)]
 ·have:=h2.1 q2
  have:=mt h1.2 q1
  rw[decide_eq_false q1,decide_eq_false (by grind)]
 ·simp[q1,q2] at h
set_option maxHeartbeats 1000000 in
theorem KL (a b:Rat) (Nc:aZ a≤1099511627776) (HC:aZ b≤1099511627776):TC 80 [bA a,bA b] (VB (decide (a<b))):=by
 refine TC.walk ⟨true,false⟩ Lt rfl (Nat.le_of_ble_eq_true rfl) (by simp only[aM,Fq];rfl) rfl ?_
 have b1 := @rG a
 have b2 := @rG b
 have b3 := @pM a
 have b4 := @pM b
 have b5:=nM a.num.natAbs b.den
 have b6:=nM b.num.natAbs a.den
 have c1:=gU a.num.natAbs b.den (Nat.le_of_lt (oN (by omega))) (Nat.le_of_lt (oN (by omega)))
 have c2:=gU b.num.natAbs a.den (Nat.le_of_lt (oN (by omega))) (Nat.le_of_lt (oN (by omega)))
 have c3:=uH (a.num.natAbs*b.den) (b.num.natAbs*a.den) (Nat.le_of_lt (oN (by omega))) (Nat.le_of_lt (oN (by omega)))
 have bH:=Rat.lt_iff (a:=a) (b:=b)
 by_cases q1:a.num<0<;>by_cases q2:b.num<0
 ·have Zw:a<b↔0<eW (a.num.natAbs*b.den) (b.num.natAbs*a.den):=by
   rw[bH,Ve]
   have e1:a.num = -(a.num.natAbs:Int):=by omega
   have e2:b.num = -(b.num.natAbs:Int):=by omega
   generalize a.num.natAbs=m at *
   generalize b.num.natAbs=n at *
   rw[e1,e2,Int.neg_mul,Int.neg_mul,←Int.natCast_mul,←Int.natCast_mul]
   omega
  by_cases q3:0<eW (a.num.natAbs*b.den) (b.num.natAbs*a.den)
  ·rw[decide_eq_true (Zw.2 q3)]
   simp only[mF,jU,c1,c2,c3,q1,q2,q3,oL,decide_true,decide_false,bne_self_eq_false,Bool.bne_true,Bool.bne_false,Bool.true_bne,Bool.false_bne,Bool.not_true,Bool.not_false,bZ,fQ,gH,gC,aK,iR,Nat.reduceLeDiff,Nat.reduceLT,Nat.reduceSub,VX,Nat.reduceEqDiff,Nat.reduceAdd]
   exact aI rfl
  ·rw[decide_eq_false (mt Zw.1 q3)]
   simp only[mF,jU,c1,c2,c3,q1,q2,q3,oL,decide_true,decide_false,bne_self_eq_false,Bool.bne_true,Bool.bne_false,Bool.true_bne,Bool.false_bne,Bool.not_true,Bool.not_false,bZ,fQ,gH,gC,aK,iR,Nat.reduceLeDiff,Nat.reduceLT,Nat.reduceSub,VX,Nat.reduceEqDiff,Nat.reduceAdd]
   exact aI rfl
 ·have hl:=ahL (a:=a) (b:=b) (by simp[q1,q2])
  rw[hl,decide_eq_true q1]
  simp only[mF,jU,q1,q2,oL,decide_true,decide_false,bne_self_eq_false,Bool.bne_true,Bool.bne_false,Bool.true_bne,Bool.false_bne,Bool.not_true,Bool.not_false,bZ,fQ,gH,gC,aK,iR,Nat.reduceLeDiff,Nat.reduceLT,Nat.reduceSub,VX,Nat.reduceEqDiff,Nat.reduceAdd]
  exact aI rfl
 ·have hl:=ahL (a:=a) (b:=b) (by simp[q1,q2])
  rw[hl,decide_eq_false q1]
  simp only[mF,jU,q1,q2,oL,decide_true,decide_false,bne_self_eq_false,Bool.bne_true,Bool.bne_false,Bool.true_bne,Bool.false_bne,Bool.not_true,Bool.not_false,bZ,fQ,gH,gC,aK,iR,Nat.reduceLeDiff,Nat.reduceLT,Nat.reduceSub,VX,Nat.reduceEqDiff,Nat.reduceAdd]
  exact aI rfl
 ·have Zw:a<b↔eW (a.num.natAbs*b.den) (b.num.natAbs*a.den)<0:=by
   rw[bH,uF]
   have e1:a.num=(a.num.natAbs:Int):=by omega
   have e2:b.num=(b.num.natAbs:Int):=by omega
   generalize a.num.natAbs=m at *
   generalize b.num.natAbs=n at *
   rw[e1,e2,←Int.natCast_mul,←Int.natCast_mul]
   omega
  by_cases q3:eW (a.num.natAbs*b.den) (b.num.natAbs*a.den)<0
  ·rw[decide_eq_true (Zw.2 q3)]
   simp only[mF,jU,c1,c2,c3,q1,q2,q3,oL,decide_true,decide_false,bne_self_eq_false,Bool.bne_true,Bool.bne_false,Bool.true_bne,Bool.false_bne,Bool.not_true,Bool.not_false,bZ,fQ,gH,gC,aK,iR,Nat.reduceLeDiff,Nat.reduceLT,Nat.reduceSub,VX,Nat.reduceEqDiff,Nat.reduceAdd]
   exact aI rfl
  ·rw[decide_eq_false (mt Zw.1 q3)]
   simp only[mF,jU,c1,c2,c3,q1,q2,q3,oL,decide_true,decide_false,bne_self_eq_false,Bool.bne_true,Bool.bne_false,Bool.true_bne,Bool.false_bne,Bool.not_true,Bool.not_false,bZ,fQ,gH,gC,aK,iR,Nat.reduceLeDiff,Nat.reduceLT,Nat.reduceSub,VX,Nat.reduceEqDiff,Nat.reduceAdd]
   exact aI rfl
end Go.PM
namespace Go.PM
open Go.Lib
theorem QW {l:List UInt8} {q:Rat} (h:xX l=some q):Dr l = .eX [bA q,VB true]:=by unfold Dr;rw[h]
theorem Q1 {l:List UInt8} (h:xX l=none):Dr l = .eX [ET,VB false]:=by unfold Dr;rw[h]
end Go.PM
namespace Go.PM
open Go.Lib
theorem pG (q:Rat):(aB (bA q)).length=3:=rfl
theorem Me (qs:List Rat):aP (bI bA qs)=true:=nH pG Fq
set_option maxHeartbeats 1000000 in
theorem HY {lo:Nat} {H:aA} {q:Rat} (h:lo≤H.length):bQ lo 3 (.ptr H.length 0 0 0) (bA q) (H++[cell0])=some (H++[.row 0 [bA q] 3 true]):=by
 rw[bU (g:=0) (e:=3) (j:=0) fN (by exact Nat.zero_lt_one) h rfl rfl,FT]
 rfl
theorem ZN {H K:aA} {q:Rat}:cE true 3 (.ptr H.length 0 0 0) (H ++ .row 0 [bA q] 3 true::K)=some (bA q):=by
 rw[bO,wI,aS]
 exact fF _
theorem Cf {lo:Nat} {H:aA} {v:VV} (qs:List Rat) {B:Nat} (hv:Rd bA 3 qs H v) (dL:lo≤H.length) (hb:∀q∈qs,aZ q≤B) (hk:qs.length*(B+1)+1≤1099511627776) (hB:B≤1099511627776) (hn:qs.length≤1000000000) :
  gQ 60 [v] lo H (GZ (fun _ _ _ r=>r=bA (dY qs)) H):=by
 refine gQ.walk ⟨true,false⟩ Jv (Nat.le_of_ble_eq_true rfl) ?_
 have e1:=wX
 have e2:=hv.len (H++[cell0,.row 0 [bA 0] 3 true]) (List.prefix_append _ _)
 have s0:bQ lo 3 (.ptr (H.length+1) 0 0 0) (bA 0) (H++[cell0,cell0])=some (H++[cell0,.row 0 [bA 0] 3 true]):=by
  have:=HY (lo:=lo) (H:=H++[cell0]) (q:=0) (by rw[List.length_append];omega)
  simpa only[List.length_append,List.length_cons,List.length_nil,Nat.zero_add,List.append_assoc,List.cons_append,List.nil_append] using this
 simp only[Em,B8,e1,e2,s0,List.length_append,List.length_cons,List.length_nil,List.append_assoc,List.cons_append,List.nil_append,fW,VX,Nat.reduceEqDiff,Nat.reduceAdd,Nat.reduceLeDiff,Nat.reduceLT,Nat.reduceSub]
 refine aT (fun(i:Nat) ρ H1=>i≤qs.length∧H <+: H1∧aH H1 H.length 0=some ([rz],3,true)∧aH H1 (H.length+1) 0=some ([bA (dY (qs.take i))],3,true)∧ρ 2 = .ptr H.length 0 0 0∧ρ 3 = .ptr (H.length+1) 0 0 0∧ρ 0=v∧ρ 7=VI qs.length∧ρ 8=VI i) (fun i=>qs.length-i) 0 ⟨Nat.zero_le _,List.prefix_append _ _,wI.trans aS,Pg.trans (iM.trans aS),rfl,rfl,rfl,rfl,rfl⟩ ?_
 rintro i ρ H1 ⟨hi,hp,uK,FB,g2,g3,g0,g7,g8⟩
 have Bk:=fR FB
 have s3:cE true 3 (.ptr (H.length+1) 0 0 0) H1=some (bA (dY (qs.take i))):=by
  rw[bO,FB]
  exact fF _
 by_cases dA:(i:Int)<(qs.length:Int)
 ·obtain⟨q,hq⟩:∃q,qs[i]? = some q:=⟨_,List.getElem?_eq_getElem (by omega)⟩
  obtain⟨p,a1,a2⟩:=hv.get H1 hp i q hq
  have a2':=(a2 true).trans (fF _)
  have wi:IntKind.i64.wrap ((i:Int)+1)=((i+1:Nat):Int):=wrapN (i+1) (by omega) (by omega)
  have h1:=E5 hb i
  have h2:=hb q (List.mem_of_getElem? hq)
  have h3:(i+1)*(B+1)≤qs.length*(B+1):=Nat.mul_le_mul_right _ (by omega)
  have e3:=zU (dY (qs.take i)) q (by omega) (by omega)
  rw[←A4 hq] at e3
  have s4:=bU (lo:=lo) (v:=bA (dY (qs.take (i+1)))) (j:=0) FB (by exact Nat.zero_lt_one) (by omega) rfl rfl
  rw[List.set_cons_zero] at s4
  simp only[tK,g2,g3,g0,g7,g8,dA,a1,a2',e3,s3,s4,wi,fW,VX,Nat.reduceEqDiff,Nat.reduceAdd,Nat.reduceLeDiff,Nat.reduceLT,Nat.reduceSub]
  exact⟨i+1,by omega,by omega,kQ hp (by omega),cF (by omega) uK,cA FB,by (repeat' apply And.intro)<;>first | rfl | trivial | assumption⟩
 ·have oB:i=qs.length:=by omega
  subst oB
  rw[List.take_length] at s3
  have s4:=bU (lo:=lo) (v:=bA (dY qs)) (j:=0) uK (by exact Nat.zero_lt_one) dL rfl rfl
  rw[List.set_cons_zero] at s4
  have s5:cE true 3 (.ptr H.length 0 0 0) (H1.set H.length (.row 0 [bA (dY qs)] 3 true))=some (bA (dY qs)):=by
   rw[bO,cA uK]
   exact fF _
  simp only[tK,g2,g3,g7,g8,dA,s3,s4,s5,fW,VX,Nat.reduceEqDiff,Nat.reduceAdd,Nat.reduceLeDiff,Nat.reduceLT,Nat.reduceSub]
  exact⟨kQ hp (Nat.le_refl _),rfl⟩
theorem Vy {q:Rat}:q.num<0↔q<0:=by rw[←Int.not_le,Rat.num_nonneg];constructor<;>intro h<;>grind
end Go.PM
namespace Go.PM
open Go.Lib
end Go.PM