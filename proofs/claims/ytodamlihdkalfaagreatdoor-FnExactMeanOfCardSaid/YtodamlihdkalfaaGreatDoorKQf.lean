/- Texts of a claim, in one: part 6. -/
import Derived.KernelRfl
import Derived.Lib.ItoaNum
import Derived.Lib.Join
import Derived.Test.YtodamlihdkalfaaGreatDoorKQe
set_option linter.unusedSimpArgs false
set_option linter.unusedVariables false
namespace Go.PM
set_option maxHeartbeats 1000000 in
theorem FM (xs:List ByteArray) (bare:Bool) (hn:xs.length≤1000000000):FC 43 [fT xs,.sc (.bool bare)] (ToR sV 1 lZ xs bare):=by
 refine FC.walk ⟨true,false⟩ E6 (Nat.le_of_ble_eq_true rfl) fun n => ?_
 have hr:=room_le xs.length
 by_cases hb:bare=true∧(xs.length:Int)=0
 ·obtain⟨rfl,h0⟩:=hb
  simp only[qB,nD,h0,VX,Nat.reduceEqDiff,Nat.reduceAdd]
  refine⟨[],by simp,rfl,rfl,.inl ⟨rfl,?_,rfl,rfl⟩⟩
  cases xs with
  | nil=>rfl
  | cons x xs=>simp at h0;omega
 have wM:bare=true→¬(xs.length:Int)=0:=fun h h'=>hb ⟨h,h'⟩
 clear hb
 have w1:IntKind.i64.wrap ((xs.length:Int)+(room xs.length:Int))=((xs.length+room xs.length:Nat):Int):=wrapN _ (by omega) (by omega)
 have em:=uB (H:=List.replicate n jR.dead) (z:=[.string ⟨#[]⟩]) (bytes:=16) (n:=xs.length+room xs.length) (f:=sV) (x:=⟨#[]⟩) rfl (by omega) (by omega)
 rw[List.length_replicate] at em
 have main:∀ρ:cP,ρ 0=fT xs→ρ 5 = .ref n 0 0 (xs.length+room xs.length) (xs.length+room xs.length)→ρ 6=VI 0→∀Q:VQ,
   (∀aU:cP,aU 0=fT xs→aU 5 = .ref n 0 0 (xs.length+room xs.length) (xs.length+room xs.length)→Q (.exit 0) aU (List.replicate n jR.dead++[.row 0 ((xs++List.replicate (room xs.length) (⟨#[]⟩:ByteArray)).map sV) 1 true])) →
   VW ⟨true,false⟩ n (.loop lQ) Q ρ (List.replicate n jR.dead++[.row 0 ((List.replicate (xs.length+room xs.length) (⟨#[]⟩:ByteArray)).map sV) 1 true]):=by
  intro ρ h0 h5 h6 Q hQ
  refine bB (fun(i:Nat) ρ H=>i≤xs.length∧H=List.replicate n jR.dead++[.row 0 ((xs.take i++List.replicate (xs.length+room xs.length-i) (⟨#[]⟩:ByteArray)).map sV) 1 true]∧ρ 0=fT xs∧ρ 5 = .ref n 0 0 (xs.length+room xs.length) (xs.length+room xs.length)∧ρ 6=VI i) (fun i=>xs.length-i) 0 ⟨Nat.zero_le _,by simp,h0,h5,h6⟩ ?_
  rintro i ρ H ⟨hi,rfl,h0,h5,h6⟩
  by_cases cX:(i:Int)<(xs.length:Int)
  ·obtain⟨x,hx⟩:∃x,xs[i]? = some x:=⟨_,List.getElem?_eq_getElem (by omega)⟩
   have e1:=aP (f:=sV) (t := .op) (H:=List.replicate n jR.dead++[.row 0 ((xs.take i++List.replicate (xs.length+room xs.length-i) (⟨#[]⟩:ByteArray)).map sV) 1 true]) (size:=1) (k := .i64) hx rfl
   have e3:=bD (H:=List.replicate n jR.dead++[.row 0 ((xs.take i++List.replicate (xs.length+room xs.length-i) (⟨#[]⟩:ByteArray)).map sV) 1 true]) (b:=n) (g:=0) (o:=0) (n:=xs.length+room xs.length) (c:=xs.length+room xs.length) (i:=i) (k := .i64) Fc (by omega)
   have aX:(xs.take i).length=i:=by simp;omega
   have e4:=fX (H:=List.replicate n jR.dead++[.row 0 ((xs.take i++List.replicate (xs.length+room xs.length-i) (⟨#[]⟩:ByteArray)).map sV) 1 true]) (f:=sV) (e:=1) (x:=x) (j:=i) (lo:=n) (b:=n) (g:=0) Fc (by simp;omega) (Nat.le_refl _) rfl rfl
   have EZ:=MW (xs.take i) (xs.length+room xs.length-(i+1)) (⟨#[]⟩:ByteArray) x
   rw[aX,show xs.length+room xs.length-(i+1)+1=xs.length+room xs.length-i by omega] at EZ
   have htk:xs.take i++[x]=xs.take (i+1):=by rw[List.take_add_one,hx];rfl
   rw[Zv,EZ,htk] at e4
   have wi:IntKind.i64.wrap ((i:Int)+1)=((i+1:Nat):Int):=wrapN (i+1) (by omega) (by omega)
   simp only[lQ,h0,h5,h6,cX,e1,e3,e4,wi,VX,Nat.reduceEqDiff,Nat.reduceAdd]
   exact⟨i+1,by omega,by omega,by (repeat' apply And.intro)<;>first | rfl | trivial⟩
  ·have qW:i=xs.length:=by omega
   subst qW
   simp only[lQ,h0,h5,h6,cX,VX,Nat.reduceEqDiff,Nat.reduceAdd]
   rw[List.take_length,Nat.add_sub_cancel_left]
   exact hQ _ h0 h5
 have Zd:∀ρ:cP,ρ 0=fT xs→ρ 5 = .ref n 0 0 (xs.length+room xs.length) (xs.length+room xs.length)→ρ 7=VI xs.length→∀Q:VQ,
   (∀aU:cP,aU 0=fT xs→aU 5 = .ref n 0 0 (xs.length+room xs.length) (xs.length+room xs.length)→Q (.exit 2) aU (List.replicate n jR.dead++[.row 0 ((iE lZ xs).map sV) 1 true])) →
   VW ⟨true,false⟩ n (.loop mC) Q ρ (List.replicate n jR.dead++[.row 0 ((xs++List.replicate (room xs.length) (⟨#[]⟩:ByteArray)).map sV) 1 true]):=by
  intro ρ h0 h5 h6 Q hQ
  refine bB (fun(j:Nat) ρ H=>j≤room xs.length∧H=List.replicate n jR.dead++[.row 0 ((xs++List.replicate j lZ++List.replicate (room xs.length-j) (⟨#[]⟩:ByteArray)).map sV) 1 true]∧ρ 0=fT xs∧ρ 5 = .ref n 0 0 (xs.length+room xs.length) (xs.length+room xs.length)∧ρ 7=VI (xs.length+j:Nat)) (fun j=>room xs.length-j) 0 ⟨Nat.zero_le _,by simp,h0,h5,h6⟩ ?_
  rintro j ρ H ⟨hi,rfl,h0,h5,h6⟩
  have el:=iS (H:=List.replicate n jR.dead++[.row 0 ((xs++List.replicate j lZ++List.replicate (room xs.length-j) (⟨#[]⟩:ByteArray)).map sV) 1 true]) (b:=n) (g:=0) (o:=0) (n:=xs.length+room xs.length) (c:=xs.length+room xs.length) Fc
  by_cases cX:((xs.length+j:Nat):Int)<((xs.length+room xs.length:Nat):Int)
  ·have e3:=bD (H:=List.replicate n jR.dead++[.row 0 ((xs++List.replicate j lZ++List.replicate (room xs.length-j) (⟨#[]⟩:ByteArray)).map sV) 1 true]) (b:=n) (g:=0) (o:=0) (n:=xs.length+room xs.length) (c:=xs.length+room xs.length) (i:=xs.length+j) (k := .i64) Fc (by omega)
   have e4:=fX (H:=List.replicate n jR.dead++[.row 0 ((xs++List.replicate j lZ++List.replicate (room xs.length-j) (⟨#[]⟩:ByteArray)).map sV) 1 true]) (f:=sV) (e:=1) (x:=lZ) (j:=xs.length+j) (lo:=n) (b:=n) (g:=0) Fc (by simp;omega) (Nat.le_refl _) rfl rfl
   have EZ:=MW (xs++List.replicate j lZ) (room xs.length-(j+1)) (⟨#[]⟩:ByteArray) lZ
   rw[show (xs++List.replicate j lZ).length=xs.length+j by simp,show room xs.length-(j+1)+1=room xs.length-j by omega,show xs++List.replicate j lZ++[lZ]=xs++List.replicate (j+1) lZ by rw[List.append_assoc,←List.replicate_succ']] at EZ
   rw[Zv,EZ] at e4
   have e4:dC n 1 (.ptr n 0 (xs.length+j) 0) (.sc (.string ⟨#[126,115,112,97,114,101,126]⟩)) _=_:=e4
   have wi:IntKind.i64.wrap (((xs.length+j:Nat):Int)+1)=((xs.length+(j+1):Nat):Int):=wrapN _ (by omega) (by omega)
   simp only[mC,h0,h5,h6,cX,el,e3,e4,wi,VX,Nat.reduceEqDiff,Nat.reduceAdd]
   exact⟨j+1,by omega,by omega,by (repeat' apply And.intro)<;>first | rfl | trivial⟩
  ·have qW:j=room xs.length:=by omega
   subst qW
   simp only[mC,h0,h5,h6,cX,el,VX,Nat.reduceEqDiff,Nat.reduceAdd]
   rw[Nat.sub_self,List.replicate_zero,List.append_nil]
   exact hQ _ h0 h5
 have fin:∀aU:cP,DR 1 (.ref n 0 0 (xs.length+room xs.length) (xs.length+room xs.length)) none (some (VI xs.length)) none (List.replicate n jR.dead++[.row 0 ((iE lZ xs).map sV) 1 true])=some (.ref n 0 0 xs.length (xs.length+room xs.length)):=by
  intro _
  rw[wL Fc (by omega)]
 cases bare with
 |
  true =>
  have Uw:=wM rfl
  simp only[qB,nD,Uw,w1,em,qL,VX,Nat.reduceEqDiff,Nat.reduceAdd]
  refine main _ rfl rfl rfl _ fun aU h0 h5 => ?_
  simp only[h0,h5,VX,Nat.reduceEqDiff,Nat.reduceAdd]
  refine Zd _ (by exact h0) (by exact h5) rfl _ fun yM h0 h5 => ?_
  simp only[h0,h5,fin yM,VX,Nat.reduceEqDiff,Nat.reduceAdd]
  refine⟨_,rfl,by simp[wE],by simp[oH,Oi (f:=sV) (fun _=>rfl)],.inr ⟨rfl,rfl⟩⟩
 |
  false =>
  simp only[qB,nD,w1,em,qL,VX,Nat.reduceEqDiff,Nat.reduceAdd]
  refine main _ rfl rfl rfl _ fun aU h0 h5 => ?_
  simp only[h0,h5,VX,Nat.reduceEqDiff,Nat.reduceAdd]
  refine Zd _ (by exact h0) (by exact h5) rfl _ fun yM h0 h5 => ?_
  simp only[h0,h5,fin yM,VX,Nat.reduceEqDiff,Nat.reduceAdd]
  refine⟨_,rfl,by simp[wE],by simp[oH,Oi (f:=sV) (fun _=>rfl)],.inr ⟨rfl,rfl⟩⟩
theorem Fa (xs ys:List ByteArray) (hn:xs.length≤1000000000):TC 54 [fT xs,fT ys] (.sc (.bool (decide (xs=ys)))):=by
 refine TC.walk ⟨true,false⟩ Fb rfl (Nat.le_of_ble_eq_true rfl) (by simp[aK,dQ]) rfl ?_
 by_cases hl:(xs.length:Int)=(ys.length:Int)
 ·simp only[uQ,qY,hl,VX,Nat.reduceEqDiff,Nat.reduceAdd]
  refine bB (fun(i:Nat) ρ H=>i≤xs.length∧H=[]∧xs.take i=ys.take i∧ρ 0=fT xs∧ρ 1=fT ys∧ρ 5=VI i) (fun i=>xs.length-i) 0 ⟨Nat.zero_le _,rfl,by simp,rfl,rfl,rfl⟩ ?_
  rintro i ρ H ⟨hi,rfl,ht,h0,h1,h5⟩
  by_cases cX:(i:Int)<(xs.length:Int)
  ·obtain⟨x,hx⟩:∃x,xs[i]? = some x:=⟨_,List.getElem?_eq_getElem (by omega)⟩
   obtain⟨y,hy⟩:∃y,ys[i]? = some y:=⟨_,List.getElem?_eq_getElem (by omega)⟩
   have e1:=aP (f:=sV) (t := .op) (H:=[]) (size:=1) (k := .i64) hx rfl
   have e2:=aP (f:=sV) (t := .op) (H:=[]) (size:=1) (k := .i64) hy rfl
   have wi:IntKind.i64.wrap ((i:Int)+1)=((i+1:Nat):Int):=wrapN (i+1) (by omega) (by omega)
   by_cases Af:x=y
   ·simp only[lS,D6,h0,h1,h5,cX,e1,e2,Af,wi,VX,Nat.reduceEqDiff,Nat.reduceAdd]
    refine⟨i+1,by omega,by omega,?_⟩
    rw[List.take_add_one,List.take_add_one,hx,hy,ht,Af]
    (repeat' apply And.intro)<;>first | rfl | trivial
   ·simp only[lS,D6,h0,h1,h5,cX,e1,e2,Af,VX,Nat.reduceEqDiff,Nat.reduceAdd]
    have:¬xs=ys:=fun h=>Af (by rw[h,hy] at hx;injection hx with hx;exact hx.symm)
    simp only[this,decide_false]
    exact aI rfl
  ·simp only[lS,h0,h1,h5,cX,VX,Nat.reduceEqDiff,Nat.reduceAdd]
   have:xs=ys:=by
    rw[List.take_of_length_le (by omega),List.take_of_length_le (by omega)] at ht
    exact ht
   simp only[this,decide_true]
   exact aI rfl
 ·simp only[uQ,qY,hl,VX,Nat.reduceEqDiff,Nat.reduceAdd]
  have:¬xs=ys:=fun h=>hl (by rw[h])
  simp only[this,decide_false]
  exact aI rfl
theorem BA {lo b b':Nat} {H:aB} (xs:List ByteArray) (hn:xs.length≤400000000) (hX:aV H b 0=some ((iE lZ xs).map sV,1,true)) (hY:aV H b' 0=some ((iE lZ xs).map sV,1,true)) {K:VV→aB→Prop} (hk:K (.sc (.bool true)) H) :
  dJ 45 [.ref b 0 0 xs.length (xs.length+room xs.length),.ref b' 0 0 xs.length (xs.length+room xs.length)] lo H K:=by
 refine oW rfl (vN.walk ⟨true,false⟩ BE (Nat.le_of_ble_eq_true rfl) ?_)
 have hr:=room_le xs.length
 have hf:=Ob lZ xs
 have w1:IntKind.i64.wrap ((xs.length:Int)+(room xs.length:Int))=((xs.length+room xs.length:Nat):Int):=wrapN _ (by omega) (by omega)
 have l1:=iS (o:=0) (n:=xs.length) (c:=xs.length+room xs.length) hX
 have l2:=iS (o:=0) (n:=xs.length) (c:=xs.length+room xs.length) hY
 have e1:=wL (o:=0) (n:=xs.length) (c:=xs.length+room xs.length) (h:=xs.length+room xs.length) (k2 := .i64) hX (Nat.le_refl _)
 have e2:=wL (o:=0) (n:=xs.length) (c:=xs.length+room xs.length) (h:=xs.length+room xs.length) (k2 := .i64) hY (Nat.le_refl _)
 have f1:fz depth H (.ref b 0 0 (xs.length+room xs.length) (xs.length+room xs.length))=some (fT (iE lZ xs)):=CZ hX (by simp[hf]) (Nat.le_refl _) (dY fun _=>rfl)
 have f2:fz depth H (.ref b' 0 0 (xs.length+room xs.length) (xs.length+room xs.length))=some (fT (iE lZ xs)):=CZ hY (by simp[hf]) (Nat.le_refl _) (dY fun _=>rfl)
 have e3:=(Fa (iE lZ xs) (iE lZ xs) (by omega)).flat (H:=H) rfl (by simp[aK,dQ]) (fz2 f1 f2) rfl
 simp only[uK,sJ,qL,l1,l2,w1,e1,e2,e3,eq_self,VX,Nat.reduceEqDiff,Nat.reduceAdd]
 exact hk
end Go.PM
namespace Go.PM
def cV (c:eV):VV := .agg [nV c.t,nV c.w,nV c.k]
theorem aaN:∀c:eV,(aA (cV c)).length=3:=fun _=>rfl
abbrev W4 (xs:List eV):VV:=bT cV xs
theorem OO (xs:List eV):aW (W4 xs)=true:=jA aaN fun _=>rfl
end Go.PM
namespace Go.PM
end Go.PM
namespace Go.PM
end Go.PM
namespace Go.PM
theorem U4 {H L:aB} {b g:Nat} {x:List VV×Nat×Bool} (h:aV H b g=some x):aV (H++L) b g=some x:=by
 obtain⟨es,e,w⟩:=x
 rw[cY] at h ⊢
 rw[List.getElem?_append_left (List.getElem?_eq_some_iff.1 h).1]
 exact h
theorem Gf {H L:aB} {i g e:Nat} {es:List VV} {w:Bool} (h:L[i]? = some (.row g es e w)):aV (H++L) (H.length+i) g=some (es,e,w):=by
 rw[cY,List.getElem?_append_right (Nat.le_add_right _ _),Nat.add_sub_cancel_left]
 exact h
theorem Gl {H:aB} {b b' g:Nat} {x:jR} {y:List VV×Nat×Bool} (hn:b'≠b) (h:aV H b g=some y):aV (H.set b' x) b g=some y:=by
 obtain⟨es,e,w⟩:=y
 rw[cY] at h ⊢
 rw[List.getElem?_set_ne hn]
 exact h
end Go.PM
namespace Go.PM
def fC:aF:=(LS [LO 4 (.mv LF)] (LS [LM 5 0,LM 6 1,LO 7 (.call 205 [(LT 5),(LT 6)]),LO 8 (.bin .geq (LT 7) (LI 0)),LM 4 8] .ret))
def fR:aT:=⟨9,[(.tmp 4)],fC⟩
theorem kR:gZ 146=some fR:=by kernel_rfl
def cB:aF:=(LS [LO 9 (.bin .lss (LT 8) (LT 7))] (.seq (.cond (LT 9) .skip (.exit 0)) (.seq (.block 1 (LS [LM 10 8,LM 5 10] (LS [LM 11 1,LM 12 0,LM 13 5,LO 14 (.iaddr 3 (LT 12) (LT 13)),LO 15 (LK 14),LO 16 (.callv (LT 11) [(LT 15)])] (.cond (LT 16) (LS [LM 17 5,LM 4 17] .ret) .skip)))) (.dU [LO 18 (.bin .add (LT 8) (LI 1)),LM 8 18]))))
def gA:aF:=(LS [LO 4 (.mv (LI 0))] (.seq (LS [LM 6 0,LO 7 (.len (LT 6)),LO 8 (.mv (LI 0))] (.block 0 (.loop cB))) (LS [LO 4 (.mv (LI (-1)))] .ret)))
def gL:aT:=⟨19,[(.tmp 4)],gA⟩
theorem mD:gZ 205=some gL:=by kernel_rfl
def CG:aF:=(LS [LO 4 (.mv (.const (.string ⟨#[]⟩))),LO 5 (.mv (.const (.string ⟨#[]⟩))),LO 6 (.mv LF)] (LS [LM 7 0,LM 8 1,LO 9 (.call 215 [(LT 7),(LT 8)]),LO 10 (LX 9 0),LO 11 (LX 9 1),LO 12 (LX 9 2),LM 4 10,LM 5 11,LM 6 12] .ret))
def Gk:aT:=⟨13,[(.tmp 4),(.tmp 5),(.tmp 6)],CG⟩
theorem JP:gZ 167=some Gk:=by kernel_rfl
def tA:aF:=(LS [LO 4 (.mv (.const (.string ⟨#[]⟩))),LO 5 (.mv LF)] (LS [LM 6 0,LM 7 1,LO 8 (.call 216 [(LT 6),(LT 7)]),LO 9 (LX 8 0),LO 10 (LX 8 1),LM 4 9,LM 5 10] .ret))
def wG:aT:=⟨11,[(.tmp 4),(.tmp 5)],tA⟩
theorem Cm:gZ 168=some wG:=by kernel_rfl
def eJ:aF:=(.seq (LS [LM 7 2,LM 8 3,LO 9 (.bin .lss (LT 7) (LT 8))] (.cond (LT 9) .skip (.exit 0))) (.seq (.block 1 (.dU [LM 14 0,LM 15 2,LM 16 0,LM 17 3,LM 18 0,LM 19 3,LO 20 (.iaddr 1 (LT 18) (LT 19)),LO 21 (LL 20),LM 22 0,LM 23 2,LO 24 (.iaddr 1 (LT 22) (LT 23)),LO 25 (LL 24),LO 26 (.iaddr 1 (LT 14) (LT 15)),LN (.store 1 (LT 26) (LT 21)),LO 27 (.iaddr 1 (LT 16) (LT 17)),LN (.store 1 (LT 27) (LT 25))])) (.dU [LM 10 2,LO 11 (.bin .add (LT 10) (LI 1)),LM 12 3,LO 13 (.bin .sub (LT 12) (LI 1)),LM 2 11,LM 3 13])))
def iX:aF:=(LS [LM 4 0,LO 5 (.len (LT 4)),LO 6 (.bin .sub (LT 5) (LI 1)),LO 2 (.mv (LI 0)),LM 3 6] (.block 0 (.loop eJ)))
def jQ:aT:=⟨28,[],iX⟩
theorem pD:gZ 185=some jQ:=by kernel_rfl
def iV:aF:=(LS [LO 4 (.mv (.const (.string ⟨#[]⟩))),LO 5 (.mv (.const (.string ⟨#[]⟩))),LO 6 (.mv LF)] (.seq (LS [LM 8 0,LM 9 1,LO 10 (.call 241 [(LT 8),(LT 9)]),LM 7 10] (LS [LM 11 7,LO 12 (.bin .geq (LT 11) (LI 0))] (.cond (LT 12) (LS [LM 13 0,LM 14 7,LO 15 (.ssub (LT 13) none (some (LT 14))),LM 16 0,LM 17 7,LM 18 1,LO 19 (.slen (LT 18)),LO 20 (.bin .add (LT 17) (LT 19)),LO 21 (.ssub (LT 16) (some (LT 20)) none),LM 4 15,LM 5 21,LO 6 (.mv LG)] .ret) .skip))) (LS [LM 22 0,LM 4 22,LO 5 (.mv (.const (.string ⟨#[]⟩))),LO 6 (.mv LF)] .ret)))
def jN:aT:=⟨23,[(.tmp 4),(.tmp 5),(.tmp 6)],iV⟩
theorem uL:gZ 215=some jN:=by kernel_rfl
def fK:aF:=(LS [LO 4 (.mv (.const (.string ⟨#[]⟩))),LO 5 (.mv LF)] (.seq (LS [LM 6 0,LM 7 1,LO 8 (.call 229 [(LT 6),(LT 7)]),LO 9 (.un .not (LT 8))] (.cond (LT 9) (LS [LM 10 0,LM 4 10,LO 5 (.mv LF)] .ret) .skip)) (LS [LM 11 0,LM 12 1,LO 13 (.slen (LT 12)),LO 14 (.ssub (LT 11) (some (LT 13)) none),LM 4 14,LO 5 (.mv LG)] .ret)))
def fW:aT:=⟨15,[(.tmp 4),(.tmp 5)],fK⟩
theorem qN:gZ 216=some fW:=by kernel_rfl
def fE:aF:=(LS [LO 4 (.mv LF)] (LS [LM 5 0,LO 6 (.slen (LT 5)),LM 7 1,LO 8 (.slen (LT 7)),LO 9 (.bin .geq (LT 6) (LT 8)),LM 10 9,LY 10 11 (.mv (LT 0)),LY 10 12 (.mv (LT 1)),LY 10 13 (.slen (LT 12)),LY 10 14 (.ssub (LT 11) none (some (LT 13))),LY 10 15 (.mv (LT 1)),LY 10 16 (.bin .eql (LT 14) (LT 15)),LO 17 (.pick (LT 10) (LT 16) LF),LM 4 17] .ret))
def fV:aT:=⟨18,[(.tmp 4)],fE⟩
theorem pU:gZ 229=some fV:=by kernel_rfl
def xK:aF:=(LS [LO 2 (.mv (.const (.string ⟨#[]⟩)))] (.seq (LS [LM 3 0,LO 4 (.bin .lss (LT 3) (LI 10))] (.cond (LT 4) (LS [LM 5 0,LM 6 0,LO 7 (.bin .add (LT 6) (LI 1)),LO 8 (.ssub (.const (.string ⟨#[48,49,50,51,52,53,54,55,56,57,97,98,99,100,101,102,103,104,105,106,107,108,109,110,111,112,113,114,115,116,117,118,119,120,121,122]⟩)) (some (LT 5)) (some (LT 7))),LM 2 8] .ret) .skip)) (LS [LM 9 0,LO 10 (.bin .mul (LT 9) (LI 2)),LM 11 0,LO 12 (.bin .mul (LT 11) (LI 2)),LO 13 (.bin .add (LT 12) (LI 2)),LO 14 (.ssub (.const (.string ⟨#[48,48,48,49,48,50,48,51,48,52,48,53,48,54,48,55,48,56,48,57,49,48,49,49,49,50,49,51,49,52,49,53,49,54,49,55,49,56,49,57,50,48,50,49,50,50,50,51,50,52,50,53,50,54,50,55,50,56,50,57,51,48,51,49,51,50,51,51,51,52,51,53,51,54,51,55,51,56,51,57,52,48,52,49,52,50,52,51,52,52,52,53,52,54,52,55,52,56,52,57,53,48,53,49,53,50,53,51,53,52,53,53,53,54,53,55,53,56,53,57,54,48,54,49,54,50,54,51,54,52,54,53,54,54,54,55,54,56,54,57,55,48,55,49,55,50,55,51,55,52,55,53,55,54,55,55,55,56,55,57,56,48,56,49,56,50,56,51,56,52,56,53,56,54,56,55,56,56,56,57,57,48,57,49,57,50,57,51,57,52,57,53,57,54,57,55,57,56,57,57]⟩)) (some (LT 10)) (some (LT 13))),LM 2 14] .ret)))
def internal_strconv_small:aT:=⟨15,[(.tmp 2)],xK⟩
def pO:aF:=(.seq (LS [LM 19 4,LO 20 (.bin .geq (LT 19) (LI 8))] (.cond (LT 20) .skip (.exit 0))) (.block 1 (LS [LM 21 1,LO 22 (.bin .rem (LT 21) (.const (.int .u64 100000000))),LO 23 (.cvt .u32 (LT 22)),LM 5 23] (LS [LM 24 1,LO 25 (.bin .quo (LT 24) (.const (.int .u64 100000000))),LM 1 25] (LS [LM 26 5,LO 27 (.bin .quo (LT 26) (.const (.int .u32 10000))),LM 28 5,LO 29 (.bin .rem (LT 28) (.const (.int .u32 10000))),LM 6 27,LM 7 29] (LS [LM 30 7,LO 31 (.bin .quo (LT 30) (.const (.int .u32 100))),LO 32 (.bin .mul (LT 31) (.const (.int .u32 2))),LM 33 7,LO 34 (.bin .rem (LT 33) (.const (.int .u32 100))),LO 35 (.bin .mul (LT 34) (.const (.int .u32 2))),LM 8 32,LM 9 35] (LS [LM 36 6,LO 37 (.bin .quo (LT 36) (.const (.int .u32 100))),LO 38 (.bin .mul (LT 37) (.const (.int .u32 2))),LM 39 6,LO 40 (.bin .rem (LT 39) (.const (.int .u32 100))),LO 41 (.bin .mul (LT 40) (.const (.int .u32 2))),LM 10 38,LM 11 41] (LS [LM 42 0,LM 43 4,LO 44 (.bin .sub (LT 43) (LI 1)),LM 45 0,LM 46 4,LO 47 (.bin .sub (LT 46) (LI 2)),LM 48 9,LO 49 (.bin .add (LT 48) (.const (.int .u32 1))),LO 50 (.sidx (.const (.string ⟨#[48,48,48,49,48,50,48,51,48,52,48,53,48,54,48,55,48,56,48,57,49,48,49,49,49,50,49,51,49,52,49,53,49,54,49,55,49,56,49,57,50,48,50,49,50,50,50,51,50,52,50,53,50,54,50,55,50,56,50,57,51,48,51,49,51,50,51,51,51,52,51,53,51,54,51,55,51,56,51,57,52,48,52,49,52,50,52,51,52,52,52,53,52,54,52,55,52,56,52,57,53,48,53,49,53,50,53,51,53,52,53,53,53,54,53,55,53,56,53,57,54,48,54,49,54,50,54,51,54,52,54,53,54,54,54,55,54,56,54,57,55,48,55,49,55,50,55,51,55,52,55,53,55,54,55,55,55,56,55,57,56,48,56,49,56,50,56,51,56,52,56,53,56,54,56,55,56,56,56,57,57,48,57,49,57,50,57,51,57,52,57,53,57,54,57,55,57,56,57,57]⟩)) (LT 49)),LM 51 9,LO 52 (.sidx (.const (.string ⟨#[48,48,48,49,48,50,48,51,48,52,48,53,48,54,48,55,48,56,48,57,49,48,49,49,49,50,49,51,49,52,49,53,49,54,49,55,49,56,49,57,50,48,50,49,50,50,50,51,50,52,50,53,50,54,50,55,50,56,50,57,51,48,51,49,51,50,51,51,51,52,51,53,51,54,51,55,51,56,51,57,52,48,52,49,52,50,52,51,52,52,52,53,52,54,52,55,52,56,52,57,53,48,53,49,53,50,53,51,53,52,53,53,53,54,53,55,53,56,53,57,54,48,54,49,54,50,54,51,54,52,54,53,54,54,54,55,54,56,54,57,55,48,55,49,55,50,55,51,55,52,55,53,55,54,55,55,55,56,55,57,56,48,56,49,56,50,56,51,56,52,56,53,56,54,56,55,56,56,56,57,57,48,57,49,57,50,57,51,57,52,57,53,57,54,57,55,57,56,57,57]⟩)) (LT 51)),LO 53 (.iaddr 1 (LT 42) (LT 44)),LN (.store 1 (LT 53) (LT 50)),LO 54 (.iaddr 1 (LT 45) (LT 47)),LN (.store 1 (LT 54) (LT 52))] (LS [LM 55 0,LM 56 4,LO 57 (.bin .sub (LT 56) (LI 3)),LM 58 0,LM 59 4,LO 60 (.bin .sub (LT 59) (LI 4)),LM 61 8,LO 62 (.bin .add (LT 61) (.const (.int .u32 1))),LO 63 (.sidx (.const (.string ⟨#[48,48,48,49,48,50,48,51,48,52,48,53,48,54,48,55,48,56,48,57,49,48,49,49,49,50,49,51,49,52,49,53,49,54,49,55,49,56,49,57,50,48,50,49,50,50,50,51,50,52,50,53,50,54,50,55,50,56,50,57,51,48,51,49,51,50,51,51,51,52,51,53,51,54,51,55,51,56,51,57,52,48,52,49,52,50,52,51,52,52,52,53,52,54,52,55,52,56,52,57,53,48,53,49,53,50,53,51,53,52,53,53,53,54,53,55,53,56,53,57,54,48,54,49,54,50,54,51,54,52,54,53,54,54,54,55,54,56,54,57,55,48,55,49,55,50,55,51,55,52,55,53,55,54,55,55,55,56,55,57,56,48,56,49,56,50,56,51,56,52,56,53,56,54,56,55,56,56,56,57,57,48,57,49,57,50,57,51,57,52,57,53,57,54,57,55,57,56,57,57]⟩)) (LT 62)),LM 64 8,LO 65 (.sidx (.const (.string ⟨#[48,48,48,49,48,50,48,51,48,52,48,53,48,54,48,55,48,56,48,57,49,48,49,49,49,50,49,51,49,52,49,53,49,54,49,55,49,56,49,57,50,48,50,49,50,50,50,51,50,52,50,53,50,54,50,55,50,56,50,57,51,48,51,49,51,50,51,51,51,52,51,53,51,54,51,55,51,56,51,57,52,48,52,49,52,50,52,51,52,52,52,53,52,54,52,55,52,56,52,57,53,48,53,49,53,50,53,51,53,52,53,53,53,54,53,55,53,56,53,57,54,48,54,49,54,50,54,51,54,52,54,53,54,54,54,55,54,56,54,57,55,48,55,49,55,50,55,51,55,52,55,53,55,54,55,55,55,56,55,57,56,48,56,49,56,50,56,51,56,52,56,53,56,54,56,55,56,56,56,57,57,48,57,49,57,50,57,51,57,52,57,53,57,54,57,55,57,56,57,57]⟩)) (LT 64)),LO 66 (.iaddr 1 (LT 55) (LT 57)),LN (.store 1 (LT 66) (LT 63)),LO 67 (.iaddr 1 (LT 58) (LT 60)),LN (.store 1 (LT 67) (LT 65))] (LS [LM 68 0,LM 69 4,LO 70 (.bin .sub (LT 69) (LI 5)),LM 71 0,LM 72 4,LO 73 (.bin .sub (LT 72) (LI 6)),LM 74 11,LO 75 (.bin .add (LT 74) (.const (.int .u32 1))),LO 76 (.sidx (.const (.string ⟨#[48,48,48,49,48,50,48,51,48,52,48,53,48,54,48,55,48,56,48,57,49,48,49,49,49,50,49,51,49,52,49,53,49,54,49,55,49,56,49,57,50,48,50,49,50,50,50,51,50,52,50,53,50,54,50,55,50,56,50,57,51,48,51,49,51,50,51,51,51,52,51,53,51,54,51,55,51,56,51,57,52,48,52,49,52,50,52,51,52,52,52,53,52,54,52,55,52,56,52,57,53,48,53,49,53,50,53,51,53,52,53,53,53,54,53,55,53,56,53,57,54,48,54,49,54,50,54,51,54,52,54,53,54,54,54,55,54,56,54,57,55,48,55,49,55,50,55,51,55,52,55,53,55,54,55,55,55,56,55,57,56,48,56,49,56,50,56,51,56,52,56,53,56,54,56,55,56,56,56,57,57,48,57,49,57,50,57,51,57,52,57,53,57,54,57,55,57,56,57,57]⟩)) (LT 75)),LM 77 11,LO 78 (.sidx (.const (.string ⟨#[48,48,48,49,48,50,48,51,48,52,48,53,48,54,48,55,48,56,48,57,49,48,49,49,49,50,49,51,49,52,49,53,49,54,49,55,49,56,49,57,50,48,50,49,50,50,50,51,50,52,50,53,50,54,50,55,50,56,50,57,51,48,51,49,51,50,51,51,51,52,51,53,51,54,51,55,51,56,51,57,52,48,52,49,52,50,52,51,52,52,52,53,52,54,52,55,52,56,52,57,53,48,53,49,53,50,53,51,53,52,53,53,53,54,53,55,53,56,53,57,54,48,54,49,54,50,54,51,54,52,54,53,54,54,54,55,54,56,54,57,55,48,55,49,55,50,55,51,55,52,55,53,55,54,55,55,55,56,55,57,56,48,56,49,56,50,56,51,56,52,56,53,56,54,56,55,56,56,56,57,57,48,57,49,57,50,57,51,57,52,57,53,57,54,57,55,57,56,57,57]⟩)) (LT 77)),LO 79 (.iaddr 1 (LT 68) (LT 70)),LN (.store 1 (LT 79) (LT 76)),LO 80 (.iaddr 1 (LT 71) (LT 73)),LN (.store 1 (LT 80) (LT 78))] (LS [LM 81 0,LM 82 4,LO 83 (.bin .sub (LT 82) (LI 7)),LM 84 0,LM 85 4,LO 86 (.bin .sub (LT 85) (LI 8)),LM 87 10,LO 88 (.bin .add (LT 87) (.const (.int .u32 1))),LO 89 (.sidx (.const (.string ⟨#[48,48,48,49,48,50,48,51,48,52,48,53,48,54,48,55,48,56,48,57,49,48,49,49,49,50,49,51,49,52,49,53,49,54,49,55,49,56,49,57,50,48,50,49,50,50,50,51,50,52,50,53,50,54,50,55,50,56,50,57,51,48,51,49,51,50,51,51,51,52,51,53,51,54,51,55,51,56,51,57,52,48,52,49,52,50,52,51,52,52,52,53,52,54,52,55,52,56,52,57,53,48,53,49,53,50,53,51,53,52,53,53,53,54,53,55,53,56,53,57,54,48,54,49,54,50,54,51,54,52,54,53,54,54,54,55,54,56,54,57,55,48,55,49,55,50,55,51,55,52,55,53,55,54,55,55,55,56,55,57,56,48,56,49,56,50,56,51,56,52,56,53,56,54,56,55,56,56,56,57,57,48,57,49,57,50,57,51,57,52,57,53,57,54,57,55,57,56,57,57]⟩)) (LT 88)),LM 90 10,LO 91 (.sidx (.const (.string ⟨#[48,48,48,49,48,50,48,51,48,52,48,53,48,54,48,55,48,56,48,57,49,48,49,49,49,50,49,51,49,52,49,53,49,54,49,55,49,56,49,57,50,48,50,49,50,50,50,51,50,52,50,53,50,54,50,55,50,56,50,57,51,48,51,49,51,50,51,51,51,52,51,53,51,54,51,55,51,56,51,57,52,48,52,49,52,50,52,51,52,52,52,53,52,54,52,55,52,56,52,57,53,48,53,49,53,50,53,51,53,52,53,53,53,54,53,55,53,56,53,57,54,48,54,49,54,50,54,51,54,52,54,53,54,54,54,55,54,56,54,57,55,48,55,49,55,50,55,51,55,52,55,53,55,54,55,55,55,56,55,57,56,48,56,49,56,50,56,51,56,52,56,53,56,54,56,55,56,56,56,57,57,48,57,49,57,50,57,51,57,52,57,53,57,54,57,55,57,56,57,57]⟩)) (LT 90)),LO 92 (.iaddr 1 (LT 81) (LT 83)),LN (.store 1 (LT 92) (LT 89)),LO 93 (.iaddr 1 (LT 84) (LT 86)),LN (.store 1 (LT 93) (LT 91))] (.dU [LM 94 4,LO 95 (.bin .sub (LT 94) (LI 8)),LM 4 95]))))))))))))
def qQ:aF:=(LS [LM 17 0,LO 18 (.len (LT 17)),LM 4 18] (.seq (.block 0 (.loop pO)) (LS [LM 96 1,LO 97 (.cvt .u32 (LT 96)),LM 12 97] (.seq (LS [LM 98 4,LO 99 (.bin .geq (LT 98) (LI 4))] (.cond (LT 99) (LS [LM 100 12,LO 101 (.bin .rem (LT 100) (.const (.int .u32 10000))),LM 13 101] (LS [LM 102 12,LO 103 (.bin .quo (LT 102) (.const (.int .u32 10000))),LM 12 103] (LS [LM 104 13,LO 105 (.bin .quo (LT 104) (.const (.int .u32 100))),LO 106 (.bin .mul (LT 105) (.const (.int .u32 2))),LM 107 13,LO 108 (.bin .rem (LT 107) (.const (.int .u32 100))),LO 109 (.bin .mul (LT 108) (.const (.int .u32 2))),LM 14 106,LM 15 109] (LS [LM 110 0,LM 111 4,LO 112 (.bin .sub (LT 111) (LI 1)),LM 113 0,LM 114 4,LO 115 (.bin .sub (LT 114) (LI 2)),LM 116 15,LO 117 (.bin .add (LT 116) (.const (.int .u32 1))),LO 118 (.sidx (.const (.string ⟨#[48,48,48,49,48,50,48,51,48,52,48,53,48,54,48,55,48,56,48,57,49,48,49,49,49,50,49,51,49,52,49,53,49,54,49,55,49,56,49,57,50,48,50,49,50,50,50,51,50,52,50,53,50,54,50,55,50,56,50,57,51,48,51,49,51,50,51,51,51,52,51,53,51,54,51,55,51,56,51,57,52,48,52,49,52,50,52,51,52,52,52,53,52,54,52,55,52,56,52,57,53,48,53,49,53,50,53,51,53,52,53,53,53,54,53,55,53,56,53,57,54,48,54,49,54,50,54,51,54,52,54,53,54,54,54,55,54,56,54,57,55,48,55,49,55,50,55,51,55,52,55,53,55,54,55,55,55,56,55,57,56,48,56,49,56,50,56,51,56,52,56,53,56,54,56,55,56,56,56,57,57,48,57,49,57,50,57,51,57,52,57,53,57,54,57,55,57,56,57,57]⟩)) (LT 117)),LM 119 15,LO 120 (.sidx (.const (.string ⟨#[48,48,48,49,48,50,48,51,48,52,48,53,48,54,48,55,48,56,48,57,49,48,49,49,49,50,49,51,49,52,49,53,49,54,49,55,49,56,49,57,50,48,50,49,50,50,50,51,50,52,50,53,50,54,50,55,50,56,50,57,51,48,51,49,51,50,51,51,51,52,51,53,51,54,51,55,51,56,51,57,52,48,52,49,52,50,52,51,52,52,52,53,52,54,52,55,52,56,52,57,53,48,53,49,53,50,53,51,53,52,53,53,53,54,53,55,53,56,53,57,54,48,54,49,54,50,54,51,54,52,54,53,54,54,54,55,54,56,54,57,55,48,55,49,55,50,55,51,55,52,55,53,55,54,55,55,55,56,55,57,56,48,56,49,56,50,56,51,56,52,56,53,56,54,56,55,56,56,56,57,57,48,57,49,57,50,57,51,57,52,57,53,57,54,57,55,57,56,57,57]⟩)) (LT 119)),LO 121 (.iaddr 1 (LT 110) (LT 112)),LN (.store 1 (LT 121) (LT 118)),LO 122 (.iaddr 1 (LT 113) (LT 115)),LN (.store 1 (LT 122) (LT 120))] (LS [LM 123 0,LM 124 4,LO 125 (.bin .sub (LT 124) (LI 3)),LM 126 0,LM 127 4,LO 128 (.bin .sub (LT 127) (LI 4)),LM 129 14,LO 130 (.bin .add (LT 129) (.const (.int .u32 1))),LO 131 (.sidx (.const (.string ⟨#[48,48,48,49,48,50,48,51,48,52,48,53,48,54,48,55,48,56,48,57,49,48,49,49,49,50,49,51,49,52,49,53,49,54,49,55,49,56,49,57,50,48,50,49,50,50,50,51,50,52,50,53,50,54,50,55,50,56,50,57,51,48,51,49,51,50,51,51,51,52,51,53,51,54,51,55,51,56,51,57,52,48,52,49,52,50,52,51,52,52,52,53,52,54,52,55,52,56,52,57,53,48,53,49,53,50,53,51,53,52,53,53,53,54,53,55,53,56,53,57,54,48,54,49,54,50,54,51,54,52,54,53,54,54,54,55,54,56,54,57,55,48,55,49,55,50,55,51,55,52,55,53,55,54,55,55,55,56,55,57,56,48,56,49,56,50,56,51,56,52,56,53,56,54,56,55,56,56,56,57,57,48,57,49,57,50,57,51,57,52,57,53,57,54,57,55,57,56,57,57]⟩)) (LT 130)),LM 132 14,LO 133 (.sidx (.const (.string ⟨#[48,48,48,49,48,50,48,51,48,52,48,53,48,54,48,55,48,56,48,57,49,48,49,49,49,50,49,51,49,52,49,53,49,54,49,55,49,56,49,57,50,48,50,49,50,50,50,51,50,52,50,53,50,54,50,55,50,56,50,57,51,48,51,49,51,50,51,51,51,52,51,53,51,54,51,55,51,56,51,57,52,48,52,49,52,50,52,51,52,52,52,53,52,54,52,55,52,56,52,57,53,48,53,49,53,50,53,51,53,52,53,53,53,54,53,55,53,56,53,57,54,48,54,49,54,50,54,51,54,52,54,53,54,54,54,55,54,56,54,57,55,48,55,49,55,50,55,51,55,52,55,53,55,54,55,55,55,56,55,57,56,48,56,49,56,50,56,51,56,52,56,53,56,54,56,55,56,56,56,57,57,48,57,49,57,50,57,51,57,52,57,53,57,54,57,55,57,56,57,57]⟩)) (LT 132)),LO 134 (.iaddr 1 (LT 123) (LT 125)),LN (.store 1 (LT 134) (LT 131)),LO 135 (.iaddr 1 (LT 126) (LT 128)),LN (.store 1 (LT 135) (LT 133))] (.dU [LM 136 4,LO 137 (.bin .sub (LT 136) (LI 4)),LM 4 137])))))) .skip)) (.seq (LS [LM 138 4,LO 139 (.bin .geq (LT 138) (LI 2))] (.cond (LT 139) (LS [LM 140 12,LO 141 (.bin .rem (LT 140) (.const (.int .u32 100))),LO 142 (.bin .mul (LT 141) (.const (.int .u32 2))),LM 16 142] (LS [LM 143 12,LO 144 (.bin .quo (LT 143) (.const (.int .u32 100))),LM 12 144] (LS [LM 145 0,LM 146 4,LO 147 (.bin .sub (LT 146) (LI 1)),LM 148 0,LM 149 4,LO 150 (.bin .sub (LT 149) (LI 2)),LM 151 16,LO 152 (.bin .add (LT 151) (.const (.int .u32 1))),LO 153 (.sidx (.const (.string ⟨#[48,48,48,49,48,50,48,51,48,52,48,53,48,54,48,55,48,56,48,57,49,48,49,49,49,50,49,51,49,52,49,53,49,54,49,55,49,56,49,57,50,48,50,49,50,50,50,51,50,52,50,53,50,54,50,55,50,56,50,57,51,48,51,49,51,50,51,51,51,52,51,53,51,54,51,55,51,56,51,57,52,48,52,49,52,50,52,51,52,52,52,53,52,54,52,55,52,56,52,57,53,48,53,49,53,50,53,51,53,52,53,53,53,54,53,55,53,56,53,57,54,48,54,49,54,50,54,51,54,52,54,53,54,54,54,55,54,56,54,57,55,48,55,49,55,50,55,51,55,52,55,53,55,54,55,55,55,56,55,57,56,48,56,49,56,50,56,51,56,52,56,53,56,54,56,55,56,56,56,57,57,48,57,49,57,50,57,51,57,52,57,53,57,54,57,55,57,56,57,57]⟩)) (LT 152)),LM 154 16,LO 155 (.sidx (.const (.string ⟨#[48,48,48,49,48,50,48,51,48,52,48,53,48,54,48,55,48,56,48,57,49,48,49,49,49,50,49,51,49,52,49,53,49,54,49,55,49,56,49,57,50,48,50,49,50,50,50,51,50,52,50,53,50,54,50,55,50,56,50,57,51,48,51,49,51,50,51,51,51,52,51,53,51,54,51,55,51,56,51,57,52,48,52,49,52,50,52,51,52,52,52,53,52,54,52,55,52,56,52,57,53,48,53,49,53,50,53,51,53,52,53,53,53,54,53,55,53,56,53,57,54,48,54,49,54,50,54,51,54,52,54,53,54,54,54,55,54,56,54,57,55,48,55,49,55,50,55,51,55,52,55,53,55,54,55,55,55,56,55,57,56,48,56,49,56,50,56,51,56,52,56,53,56,54,56,55,56,56,56,57,57,48,57,49,57,50,57,51,57,52,57,53,57,54,57,55,57,56,57,57]⟩)) (LT 154)),LO 156 (.iaddr 1 (LT 145) (LT 147)),LN (.store 1 (LT 156) (LT 153)),LO 157 (.iaddr 1 (LT 148) (LT 150)),LN (.store 1 (LT 157) (LT 155))] (.dU [LM 158 4,LO 159 (.bin .sub (LT 158) (LI 2)),LM 4 159])))) .skip)) (LS [LM 160 4,LO 161 (.bin .gtr (LT 160) (LI 0))] (.cond (LT 161) (.dU [LM 162 0,LM 163 12,LO 164 (.bin .add (.const (.int .u32 48)) (LT 163)),LO 165 (.cvt .u8 (LT 164)),LO 166 (.iaddr 1 (LT 162) (LI 0)),LN (.store 1 (LT 166) (LT 165))]) .skip)))))))
def internal_strconv_formatBase10:aT:=⟨167,[],qQ⟩
end Go.PM
namespace Go.PM
end Go.PM
namespace Go.PM
def Cu:aF:=(LS [LO 2 (.mv (.const (.string ⟨#[]⟩))),LO 3 (.mv LF)] (LS [LM 4 0,LO 5 (.call 47 [(LT 4),(LI 1)]),LO 6 (LX 5 0),LO 7 (LX 5 1),LM 2 6,LM 3 7] .ret))
def Gt:aT:=⟨8,[(.tmp 2),(.tmp 3)],Cu⟩
theorem JF:gZ 44=some Gt:=by kernel_rfl
def oG:aF:=(LS [LO 4 (.mv (.const (.string ⟨#[]⟩))),LO 5 (.mv LF)] (LS [LM 9 0,LO 10 (.call 114 [(LT 9)]),LM 8 10,LO 11 (LX 8 0),LO 12 (LX 8 1),LM 6 11,LM 7 12] (.seq (LS [LM 13 7,LO 14 (.un .not (LT 13)),LM 15 14,LZ 15 16 (.mv (LT 1)),LZ 15 17 (.call 95 [(LT 16),(LI 0),(LI 10)]),LZ 15 18 (.un .not (LT 17)),LO 19 (.pick (LT 15) LG (LT 18))] (.cond (LT 19) (LS [LO 4 (.mv (.const (.string ⟨#[]⟩))),LO 5 (.mv LF)] .ret) .skip)) (LS [LM 20 6,LM 21 1,LO 22 (.call 120 [(LT 20),(LT 21)]),LO 23 (.call 90 [(LT 22)]),LO 24 (LX 23 0),LO 25 (LX 23 1),LM 4 24,LM 5 25] .ret))))
def rW:aT:=⟨26,[(.tmp 4),(.tmp 5)],oG⟩
theorem Hj:gZ 47=some rW:=by kernel_rfl
def Es:aF:=(LS [LO 2 (.new [(.bool false),(.slice none 0 0),(.slice none 0 0)])] (LS [LM 3 0,LO 4 (.bin .lss (LT 3) (LI 0)),LM 5 0,LO 6 (.call 107 [(LT 5)]),LO 7 (.call 101 [(LT 6)]),LO 8 (.call 101 [(.const (.int .u64 1))]),LO 9 (.build [(.bool false),(.slice none 0 0),(.slice none 0 0)] [(0,1),(1,1),(2,1)] [(0,(LT 4)),(1,(LT 7)),(2,(LT 8))]),LN (.store 3 (LT 2) (LT 9))] .ret))
def Ix:aT:=⟨10,[(.cell 2 true 3)],Es⟩
theorem MB:gZ 97=some Ix:=by kernel_rfl
def mZ:aF:=(LS [LO 2 (.box (LT 0)),LO 3 (.box (LT 1)),LO 4 (.mv (LI 0))] (.seq (LS [LO 6 (LK 2),LQ 7 (.call 104 [(LT 6)]),LO 8 (LK 3),LQ 9 (.call 104 [(LT 8)]),LO 10 (.bin .neq (LT 7) (LT 9))] (.cond (LT 10) (LS [LO 11 (LK 2),LQ 12 (.call 104 [(LT 11)]),LO 13 (LK 3),LQ 14 (.call 104 [(LT 13)]),LO 15 (.bin .sub (LT 12) (LT 14)),LM 4 15] .ret) .skip)) (LS [LO 16 (LA 1 2),LO 17 (LL 16),LO 18 (LA 2 3),LO 19 (LL 18),LQ 20 (.call 180 [(LT 17),(LT 19)]),LO 21 (LA 1 3),LO 22 (LL 21),LO 23 (LA 2 2),LO 24 (LL 23),LQ 25 (.call 180 [(LT 22),(LT 24)]),LQ 26 (.call 170 [(LT 20),(LT 25)]),LM 5 26] (.seq (LS [LO 27 (LA 0 2),LO 28 (LL 27)] (.cond (LT 28) (LS [LM 29 5,LO 30 (.un .neg (LT 29)),LM 4 30] .ret) .skip)) (LS [LM 31 5,LM 4 31] .ret)))))
def qG:aT:=⟨32,[(.tmp 4)],mZ⟩
theorem FB:gZ 206=some qG:=by kernel_rfl
def dK:aF:=(LS [LO 2 (.box (LT 0)),LO 3 (.box (LT 1)),LO 4 (.new [(.bool false),(.slice none 0 0),(.slice none 0 0)])] (.seq (LS [LO 8 (LK 2),LO 9 (.call 104 [(LT 8)]),LO 10 (.bin .eql (LT 9) (LI 0))] (.cond (LT 10) (LS [LO 11 (LK 3),LN (.store 3 (LT 4) (LT 11))] .ret) .skip)) (.seq (LS [LO 12 (LK 3),LO 13 (.call 104 [(LT 12)]),LO 14 (.bin .eql (LT 13) (LI 0))] (.cond (LT 14) (LS [LO 15 (LK 2),LN (.store 3 (LT 4) (LT 15))] .ret) .skip)) (LS [LO 16 (LA 1 2),LO 17 (LL 16),LO 18 (LA 1 3),LO 19 (LL 18),LO 20 (LA 2 2),LO 21 (LL 20),LM 5 17,LM 6 19,LM 7 21] (.seq (LS [LO 22 (LA 2 2),LO 23 (LL 22),LO 24 (LA 2 3),LO 25 (LL 24),LO 26 (.call 170 [(LT 23),(LT 25)]),LO 27 (.bin .neq (LT 26) (LI 0))] (.cond (LT 27) (.dU [LO 28 (LA 1 2),LO 29 (LL 28),LO 30 (LA 2 3),LO 31 (LL 30),LQ 32 (.call 180 [(LT 29),(LT 31)]),LO 33 (LA 1 3),LO 34 (LL 33),LO 35 (LA 2 2),LO 36 (LL 35),LQ 37 (.call 180 [(LT 34),(LT 36)]),LO 38 (LA 2 2),LO 39 (LL 38),LO 40 (LA 2 3),LO 41 (LL 40),LQ 42 (.call 180 [(LT 39),(LT 41)]),LM 5 32,LM 6 37,LM 7 42]) .skip)) (.seq (.block 0 (LS [LO 44 (LA 0 2),LO 45 (LL 44),LO 46 (LA 0 3),LO 47 (LL 46),LO 48 (.eqb false (LT 45) (LT 47)),LM 43 48] (.cond (LT 43) (LS [LO 49 (LA 0 2),LO 50 (LL 49),LM 51 5,LM 52 6,LQ 53 (.call 174 [(LT 51),(LT 52)]),LM 54 7,LQ 55 (.call 100 [(LT 50),(LT 53),(LT 54)]),LN (.store 3 (LT 4) (LT 55))] .ret) (LS [LM 57 5,LM 58 6,LO 59 (.call 170 [(LT 57),(LT 58)]),LO 60 (.bin .geq (LT 59) (LI 0)),LM 56 60] (.cond (LT 56) (LS [LO 61 (LA 0 2),LO 62 (LL 61),LM 63 5,LM 64 6,LQ 65 (.call 181 [(LT 63),(LT 64)]),LM 66 7,LQ 67 (.call 100 [(LT 62),(LT 65),(LT 66)]),LN (.store 3 (LT 4) (LT 67))] .ret) .skip))))) (LS [LO 68 (LA 0 3),LO 69 (LL 68),LM 70 6,LM 71 5,LQ 72 (.call 181 [(LT 70),(LT 71)]),LM 73 7,LQ 74 (.call 100 [(LT 69),(LT 72),(LT 73)]),LN (.store 3 (LT 4) (LT 74))] .ret)))))))
def fH:aT:=⟨75,[(.cell 4 true 3)],dK⟩
theorem Fv:gZ 99=some fH:=by kernel_rfl
def nB:aF:=(LS [LO 2 (.box (LT 0)),LO 3 (.box (LT 1)),LO 4 (.new [(.bool false),(.slice none 0 0),(.slice none 0 0)])] (.seq (LS [LO 7 (LK 2),LO 8 (.call 104 [(LT 7)]),LO 9 (.bin .eql (LT 8) (LI 0)),LM 10 9,LZ 10 11 (LK 3),LZ 10 12 (.call 104 [(LT 11)]),LZ 10 13 (.bin .eql (LT 12) (LI 0)),LO 14 (.pick (LT 10) LG (LT 13))] (.cond (LT 14) (LS [LO 15 (.call 97 [(LI 0)]),LN (.store 3 (LT 4) (LT 15))] .ret) .skip)) (LS [LO 16 (LA 1 2),LO 17 (LL 16),LO 18 (LA 2 3),LO 19 (LL 18),LQ 20 (.call 100 [LF,(LT 17),(LT 19)]),LO 21 (LA 1 3),LO 22 (LL 21),LO 23 (LA 2 2),LO 24 (LL 23),LQ 25 (.call 100 [LF,(LT 22),(LT 24)]),LQ 5 (.new [(.bool false),(.slice none 0 0),(.slice none 0 0)]),LQ 6 (.new [(.bool false),(.slice none 0 0),(.slice none 0 0)]),LN (.store 3 (LT 5) (LT 20)),LN (.store 3 (LT 6) (LT 25))] (LS [LO 26 (LA 0 2),LO 27 (LL 26),LO 28 (LA 0 3),LO 29 (LL 28),LO 30 (.eqb true (LT 27) (LT 29)),LO 31 (LA 1 5),LO 32 (LL 31),LO 33 (LA 1 6),LO 34 (LL 33),LQ 35 (.call 180 [(LT 32),(LT 34)]),LO 36 (LA 2 5),LO 37 (LL 36),LO 38 (LA 2 6),LO 39 (LL 38),LQ 40 (.call 180 [(LT 37),(LT 39)]),LO 41 (.build [(.bool false),(.slice none 0 0),(.slice none 0 0)] [(0,1),(1,1),(2,1)] [(0,(LT 30)),(1,(LT 35)),(2,(LT 40))]),LN (.store 3 (LT 4) (LT 41))] .ret))))
def qE:aT:=⟨42,[(.cell 4 true 3)],nB⟩
theorem E7:gZ 96=some qE:=by kernel_rfl
def lW:aF:=(LS [LO 1 (.box (LT 0)),LO 2 (.mv (LI 0))] (.seq (.block 0 (LS [LO 4 (LA 1 1),LO 5 (LL 4),LO 6 (.len (LT 5)),LO 7 (.bin .eql (LT 6) (LI 0)),LM 3 7] (.cond (LT 3) (LS [LO 2 (.mv (LI 0))] .ret) (LS [LO 9 (LA 0 1),LO 10 (LL 9),LM 8 10] (.cond (LT 8) (LS [LO 2 (.mv (LI (-1)))] .ret) .skip))))) (LS [LO 2 (.mv (LI 1))] .ret)))
def oD:aT:=⟨11,[(.tmp 2)],lW⟩
theorem D0:gZ 104=some oD:=by kernel_rfl
def jW:aF:=(LS [LO 2 (.mv (.const (.slice none 0 0))),LO 3 (.mv LF)] (LS [LM 7 0,LO 8 (.call 145 [(LT 7)]),LM 6 8,LO 9 (LX 6 0),LO 10 (LX 6 1),LM 4 9,LM 5 10] (.seq (LS [LM 11 5,LO 12 (.un .not (LT 11)),LM 13 12,LZ 13 14 (.mv (LT 4)),LZ 13 15 (.call 146 [(LT 14),(.func 147)]),LO 16 (.pick (LT 13) LG (LT 15)),LM 17 16,LZ 17 18 (.mv (LT 4)),LZ 17 19 (.call 148 [(LT 18)]),LZ 17 20 (.call 196 [(LT 19)]),LZ 17 21 (.un .not (LT 20)),LO 22 (.pick (LT 17) LG (LT 21))] (.cond (LT 22) (LS [LO 2 (.mv (.const (.slice none 0 0))),LO 3 (.mv LF)] .ret) .skip)) (LS [LM 23 4,LM 2 23,LO 3 (.mv LG)] .ret))))
def mU:aT:=⟨24,[(.tmp 2),(.tmp 3)],jW⟩
theorem Fh:gZ 114=some mU:=by kernel_rfl
def KJ:aF:=(LS [LO 6 (.mv LF)] (LS [LM 7 0,LM 8 1,LO 9 (.bin .geq (LT 7) (LT 8)),LM 10 9,LY 10 11 (.mv (LT 0)),LY 10 12 (.mv (LT 2)),LY 10 13 (.bin .leq (LT 11) (LT 12)),LO 14 (.pick (LT 10) (LT 13) LF),LM 6 14] .ret))
def Rz:aT:=⟨15,[(.tmp 6)],KJ⟩
theorem TU:gZ 95=some Rz:=by kernel_rfl
def Bh:aF:=(LS [LO 1 (.box (LT 0)),LO 2 (.mv (.const (.string ⟨#[]⟩))),LO 3 (.mv LF)] (LS [LO 7 (LK 1),LO 8 (.call 172 [(LT 7)]),LM 6 8,LO 9 (LX 6 0),LO 10 (LX 6 1),LM 4 9,LM 5 10] (.seq (LS [LM 11 5,LO 12 (.un .not (LT 11))] (.cond (LT 12) (LS [LO 2 (.mv (.const (.string ⟨#[]⟩))),LO 3 (.mv LF)] .ret) .skip)) (LS [LM 13 4,LM 2 13,LO 3 (.mv LG)] .ret))))
def FF:aT:=⟨14,[(.tmp 2),(.tmp 3)],Bh⟩
theorem OY:gZ 90=some FF:=by kernel_rfl
def uY:aF:=(LS [LO 12 (.bin .lss (LT 11) (LT 10))] (.seq (.cond (LT 12) .skip (.exit 0)) (.seq (.block 1 (LS [LM 13 11,LO 14 (.iaddr 3 (LT 9) (LT 11)),LO 15 (LK 14),LO 7 (.new [(.bool false),(.slice none 0 0),(.slice none 0 0)]),LM 6 13,LN (.store 3 (LT 7) (LT 15))] (.dU [LO 16 (LK 5),LO 17 (LK 7),LM 18 6,LQ 19 (.call 97 [(LT 18)]),LM 20 1,LQ 21 (.call 98 [(LT 19),(LT 20)]),LQ 22 (.call 96 [(LT 17),(LT 21)]),LQ 23 (.call 99 [(LT 16),(LT 22)]),LN (.store 3 (LT 5) (LT 23))]))) (.dU [LO 24 (.bin .add (LT 11) (LI 1)),LM 11 24]))))
def CH:aF:=(LS [LO 4 (.new [(.bool false),(.slice none 0 0),(.slice none 0 0)])] (LS [LO 8 (.call 97 [(LI 0)]),LO 5 (.new [(.bool false),(.slice none 0 0),(.slice none 0 0)]),LN (.store 3 (LT 5) (LT 8))] (.seq (LS [LM 9 0,LO 10 (.len (LT 9)),LO 11 (.mv (LI 0))] (.block 0 (.loop uY))) (LS [LO 25 (LK 5),LN (.store 3 (LT 4) (LT 25))] .ret))))
def Ga:aT:=⟨26,[(.cell 4 true 3)],CH⟩
theorem J1:gZ 120=some Ga:=by kernel_rfl
def tI:aF:=(LS [LO 16 (.bin .lss (LT 15) (LT 14))] (.seq (.cond (LT 16) .skip (.exit 0)) (.seq (.block 1 (LS [LO 17 (.iaddr 1 (LT 13) (LT 15)),LO 18 (LL 17),LM 6 18] (LS [LM 20 6,LO 21 (.call 89 [(LT 20)]),LM 19 21,LO 22 (LX 19 0),LO 23 (LX 19 1),LO 7 (.new [(.bool false),(.slice none 0 0),(.slice none 0 0)]),LN (.store 3 (LT 7) (LT 22)),LM 8 23] (.seq (LS [LM 24 8,LO 25 (.un .not (LT 24))] (.cond (LT 25) (LS [LO 2 (.mv (.const (.slice none 0 0))),LO 3 (.mv LF)] .ret) .skip)) (.dU [LM 26 4,LO 27 (LK 7),LO 28 (.lit [(.bool false),(.slice none 0 0),(.slice none 0 0)] 1 [(0,(LT 27))]),LO 29 (.app 3 56 (LT 26) (LT 28)),LM 4 29]))))) (.dU [LO 30 (.bin .add (LT 15) (LI 1)),LM 15 30]))))
def Bp:aF:=(LS [LO 2 (.mv (.const (.slice none 0 0))),LO 3 (.mv LF)] (.seq (LS [LM 9 0,LO 10 (.len (LT 9)),LO 11 (.bin .gtr (LT 10) (LI 300))] (.cond (LT 11) (LS [LO 2 (.mv (.const (.slice none 0 0))),LO 3 (.mv LF)] .ret) .skip)) (LS [LO 12 (.lit [(.bool false),(.slice none 0 0),(.slice none 0 0)] 0 []),LM 4 12] (.seq (LS [LM 13 0,LO 14 (.len (LT 13)),LO 15 (.mv (LI 0))] (.block 0 (.loop tI))) (LS [LM 31 4,LM 2 31,LO 3 (.mv LG)] .ret)))))
def Fy:aT:=⟨32,[(.tmp 2),(.tmp 3)],Bp⟩
theorem Ox:gZ 145=some Fy:=by kernel_rfl
def vI:aF:=(LS [LO 1 (.box (LT 0)),LO 2 (.mv LF)] (LS [LO 3 (LK 1),LO 4 (.call 104 [(LT 3)]),LO 5 (.bin .lss (LT 4) (LI 0)),LM 2 5] .ret))
def zJ:aT:=⟨6,[(.tmp 2)],vI⟩
theorem HH:gZ 147=some zJ:=by kernel_rfl
def BF:aF:=(LS [LO 10 (.bin .lss (LT 9) (LT 8))] (.seq (.cond (LT 10) .skip (.exit 0)) (.seq (.block 1 (LS [LO 11 (.iaddr 3 (LT 7) (LT 9)),LO 12 (LK 11),LO 5 (.new [(.bool false),(.slice none 0 0),(.slice none 0 0)]),LN (.store 3 (LT 5) (LT 12))] (.dU [LO 13 (LK 3),LO 14 (LK 5),LO 15 (.call 99 [(LT 13),(LT 14)]),LN (.store 3 (LT 3) (LT 15))]))) (.dU [LO 16 (.bin .add (LT 9) (LI 1)),LM 9 16]))))
def Ig:aF:=(LS [LO 2 (.new [(.bool false),(.slice none 0 0),(.slice none 0 0)])] (LS [LO 6 (.call 97 [(LI 0)]),LO 3 (.new [(.bool false),(.slice none 0 0),(.slice none 0 0)]),LN (.store 3 (LT 3) (LT 6))] (.seq (LS [LM 7 0,LO 8 (.len (LT 7)),LO 9 (.mv (LI 0))] (.block 0 (.loop BF))) (LS [LO 17 (LK 3),LN (.store 3 (LT 2) (LT 17))] .ret))))
def N8:aT:=⟨18,[(.cell 2 true 3)],Ig⟩
theorem QW:gZ 148=some N8:=by kernel_rfl
def nS:aF:=(LS [LO 6 (.new [(.bool false),(.slice none 0 0),(.slice none 0 0)])] (.seq (LS [LM 8 1,LO 9 (.len (LT 8)),LO 10 (.bin .eql (LT 9) (LI 0))] (.cond (LT 10) (LS [LO 11 (.call 101 [(.const (.int .u64 1))]),LO 12 (.build [(.bool false),(.slice none 0 0),(.slice none 0 0)] [(0,1),(1,1),(2,1)] [(2,(LT 11))]),LN (.store 3 (LT 6) (LT 12))] .ret) .skip)) (LS [LM 13 1,LM 14 2,LO 15 (.call 171 [(LT 13),(LT 14)]),LM 7 15] (.seq (LS [LM 16 7,LO 17 (.len (LT 16)),LO 18 (.bin .eql (LT 17) (LI 1)),LM 19 18,LY 19 20 (.mv (LT 7)),LY 19 21 (.iaddr 1 (LT 20) (LI 0)),LY 19 22 (LL 21),LY 19 23 (.bin .eql (LT 22) (.const (.int .u32 1))),LO 24 (.pick (LT 19) (LT 23) LF)] (.cond (LT 24) (LS [LM 25 0,LM 26 1,LM 27 2,LO 28 (.build [(.bool false),(.slice none 0 0),(.slice none 0 0)] [(0,1),(1,1),(2,1)] [(0,(LT 25)),(1,(LT 26)),(2,(LT 27))]),LN (.store 3 (LT 6) (LT 28))] .ret) .skip)) (LS [LM 30 1,LM 31 7,LO 32 (.call 173 [(LT 30),(LT 31)]),LM 29 32,LO 33 (LX 29 0),LO 34 (LX 29 1),LM 1 33] (LS [LM 36 2,LM 37 7,LO 38 (.call 173 [(LT 36),(LT 37)]),LM 35 38,LO 39 (LX 35 0),LO 40 (LX 35 1),LM 2 39] (LS [LM 41 0,LM 42 1,LM 43 2,LO 44 (.build [(.bool false),(.slice none 0 0),(.slice none 0 0)] [(0,1),(1,1),(2,1)] [(0,(LT 41)),(1,(LT 42)),(2,(LT 43))]),LN (.store 3 (LT 6) (LT 44))] .ret)))))))
def sK:aT:=⟨45,[(.cell 6 true 3)],nS⟩
theorem J3:gZ 100=some sK:=by kernel_rfl
def DI:aF:=(LS [LO 2 (.mv (.const (.slice none 0 0)))] (LS [LM 3 0,LO 4 (.cvt .u32 (LT 3)),LM 5 0,LO 6 (.bin .shr (LT 5) (.const (.int .u64 32))),LO 7 (.cvt .u32 (LT 6)),LO 8 (.lit [(.int .u32 0)] 2 [(0,(LT 4)),(1,(LT 7))]),LO 9 (.call 182 [(LT 8)]),LM 2 9] .ret))
def HR:aT:=⟨10,[(.tmp 2)],DI⟩
theorem Mv:gZ 101=some HR:=by kernel_rfl
def rJ:aF:=(LS [LO 2 (.mv (.const (.int .u64 0)))] (.seq (LS [LM 3 0,LO 4 (.bin .lss (LT 3) (LI 0))] (.cond (LT 4) (LS [LM 5 0,LO 6 (.cvt .u64 (LT 5)),LO 7 (.un .neg (LT 6)),LM 2 7] .ret) .skip)) (LS [LM 8 0,LO 9 (.cvt .u64 (LT 8)),LM 2 9] .ret)))
def uT:aT:=⟨10,[(.tmp 2)],rJ⟩
theorem Ff:gZ 107=some uT:=by kernel_rfl
def qA:aF:=(LS [LO 27 (.bin .lss (LT 26) (LT 25))] (.seq (.cond (LT 27) .skip (.exit 2)) (.seq (.block 3 (LS [LM 28 26,LO 29 (.iaddr 1 (LT 24) (LT 26)),LO 30 (LL 29),LM 9 28,LM 10 30] (LS [LM 31 8,LM 32 7,LO 33 (.cvt .u64 (LT 32)),LM 34 10,LO 35 (.cvt .u64 (LT 34)),LO 36 (.bin .mul (LT 33) (LT 35)),LM 37 5,LM 38 6,LM 39 9,LO 40 (.bin .add (LT 38) (LT 39)),LO 41 (.iaddr 1 (LT 37) (LT 40)),LO 42 (LL 41),LO 43 (.cvt .u64 (LT 42)),LO 44 (.bin .add (LT 36) (LT 43)),LO 45 (.bin .add (LT 31) (LT 44)),LM 8 45] (LS [LM 46 5,LM 47 6,LM 48 9,LO 49 (.bin .add (LT 47) (LT 48)),LM 50 8,LO 51 (.cvt .u32 (LT 50)),LO 52 (.iaddr 1 (LT 46) (LT 49)),LN (.store 1 (LT 52) (LT 51))] (.dU [LM 53 8,LO 54 (.bin .shr (LT 53) (.const (.int .u64 32))),LM 8 54]))))) (.dU [LO 55 (.bin .add (LT 26) (LI 1)),LM 26 55]))))
def pR:aF:=(LS [LO 20 (.bin .lss (LT 19) (LT 18))] (.seq (.cond (LT 20) .skip (.exit 0)) (.seq (.block 1 (LS [LM 21 19,LO 22 (.iaddr 1 (LT 17) (LT 19)),LO 23 (LL 22),LM 6 21,LM 7 23] (LS [LO 8 (.mv (.const (.int .u64 0)))] (.seq (LS [LM 24 1,LO 25 (.len (LT 24)),LO 26 (.mv (LI 0))] (.block 2 (.loop qA))) (.dU [LM 56 5,LM 57 6,LM 58 1,LO 59 (.len (LT 58)),LO 60 (.bin .add (LT 57) (LT 59)),LM 61 8,LO 62 (.cvt .u32 (LT 61)),LO 63 (.iaddr 1 (LT 56) (LT 60)),LN (.store 1 (LT 63) (LT 62))]))))) (.dU [LO 64 (.bin .add (LT 19) (LI 1)),LM 19 64]))))
def xV:aF:=(LS [LO 4 (.mv (.const (.slice none 0 0)))] (LS [LM 11 0,LO 12 (.len (LT 11)),LM 13 1,LO 14 (.len (LT 13)),LO 15 (.bin .add (LT 12) (LT 14)),LO 16 (.make [(.int .u32 0)] 4 (LT 15) (LT 15)),LM 5 16] (.seq (LS [LM 17 0,LO 18 (.len (LT 17)),LO 19 (.mv (LI 0))] (.block 0 (.loop pR))) (LS [LM 65 5,LO 66 (.call 182 [(LT 65)]),LM 4 66] .ret))))
def A8:aT:=⟨67,[(.tmp 4)],xV⟩
theorem Fi:gZ 180=some A8:=by kernel_rfl
def jF:aF:=(.seq (LS [LM 19 5,LO 20 (.bin .geq (LT 19) (LI 0))] (.cond (LT 20) .skip (.exit 0))) (.seq (.block 1 (LS [LM 23 0,LM 24 5,LO 25 (.iaddr 1 (LT 23) (LT 24)),LO 26 (LL 25),LM 27 1,LM 28 5,LO 29 (.iaddr 1 (LT 27) (LT 28)),LO 30 (LL 29),LO 31 (.bin .neq (LT 26) (LT 30))] (.cond (LT 31) (.seq (LS [LM 32 0,LM 33 5,LO 34 (.iaddr 1 (LT 32) (LT 33)),LO 35 (LL 34),LM 36 1,LM 37 5,LO 38 (.iaddr 1 (LT 36) (LT 37)),LO 39 (LL 38),LO 40 (.bin .lss (LT 35) (LT 39))] (.cond (LT 40) (LS [LO 4 (.mv (LI (-1)))] .ret) .skip)) (LS [LO 4 (.mv (LI 1))] .ret)) .skip))) (.dU [LM 21 5,LO 22 (.bin .sub (LT 21) (LI 1)),LM 5 22])))
def nE:aF:=(LS [LO 4 (.mv (LI 0))] (.seq (LS [LM 6 0,LO 7 (.len (LT 6)),LM 8 1,LO 9 (.len (LT 8)),LO 10 (.bin .neq (LT 7) (LT 9))] (.cond (LT 10) (.seq (LS [LM 11 0,LO 12 (.len (LT 11)),LM 13 1,LO 14 (.len (LT 13)),LO 15 (.bin .lss (LT 12) (LT 14))] (.cond (LT 15) (LS [LO 4 (.mv (LI (-1)))] .ret) .skip)) (LS [LO 4 (.mv (LI 1))] .ret)) .skip)) (.seq (LS [LM 16 0,LO 17 (.len (LT 16)),LO 18 (.bin .sub (LT 17) (LI 1)),LM 5 18] (.block 0 (.loop jF))) (LS [LO 4 (.mv (LI 0))] .ret))))
def qM:aT:=⟨41,[(.tmp 4)],nE⟩
theorem EV:gZ 170=some qM:=by kernel_rfl
def jG:aF:=(LS [LO 22 (.bin .lss (LT 21) (LT 20))] (.seq (.cond (LT 22) .skip (.exit 0)) (.seq (.block 1 (LS [LM 23 21,LM 7 23] (LS [LM 24 6,LM 25 0,LM 26 7,LO 27 (.iaddr 1 (LT 25) (LT 26)),LO 28 (LL 27),LO 29 (.cvt .u64 (LT 28)),LO 30 (.bin .add (LT 24) (LT 29)),LM 6 30] (.seq (LS [LM 31 7,LM 32 1,LO 33 (.len (LT 32)),LO 34 (.bin .lss (LT 31) (LT 33))] (.cond (LT 34) (.dU [LM 35 6,LM 36 1,LM 37 7,LO 38 (.iaddr 1 (LT 36) (LT 37)),LO 39 (LL 38),LO 40 (.cvt .u64 (LT 39)),LO 41 (.bin .add (LT 35) (LT 40)),LM 6 41]) .skip)) (LS [LM 42 5,LM 43 7,LM 44 6,LO 45 (.cvt .u32 (LT 44)),LO 46 (.iaddr 1 (LT 42) (LT 43)),LN (.store 1 (LT 46) (LT 45))] (.dU [LM 47 6,LO 48 (.bin .shr (LT 47) (.const (.int .u64 32))),LM 6 48])))))) (.dU [LO 49 (.bin .add (LT 21) (LI 1)),LM 21 49]))))
def rI:aF:=(LS [LO 4 (.mv (.const (.slice none 0 0)))] (.seq (LS [LM 8 0,LO 9 (.len (LT 8)),LM 10 1,LO 11 (.len (LT 10)),LO 12 (.bin .lss (LT 9) (LT 11))] (.cond (LT 12) (.dU [LM 13 1,LM 14 0,LM 0 13,LM 1 14]) .skip)) (LS [LM 15 0,LO 16 (.len (LT 15)),LO 17 (.bin .add (LT 16) (LI 1)),LO 18 (.make [(.int .u32 0)] 4 (LT 17) (LT 17)),LM 5 18,LO 6 (.mv (.const (.int .u64 0)))] (.seq (LS [LM 19 0,LO 20 (.len (LT 19)),LO 21 (.mv (LI 0))] (.block 0 (.loop jG))) (LS [LM 50 5,LM 51 0,LO 52 (.len (LT 51)),LM 53 6,LO 54 (.cvt .u32 (LT 53)),LO 55 (.iaddr 1 (LT 50) (LT 52)),LN (.store 1 (LT 55) (LT 54))] (LS [LM 56 5,LO 57 (.call 182 [(LT 56)]),LM 4 57] .ret))))))
def vK:aT:=⟨58,[(.tmp 4)],rI⟩
theorem FN:gZ 174=some vK:=by kernel_rfl
def gO:aF:=(LS [LO 15 (.bin .lss (LT 14) (LT 13))] (.seq (.cond (LT 15) .skip (.exit 0)) (.seq (.block 1 (LS [LM 16 14,LM 7 16] (LS [LM 17 0,LM 18 7,LO 19 (.iaddr 1 (LT 17) (LT 18)),LO 20 (LL 19),LO 21 (.cvt .i64 (LT 20)),LM 22 6,LO 23 (.bin .sub (LT 21) (LT 22)),LM 8 23] (.seq (LS [LM 24 7,LM 25 1,LO 26 (.len (LT 25)),LO 27 (.bin .lss (LT 24) (LT 26))] (.cond (LT 27) (.dU [LM 28 8,LM 29 1,LM 30 7,LO 31 (.iaddr 1 (LT 29) (LT 30)),LO 32 (LL 31),LO 33 (.cvt .i64 (LT 32)),LO 34 (.bin .sub (LT 28) (LT 33)),LM 8 34]) .skip)) (LS [LO 6 (.mv (LI 0))] (.seq (LS [LM 35 8,LO 36 (.bin .lss (LT 35) (LI 0))] (.cond (LT 36) (.dU [LO 6 (.mv (LI 1))]) .skip)) (.dU [LM 37 5,LM 38 7,LM 39 8,LO 40 (.cvt .u32 (LT 39)),LO 41 (.iaddr 1 (LT 37) (LT 38)),LN (.store 1 (LT 41) (LT 40))]))))))) (.dU [LO 42 (.bin .add (LT 14) (LI 1)),LM 14 42]))))
def yS:aF:=(LS [LO 4 (.mv (.const (.slice none 0 0)))] (LS [LM 9 0,LO 10 (.len (LT 9)),LO 11 (.make [(.int .u32 0)] 4 (LT 10) (LT 10)),LM 5 11,LO 6 (.mv (LI 0))] (.seq (LS [LM 12 0,LO 13 (.len (LT 12)),LO 14 (.mv (LI 0))] (.block 0 (.loop gO))) (LS [LM 43 5,LO 44 (.call 182 [(LT 43)]),LM 4 44] .ret))))
def Bw:aT:=⟨45,[(.tmp 4)],yS⟩
theorem FL:gZ 181=some Bw:=by kernel_rfl
def qK:aF:=(LS [LO 1 (.box (LT 0)),LO 2 (.mv (.const (.string ⟨#[]⟩))),LO 3 (.mv LF)] (LS [LO 7 (LA 1 1),LO 8 (LL 7),LQ 9 (.call 102 [(LT 8)]),LO 10 (LA 2 1),LO 11 (LL 10),LQ 12 (.call 102 [(LT 11)]),LM 4 9,LM 5 12] (LS [LM 13 4,LM 6 13] (.seq (LS [LO 14 (LA 0 1),LO 15 (LL 14)] (.cond (LT 15) (.dU [LM 16 6,LO 17 (.bin .add (.const (.string ⟨#[45]⟩)) (LT 16)),LM 6 17]) .skip)) (.seq (LS [LM 18 5,LO 19 (.bin .neq (LT 18) (.const (.string ⟨#[49]⟩)))] (.cond (LT 19) (.dU [LM 20 6,LM 21 5,LO 22 (.bin .add (.const (.string ⟨#[47]⟩)) (LT 21)),LO 23 (.bin .add (LT 20) (LT 22)),LM 6 23]) .skip)) (LS [LM 24 6,LM 25 4,LO 26 (.slen (LT 25)),LO 27 (.bin .leq (LT 26) (LI 200)),LM 28 27,LY 28 29 (.mv (LT 5)),LY 28 30 (.slen (LT 29)),LY 28 31 (.bin .leq (LT 30) (LI 200)),LO 32 (.pick (LT 28) (LT 31) LF),LM 2 24,LM 3 32] .ret))))))
def sS:aT:=⟨33,[(.tmp 2),(.tmp 3)],qK⟩
theorem EA:gZ 172=some sS:=by kernel_rfl
def oQ:aF:=(LS [LO 1 (.box (LT 0)),LO 2 (.mv LF)] (LS [LO 3 (LK 1),LQ 4 (.call 97 [(LI 1)]),LQ 5 (.call 206 [(LT 3),(LT 4)]),LO 6 (.bin .eql (LT 5) (LI 0)),LM 2 6] .ret))
def qZ:aT:=⟨7,[(.tmp 2)],oQ⟩
theorem C8:gZ 196=some qZ:=by kernel_rfl
def nP:aF:=(LS [LO 9 (.bin .lss (LT 8) (LT 7))] (.seq (.cond (LT 9) .skip (.exit 0)) (.seq (.block 1 (.dU [LO 10 (LK 5),LO 11 (LK 2),LO 12 (.call 96 [(LT 10),(LT 11)]),LN (.store 3 (LT 5) (LT 12))])) (.dU [LO 13 (.bin .add (LT 8) (LI 1)),LM 8 13]))))
def uU:aF:=(LS [LO 2 (.box (LT 0)),LO 4 (.new [(.bool false),(.slice none 0 0),(.slice none 0 0)])] (LS [LO 6 (.call 97 [(LI 1)]),LO 5 (.new [(.bool false),(.slice none 0 0),(.slice none 0 0)]),LN (.store 3 (LT 5) (LT 6))] (.seq (LS [LM 7 1,LO 8 (.mv (LI 0))] (.block 0 (.loop nP))) (LS [LO 14 (LK 5),LN (.store 3 (LT 4) (LT 14))] .ret))))
def yI:aT:=⟨15,[(.cell 4 true 3)],uU⟩
theorem Dk:gZ 98=some yI:=by kernel_rfl
def cM:aF:=(LS [LO 2 (.new [(.bool false),(.slice none 0 0),(.slice none 0 0)]),LO 3 (.mv LF)] (LS [LM 16 0,LO 17 (.call 167 [(LT 16),(.const (.string ⟨#[47]⟩))]),LM 15 17,LO 18 (LX 15 0),LO 19 (LX 15 1),LO 20 (LX 15 2),LM 4 18,LM 5 19,LM 6 20] (LS [LM 22 4,LO 23 (.call 168 [(LT 22),(.const (.string ⟨#[45]⟩))]),LM 21 23,LO 24 (LX 21 0),LO 25 (LX 21 1),LM 7 24,LM 8 25] (LS [LM 27 7,LO 28 (.call 169 [(LT 27)]),LM 26 28,LO 29 (LX 26 0),LO 30 (LX 26 1),LM 9 29,LM 10 30] (.seq (LS [LM 31 10,LO 32 (.un .not (LT 31)),LM 33 32,LZ 33 34 (.mv (LT 8)),LZ 33 35 (.mv (LT 34)),LY 35 36 (.mv (LT 9)),LY 35 37 (.len (LT 36)),LY 35 38 (.bin .eql (LT 37) (LI 0)),LZ 33 39 (.pick (LT 35) (LT 38) LF),LO 40 (.pick (LT 33) LG (LT 39))] (.cond (LT 40) (LS [LO 41 (.build [(.bool false),(.slice none 0 0),(.slice none 0 0)] [(0,1),(1,1),(2,1)] []),LN (.store 3 (LT 2) (LT 41)),LO 3 (.mv LF)] .ret) .skip)) (LS [LM 42 8,LM 43 9,LO 44 (.call 101 [(.const (.int .u64 1))]),LO 45 (.build [(.bool false),(.slice none 0 0),(.slice none 0 0)] [(0,1),(1,1),(2,1)] [(0,(LT 42)),(1,(LT 43)),(2,(LT 44))]),LO 11 (.new [(.bool false),(.slice none 0 0),(.slice none 0 0)]),LN (.store 3 (LT 11) (LT 45))] (.seq (LS [LM 46 6,LO 47 (.un .not (LT 46))] (.cond (LT 47) (LS [LO 48 (LK 11),LN (.store 3 (LT 2) (LT 48)),LO 3 (.mv LG)] .ret) .skip)) (LS [LM 50 5,LO 51 (.call 169 [(LT 50)]),LM 49 51,LO 52 (LX 49 0),LO 53 (LX 49 1),LM 12 52,LM 13 53] (.seq (LS [LM 54 13,LO 55 (.un .not (LT 54)),LM 56 55,LZ 56 57 (.mv (LT 12)),LZ 56 58 (.call 101 [(.const (.int .u64 1))]),LZ 56 59 (.call 170 [(LT 57),(LT 58)]),LZ 56 60 (.bin .leq (LT 59) (LI 0)),LO 61 (.pick (LT 56) LG (LT 60))] (.cond (LT 61) (LS [LO 62 (.build [(.bool false),(.slice none 0 0),(.slice none 0 0)] [(0,1),(1,1),(2,1)] []),LN (.store 3 (LT 2) (LT 62)),LO 3 (.mv LF)] .ret) .skip)) (.seq (LS [LM 63 9,LM 64 12,LO 65 (.call 171 [(LT 63),(LT 64)]),LM 14 65] (LS [LM 66 14,LO 67 (.call 101 [(.const (.int .u64 1))]),LO 68 (.call 170 [(LT 66),(LT 67)]),LO 69 (.bin .neq (LT 68) (LI 0))] (.cond (LT 69) (LS [LO 70 (.build [(.bool false),(.slice none 0 0),(.slice none 0 0)] [(0,1),(1,1),(2,1)] []),LN (.store 3 (LT 2) (LT 70)),LO 3 (.mv LF)] .ret) .skip))) (LS [LM 71 8,LM 72 9,LM 73 12,LO 74 (.build [(.bool false),(.slice none 0 0),(.slice none 0 0)] [(0,1),(1,1),(2,1)] [(0,(LT 71)),(1,(LT 72)),(2,(LT 73))]),LN (.store 3 (LT 2) (LT 74)),LO 3 (.mv LG)] .ret)))))))))))
def dF:aT:=⟨75,[(.cell 2 true 3),(.tmp 3)],cM⟩
theorem HW:gZ 89=some dF:=by kernel_rfl
def qP:aF:=(.seq (LS [LM 28 7,LO 29 (.bin .gtr (LT 28) (.const (.int .u64 0)))] (.cond (LT 29) .skip (.exit 2))) (.block 3 (.dU [LM 30 7,LM 31 5,LM 32 7,LO 33 (.bin .rem (LT 31) (LT 32)),LM 5 30,LM 7 33])))
def gQ:aF:=(.seq (LS [LM 11 1,LO 12 (.len (LT 11)),LO 13 (.bin .gtr (LT 12) (LI 0))] (.cond (LT 13) .skip (.exit 0))) (.block 1 (LS [LM 15 0,LO 16 (.call 218 [(LT 15)]),LM 14 16,LO 17 (LX 14 0),LO 18 (LX 14 1),LM 5 17,LM 6 18] (LS [LM 20 1,LO 21 (.call 218 [(LT 20)]),LM 19 21,LO 22 (LX 19 0),LO 23 (LX 19 1),LM 7 22,LM 8 23] (.seq (LS [LM 24 6,LM 25 24,LY 25 26 (.mv (LT 8)),LO 27 (.pick (LT 25) (LT 26) LF)] (.cond (LT 27) (.seq (.block 2 (.loop qP)) (LS [LM 34 5,LO 35 (.call 101 [(LT 34)]),LM 4 35] .ret)) .skip)) (LS [LM 37 0,LM 38 1,LO 39 (.call 173 [(LT 37),(LT 38)]),LM 36 39,LO 40 (LX 36 0),LO 41 (LX 36 1),LM 9 40,LM 10 41] (.dU [LM 42 1,LM 43 10,LM 0 42,LM 1 43])))))))
def xZ:aF:=(LS [LO 4 (.mv (.const (.slice none 0 0)))] (.seq (.block 0 (.loop gQ)) (LS [LM 44 0,LM 4 44] .ret)))
def BH:aT:=⟨45,[(.tmp 4)],xZ⟩
theorem E3:gZ 171=some BH:=by kernel_rfl
def fD:aF:=(.seq (LS [LM 105 17,LO 106 (.bin .geq (LT 105) (.const (.int .u64 4294967296))),LM 107 106,LZ 107 108 (.mv (LT 17)),LZ 107 109 (.mv (LT 12)),LZ 107 110 (.bin .mul (LT 108) (LT 109)),LZ 107 111 (.mv (LT 18)),LZ 107 112 (.bin .shl (LT 111) (.const (.int .u64 32))),LZ 107 113 (.mv (LT 9)),LZ 107 114 (.mv (LT 15)),LZ 107 115 (.bin .sub (LT 114) (LI 2)),LZ 107 116 (.iaddr 1 (LT 113) (LT 115)),LZ 107 117 (LL 116),LZ 107 118 (.cvt .u64 (LT 117)),LZ 107 119 (.bin .add (LT 112) (LT 118)),LZ 107 120 (.bin .gtr (LT 110) (LT 119)),LO 121 (.pick (LT 107) LG (LT 120))] (.cond (LT 121) .skip (.exit 2))) (.block 3 (LS [LM 122 17,LO 123 (.bin .sub (LT 122) (.const (.int .u64 1))),LM 17 123] (LS [LM 124 18,LM 125 11,LO 126 (.bin .add (LT 124) (LT 125)),LM 18 126] (LS [LM 127 18,LO 128 (.bin .geq (LT 127) (.const (.int .u64 4294967296)))] (.cond (LT 128) (.exit 2) .skip))))))
def lX:aF:=(.seq (LS [LM 78 14,LO 79 (.bin .geq (LT 78) (LI 0))] (.cond (LT 79) .skip (.exit 0))) (.seq (.block 1 (LS [LM 82 14,LM 83 10,LO 84 (.len (LT 83)),LO 85 (.bin .add (LT 82) (LT 84)),LM 15 85] (LS [LM 86 9,LM 87 15,LO 88 (.iaddr 1 (LT 86) (LT 87)),LO 89 (LL 88),LO 90 (.cvt .u64 (LT 89)),LO 91 (.bin .shl (LT 90) (.const (.int .u64 32))),LM 92 9,LM 93 15,LO 94 (.bin .sub (LT 93) (LI 1)),LO 95 (.iaddr 1 (LT 92) (LT 94)),LO 96 (LL 95),LO 97 (.cvt .u64 (LT 96)),LO 98 (.bin .add (LT 91) (LT 97)),LM 16 98] (LS [LM 99 16,LM 100 11,LO 101 (.bin .quo (LT 99) (LT 100)),LM 102 16,LM 103 11,LO 104 (.bin .rem (LT 102) (LT 103)),LM 17 101,LM 18 104] (.seq (.block 2 (.loop fD)) (.seq (LS [LM 129 9,LM 130 14,LM 131 15,LO 132 (.bin .add (LT 131) (LI 1)),LO 133 (.sub 1 (LT 129) (some (LT 130)) (some (LT 132)) none),LM 134 10,LM 135 17,LO 136 (.call 221 [(LT 133),(LT 134),(LT 135)])] (.cond (LT 136) (.dU [LM 137 17,LO 138 (.bin .sub (LT 137) (.const (.int .u64 1))),LM 17 138]) .skip)) (.dU [LM 139 13,LM 140 14,LM 141 17,LO 142 (.cvt .u32 (LT 141)),LO 143 (.iaddr 1 (LT 139) (LT 140)),LN (.store 1 (LT 143) (LT 142))]))))))) (.dU [LM 80 14,LO 81 (.bin .sub (LT 80) (LI 1)),LM 14 81])))
def jI:aF:=(LS [LO 149 (.bin .lss (LT 148) (LT 147))] (.seq (.cond (LT 149) .skip (.exit 4)) (.seq (.block 5 (LS [LM 150 148,LM 19 150] (LS [LO 20 (.mv (.const (.int .u64 0)))] (.seq (LS [LM 151 19,LO 152 (.bin .add (LT 151) (LI 1)),LM 153 9,LO 154 (.len (LT 153)),LO 155 (.bin .lss (LT 152) (LT 154))] (.cond (LT 155) (.dU [LM 156 9,LM 157 19,LO 158 (.bin .add (LT 157) (LI 1)),LO 159 (.iaddr 1 (LT 156) (LT 158)),LO 160 (LL 159),LO 161 (.cvt .u64 (LT 160)),LM 20 161]) .skip)) (.dU [LM 162 9,LM 163 19,LM 164 20,LO 165 (.bin .shl (LT 164) (.const (.int .u64 32))),LM 166 9,LM 167 19,LO 168 (.iaddr 1 (LT 166) (LT 167)),LO 169 (LL 168),LO 170 (.cvt .u64 (LT 169)),LO 171 (.bin .add (LT 165) (LT 170)),LM 172 8,LO 173 (.bin .shr (LT 171) (LT 172)),LO 174 (.cvt .u32 (LT 173)),LO 175 (.iaddr 1 (LT 162) (LT 163)),LN (.store 1 (LT 175) (LT 174))]))))) (.dU [LO 176 (.bin .add (LT 148) (LI 1)),LM 148 176]))))
def nJ:aF:=(LS [LO 4 (.mv (.const (.slice none 0 0))),LO 5 (.mv (.const (.slice none 0 0)))] (.seq (LS [LM 21 0,LM 22 1,LO 23 (.call 170 [(LT 21),(LT 22)]),LO 24 (.bin .lss (LT 23) (LI 0))] (.cond (LT 24) (LS [LM 25 0,LO 4 (.mv (.const (.slice none 0 0))),LM 5 25] .ret) .skip)) (.seq (LS [LM 26 1,LO 27 (.len (LT 26)),LO 28 (.bin .eql (LT 27) (LI 1))] (.cond (LT 28) (LS [LM 30 0,LM 31 1,LO 32 (.iaddr 1 (LT 31) (LI 0)),LO 33 (LL 32),LO 34 (.call 183 [(LT 30),(LT 33)]),LM 29 34,LO 35 (LX 29 0),LO 36 (LX 29 1),LM 6 35,LM 7 36] (LS [LM 37 6,LM 38 7,LO 39 (.lit [(.int .u32 0)] 1 [(0,(LT 38))]),LO 40 (.call 182 [(LT 39)]),LM 4 37,LM 5 40] .ret)) .skip)) (LS [LM 41 1,LM 42 1,LO 43 (.len (LT 42)),LO 44 (.bin .sub (LT 43) (LI 1)),LO 45 (.iaddr 1 (LT 41) (LT 44)),LO 46 (LL 45),LO 47 (.call 219 [(LT 46)]),LM 8 47] (LS [LM 48 0,LM 49 8,LO 50 (.call 220 [(LT 48),(LT 49)]),LM 51 1,LM 52 8,LO 53 (.call 220 [(LT 51),(LT 52)]),LO 54 (.call 182 [(LT 53)]),LM 9 50,LM 10 54] (LS [LM 55 10,LM 56 10,LO 57 (.len (LT 56)),LO 58 (.bin .sub (LT 57) (LI 1)),LO 59 (.iaddr 1 (LT 55) (LT 58)),LO 60 (LL 59),LO 61 (.cvt .u64 (LT 60)),LM 11 61] (LS [LM 62 10,LM 63 10,LO 64 (.len (LT 63)),LO 65 (.bin .sub (LT 64) (LI 2)),LO 66 (.iaddr 1 (LT 62) (LT 65)),LO 67 (LL 66),LO 68 (.cvt .u64 (LT 67)),LM 12 68] (LS [LM 69 9,LO 70 (.len (LT 69)),LM 71 10,LO 72 (.len (LT 71)),LO 73 (.bin .sub (LT 70) (LT 72)),LO 74 (.make [(.int .u32 0)] 4 (LT 73) (LT 73)),LM 13 74] (.seq (LS [LM 75 13,LO 76 (.len (LT 75)),LO 77 (.bin .sub (LT 76) (LI 1)),LM 14 77] (.block 0 (.loop lX))) (LS [LM 144 9,LO 145 (.call 182 [(LT 144)]),LM 9 145] (.seq (LS [LM 146 9,LO 147 (.len (LT 146)),LO 148 (.mv (LI 0))] (.block 4 (.loop jI))) (LS [LM 177 13,LO 178 (.call 182 [(LT 177)]),LM 179 9,LO 180 (.call 182 [(LT 179)]),LM 4 178,LM 5 180] .ret))))))))))))
def qH:aT:=⟨181,[(.tmp 4),(.tmp 5)],nJ⟩
theorem Fq:gZ 173=some qH:=by kernel_rfl
def eI:aF:=(.seq (LS [LM 3 0,LO 4 (.len (LT 3)),LO 5 (.bin .gtr (LT 4) (LI 0)),LM 6 5,LY 6 7 (.mv (LT 0)),LY 6 8 (.mv (LT 0)),LY 6 9 (.len (LT 8)),LY 6 10 (.bin .sub (LT 9) (LI 1)),LY 6 11 (.iaddr 1 (LT 7) (LT 10)),LY 6 12 (LL 11),LY 6 13 (.bin .eql (LT 12) (.const (.int .u32 0))),LO 14 (.pick (LT 6) (LT 13) LF)] (.cond (LT 14) .skip (.exit 0))) (.block 1 (.dU [LM 15 0,LM 16 0,LO 17 (.len (LT 16)),LO 18 (.bin .sub (LT 17) (LI 1)),LO 19 (.sub 1 (LT 15) none (some (LT 18)) none),LM 0 19])))
def pN:aF:=(LS [LO 2 (.mv (.const (.slice none 0 0)))] (.seq (.block 0 (.loop eI)) (LS [LM 20 0,LM 2 20] .ret)))
def sU:aT:=⟨21,[(.tmp 2)],pN⟩
theorem wR:gZ 182=some sU:=by kernel_rfl
def kT:aF:=(.seq (LS [LM 11 0,LO 12 (.len (LT 11)),LO 13 (.bin .gtr (LT 12) (LI 0))] (.cond (LT 13) .skip (.exit 0))) (.block 1 (LS [LM 15 0,LO 16 (.call 183 [(LT 15),(.const (.int .u32 1000000000))]),LM 14 16,LO 17 (LX 14 0),LO 18 (LX 14 1),LM 4 17,LM 5 18] (LS [LM 19 5,LO 20 (.cvt .u64 (LT 19)),LO 21 (.call 184 [(LT 20),(LI 10)]),LM 6 21] (.seq (LS [LM 22 4,LO 23 (.len (LT 22)),LO 24 (.bin .gtr (LT 23) (LI 0))] (.cond (LT 24) (.dU [LM 25 6,LO 26 (.slen (LT 25)),LO 27 (.bin .sub (LI 9) (LT 26)),LO 28 (.call 103 [(.const (.string ⟨#[48]⟩)),(LT 27)]),LM 29 6,LO 30 (.bin .add (LT 28) (LT 29)),LM 6 30]) .skip)) (.dU [LM 31 3,LM 32 6,LO 33 (.lit [(.string ⟨#[]⟩)] 1 [(0,(LT 32))]),LO 34 (.app 1 16 (LT 31) (LT 33)),LM 35 4,LM 3 34,LM 0 35]))))))
def qD:aF:=(LS [LO 2 (.mv (.const (.string ⟨#[]⟩)))] (.seq (LS [LM 7 0,LO 8 (.len (LT 7)),LO 9 (.bin .eql (LT 8) (LI 0))] (.cond (LT 9) (LS [LO 2 (.mv (.const (.string ⟨#[48]⟩)))] .ret) .skip)) (LS [LO 10 (.lit [(.string ⟨#[]⟩)] 0 []),LM 3 10] (.seq (.block 0 (.loop kT)) (LS [LM 36 3,LO 37 (.call 185 [(LT 36)])] (LS [LM 38 3,LO 39 (.call 186 [(LT 38),(.const (.string ⟨#[]⟩))]),LM 2 39] .ret))))))
def sX:aT:=⟨40,[(.tmp 2)],qD⟩
theorem DK:gZ 102=some sX:=by kernel_rfl
def jC:aF:=(LS [LO 31 (.bin .lss (LT 30) (LT 29))] (.seq (.cond (LT 31) .skip (.exit 0)) (.seq (.block 1 (LS [LM 32 30,LM 5 32] (LS [LM 33 0,LM 34 5,LO 35 (.sidx (LT 33) (LT 34)),LO 36 (.bin .lss (LT 35) (.const (.int .u8 48))),LM 37 36,LZ 37 38 (.mv (LT 0)),LZ 37 39 (.mv (LT 5)),LZ 37 40 (.sidx (LT 38) (LT 39)),LZ 37 41 (.bin .gtr (LT 40) (.const (.int .u8 57))),LO 42 (.pick (LT 37) LG (LT 41))] (.cond (LT 42) (LS [LO 2 (.mv (.const (.slice none 0 0))),LO 3 (.mv LF)] .ret) .skip)))) (.dU [LO 43 (.bin .add (LT 30) (LI 1)),LM 30 43]))))
def oI:aF:=(LS [LO 60 (.bin .lss (LT 59) (LT 58))] (.seq (.cond (LT 60) .skip (.exit 4)) (.seq (.block 5 (.dU [LM 61 9,LO 62 (.bin .mul (LT 61) (.const (.int .u64 10))),LM 9 62])) (.dU [LO 63 (.bin .add (LT 59) (LI 1)),LM 59 63]))))
def lB:aF:=(.seq (LS [LM 44 0,LO 45 (.bin .neq (LT 44) (.const (.string ⟨#[]⟩)))] (.cond (LT 45) .skip (.exit 2))) (.block 3 (LS [LM 46 0,LO 47 (.slen (LT 46)),LO 48 (.bin .rem (LT 47) (LI 9)),LM 6 48] (.seq (LS [LM 49 6,LO 50 (.bin .eql (LT 49) (LI 0))] (.cond (LT 50) (.dU [LO 6 (.mv (LI 9))]) .skip)) (LS [LM 52 0,LM 53 6,LO 54 (.ssub (LT 52) none (some (LT 53))),LO 55 (.call 217 [(LT 54),(LI 10),(LI 64)]),LM 51 55,LO 56 (LX 51 0),LO 57 (LX 51 1),LM 7 56,LM 8 57] (LS [LO 9 (.mv (.const (.int .u64 1)))] (.seq (LS [LM 58 6,LO 59 (.mv (LI 0))] (.block 4 (.loop oI))) (.dU [LM 64 4,LM 65 9,LQ 66 (.call 101 [(LT 65)]),LQ 67 (.call 180 [(LT 64),(LT 66)]),LM 68 7,LQ 69 (.call 101 [(LT 68)]),LQ 70 (.call 174 [(LT 67),(LT 69)]),LM 71 0,LM 72 6,LO 73 (.ssub (LT 71) (some (LT 72)) none),LM 4 70,LM 0 73]))))))))
def jY:aF:=(LS [LO 2 (.mv (.const (.slice none 0 0))),LO 3 (.mv LF)] (.seq (LS [LM 10 0,LO 11 (.bin .eql (LT 10) (.const (.string ⟨#[]⟩))),LM 12 11,LZ 12 13 (.mv (LT 0)),LZ 12 14 (.slen (LT 13)),LZ 12 15 (.bin .gtr (LT 14) (LI 200)),LO 16 (.pick (LT 12) LG (LT 15)),LM 17 16,LZ 17 18 (.mv (LT 0)),LZ 17 19 (.sidx (LT 18) (LI 0)),LZ 17 20 (.bin .eql (LT 19) (.const (.int .u8 48))),LZ 17 21 (.mv (LT 20)),LY 21 22 (.mv (LT 0)),LY 21 23 (.slen (LT 22)),LY 21 24 (.bin .gtr (LT 23) (LI 1)),LZ 17 25 (.pick (LT 21) (LT 24) LF),LO 26 (.pick (LT 17) LG (LT 25))] (.cond (LT 26) (LS [LO 2 (.mv (.const (.slice none 0 0))),LO 3 (.mv LF)] .ret) .skip)) (LS [LO 27 (.lit [(.int .u32 0)] 0 []),LM 4 27] (.seq (LS [LM 28 0,LO 29 (.slen (LT 28)),LO 30 (.mv (LI 0))] (.block 0 (.loop jC))) (.seq (.block 2 (.loop lB)) (LS [LM 74 4,LM 2 74,LO 3 (.mv LG)] .ret))))))
def nL:aT:=⟨75,[(.tmp 2),(.tmp 3)],jY⟩
theorem I4:gZ 169=some nL:=by kernel_rfl
def jV:aF:=(.seq (LS [LM 9 5,LO 10 (.bin .geq (LT 9) (LI 0)),LM 11 10,LY 11 12 (.mv (LT 0)),LY 11 13 (.len (LT 12)),LY 11 14 (.bin .leq (LT 13) (LI 2)),LO 15 (.pick (LT 11) (LT 14) LF)] (.cond (LT 15) .skip (.exit 0))) (.seq (.block 1 (.dU [LM 18 4,LO 19 (.bin .shl (LT 18) (.const (.int .u64 32))),LM 20 0,LM 21 5,LO 22 (.iaddr 1 (LT 20) (LT 21)),LO 23 (LL 22),LO 24 (.cvt .u64 (LT 23)),LO 25 (.bin .add (LT 19) (LT 24)),LM 4 25])) (.dU [LM 16 5,LO 17 (.bin .sub (LT 16) (LI 1)),LM 5 17])))
def uM:aF:=(LS [LO 2 (.mv (.const (.int .u64 0))),LO 3 (.mv LF)] (LS [LO 4 (.mv (.const (.int .u64 0)))] (.seq (LS [LM 6 0,LO 7 (.len (LT 6)),LO 8 (.bin .sub (LT 7) (LI 1)),LM 5 8] (.block 0 (.loop jV))) (LS [LM 26 4,LM 27 0,LO 28 (.len (LT 27)),LO 29 (.bin .leq (LT 28) (LI 2)),LM 2 26,LM 3 29] .ret))))
def xQ:aT:=⟨30,[(.tmp 2),(.tmp 3)],uM⟩
theorem Dj:gZ 218=some xQ:=by kernel_rfl
def kV:aF:=(.seq (LS [LM 15 8,LO 16 (.bin .geq (LT 15) (LI 0))] (.cond (LT 16) .skip (.exit 0))) (.seq (.block 1 (LS [LM 19 7,LO 20 (.bin .shl (LT 19) (.const (.int .u64 32))),LM 21 0,LM 22 8,LO 23 (.iaddr 1 (LT 21) (LT 22)),LO 24 (LL 23),LO 25 (.cvt .u64 (LT 24)),LO 26 (.bin .add (LT 20) (LT 25)),LM 7 26] (LS [LM 27 6,LM 28 8,LM 29 7,LM 30 1,LO 31 (.cvt .u64 (LT 30)),LO 32 (.bin .quo (LT 29) (LT 31)),LO 33 (.cvt .u32 (LT 32)),LO 34 (.iaddr 1 (LT 27) (LT 28)),LN (.store 1 (LT 34) (LT 33))] (.dU [LM 35 7,LM 36 1,LO 37 (.cvt .u64 (LT 36)),LO 38 (.bin .rem (LT 35) (LT 37)),LM 7 38])))) (.dU [LM 17 8,LO 18 (.bin .sub (LT 17) (LI 1)),LM 8 18])))
def qS:aF:=(LS [LO 4 (.mv (.const (.slice none 0 0))),LO 5 (.mv (.const (.int .u32 0)))] (LS [LM 9 0,LO 10 (.len (LT 9)),LO 11 (.make [(.int .u32 0)] 4 (LT 10) (LT 10)),LM 6 11,LO 7 (.mv (.const (.int .u64 0)))] (.seq (LS [LM 12 0,LO 13 (.len (LT 12)),LO 14 (.bin .sub (LT 13) (LI 1)),LM 8 14] (.block 0 (.loop kV))) (LS [LM 39 6,LO 40 (.call 182 [(LT 39)]),LM 41 7,LO 42 (.cvt .u32 (LT 41)),LM 4 40,LM 5 42] .ret))))
def sZ:aT:=⟨43,[(.tmp 4),(.tmp 5)],qS⟩
theorem AD:gZ 183=some sZ:=by kernel_rfl
def lK:aF:=(LS [LO 16 (.bin .lss (LT 15) (LT 14))] (.seq (.cond (LT 16) .skip (.exit 0)) (.seq (.block 1 (LS [LM 17 15,LO 18 (.iaddr 1 (LT 13) (LT 15)),LO 19 (LL 18),LM 6 17,LM 7 19] (LS [LM 20 7,LO 21 (.cvt .u64 (LT 20)),LM 22 1,LO 23 (.bin .shl (LT 21) (LT 22)),LM 8 23] (LS [LM 24 5,LM 25 6,LO 26 (.iaddr 1 (LT 24) (LT 25)),LO 27 (LL 26),LM 28 8,LO 29 (.cvt .u32 (LT 28)),LO 30 (.bin .or (LT 27) (LT 29)),LO 31 (.iaddr 1 (LT 24) (LT 25)),LN (.store 1 (LT 31) (LT 30))] (.dU [LM 32 5,LM 33 6,LO 34 (.bin .add (LT 33) (LI 1)),LM 35 8,LO 36 (.bin .shr (LT 35) (.const (.int .u64 32))),LO 37 (.cvt .u32 (LT 36)),LO 38 (.iaddr 1 (LT 32) (LT 34)),LN (.store 1 (LT 38) (LT 37))]))))) (.dU [LO 39 (.bin .add (LT 15) (LI 1)),LM 15 39]))))
def sE:aF:=(LS [LO 4 (.mv (.const (.slice none 0 0)))] (LS [LM 9 0,LO 10 (.len (LT 9)),LO 11 (.bin .add (LT 10) (LI 1)),LO 12 (.make [(.int .u32 0)] 4 (LT 11) (LT 11)),LM 5 12] (.seq (LS [LM 13 0,LO 14 (.len (LT 13)),LO 15 (.mv (LI 0))] (.block 0 (.loop lK))) (LS [LM 40 5,LM 4 40] .ret))))
def uX:aT:=⟨41,[(.tmp 4)],sE⟩
theorem Bs:gZ 220=some uX:=by kernel_rfl
def eQ:aF:=(LS [LO 15 (.bin .lss (LT 14) (LT 13))] (.seq (.cond (LT 15) .skip (.exit 0)) (.seq (.block 1 (LS [LM 16 14,LM 9 16] (.seq (LS [LM 17 9,LM 18 1,LO 19 (.len (LT 18)),LO 20 (.bin .lss (LT 17) (LT 19))] (.cond (LT 20) (.dU [LM 21 7,LM 22 2,LM 23 1,LM 24 9,LO 25 (.iaddr 1 (LT 23) (LT 24)),LO 26 (LL 25),LO 27 (.cvt .u64 (LT 26)),LO 28 (.bin .mul (LT 22) (LT 27)),LO 29 (.bin .add (LT 21) (LT 28)),LM 7 29]) .skip)) (LS [LM 30 0,LM 31 9,LO 32 (.iaddr 1 (LT 30) (LT 31)),LO 33 (LL 32),LO 34 (.cvt .i64 (LT 33)),LM 35 7,LO 36 (.cvt .u32 (LT 35)),LO 37 (.cvt .i64 (LT 36)),LO 38 (.bin .sub (LT 34) (LT 37)),LM 39 8,LO 40 (.bin .sub (LT 38) (LT 39)),LM 10 40] (LS [LM 41 7,LO 42 (.bin .shr (LT 41) (.const (.int .u64 32))),LM 7 42] (LS [LO 8 (.mv (LI 0))] (.seq (LS [LM 43 10,LO 44 (.bin .lss (LT 43) (LI 0))] (.cond (LT 44) (.dU [LO 8 (.mv (LI 1))]) .skip)) (.dU [LM 45 0,LM 46 9,LM 47 10,LO 48 (.cvt .u32 (LT 47)),LO 49 (.iaddr 1 (LT 45) (LT 46)),LN (.store 1 (LT 49) (LT 48))])))))))) (.dU [LO 50 (.bin .add (LT 14) (LI 1)),LM 14 50]))))
def kC:aF:=(LS [LO 60 (.bin .lss (LT 59) (LT 58))] (.seq (.cond (LT 60) .skip (.exit 2)) (.seq (.block 3 (LS [LM 61 59,LM 11 61] (LS [LM 62 7,LM 63 0,LM 64 11,LO 65 (.iaddr 1 (LT 63) (LT 64)),LO 66 (LL 65),LO 67 (.cvt .u64 (LT 66)),LO 68 (.bin .add (LT 62) (LT 67)),LM 7 68] (.seq (LS [LM 69 11,LM 70 1,LO 71 (.len (LT 70)),LO 72 (.bin .lss (LT 69) (LT 71))] (.cond (LT 72) (.dU [LM 73 7,LM 74 1,LM 75 11,LO 76 (.iaddr 1 (LT 74) (LT 75)),LO 77 (LL 76),LO 78 (.cvt .u64 (LT 77)),LO 79 (.bin .add (LT 73) (LT 78)),LM 7 79]) .skip)) (LS [LM 80 0,LM 81 11,LM 82 7,LO 83 (.cvt .u32 (LT 82)),LO 84 (.iaddr 1 (LT 80) (LT 81)),LN (.store 1 (LT 84) (LT 83))] (.dU [LM 85 7,LO 86 (.bin .shr (LT 85) (.const (.int .u64 32))),LM 7 86])))))) (.dU [LO 87 (.bin .add (LT 59) (LI 1)),LM 59 87]))))
def Au:aF:=(LS [LO 6 (.mv LF)] (LS [LO 7 (.mv (.const (.int .u64 0))),LO 8 (.mv (LI 0))] (.seq (LS [LM 12 0,LO 13 (.len (LT 12)),LO 14 (.mv (LI 0))] (.block 0 (.loop eQ))) (.seq (LS [LM 51 8,LO 52 (.bin .eql (LT 51) (LI 0)),LM 53 52,LY 53 54 (.mv (LT 7)),LY 53 55 (.bin .eql (LT 54) (.const (.int .u64 0))),LO 56 (.pick (LT 53) (LT 55) LF)] (.cond (LT 56) (LS [LO 6 (.mv LF)] .ret) .skip)) (LS [LO 7 (.mv (.const (.int .u64 0)))] (.seq (LS [LM 57 0,LO 58 (.len (LT 57)),LO 59 (.mv (LI 0))] (.block 2 (.loop kC))) (LS [LO 6 (.mv LG)] .ret)))))))
def Cw:aT:=⟨88,[(.tmp 6)],Au⟩
theorem G7:gZ 221=some Cw:=by kernel_rfl
end Go.PM
namespace Go.PM
end Go.PM
namespace Go.PM
end Go.PM
namespace Go.PM
theorem Tq (x a b:Int):TC 95 [VI x,VI a,VI b] (.sc (.bool (decide (a≤x∧x≤b)))):=by
 refine TC.walk ⟨true,false⟩ TU rfl (Nat.le_of_ble_eq_true rfl) rfl rfl ?_
 by_cases h1:a≤x<;>by_cases h2:x≤b<;>simp only[Rz,KJ,h1,h2,VX,Nat.reduceEqDiff,Nat.reduceAdd]<;>exact aI rfl
end Go.PM
namespace Go.PM
def LR (fP:List Int) (ok:Bool) (n:Nat) (r:VV) (L:aB):Prop :=
 ∃v,r = .eK [v,.sc (.bool ok)]∧((v = .tree [] .nil∧fP=[])∨∃i g c,v = .ref (n+i) g 0 fP.length c∧fP.length≤c∧L[i]? = some (.row g (fP.map nV) 1 true))
end Go.PM
namespace Go.PM
theorem J4 {α:Type} {f:α→VV} {e b:Nat} {fill:α} {xs:List α} {H:aB} (hp:∀x,aW (f x)=true) (h:aV H b 0=some ((iE fill xs).map f,e,true)):fz depth H (.ref b 0 0 xs.length (xs.length+room xs.length))=some (bT f xs):=by
 rw[Hx h (by simp[iE]) (Nat.le_add_right _ _) (dY hp),←List.map_take,DN]
theorem R6 {α:Type} {f:α→VV} {e b g c:Nat} {xs:List α} {H:aB} (hp:∀x,aW (f x)=true) (h:aV H b g=some (xs.map f,e,true)) (hc:xs.length≤c):fz depth H (.ref b g 0 xs.length c)=some (bT f xs):=by
 rw[CZ h (by simp) hc (dY hp)]
theorem uG {H H':aB} {b g:Nat} {x:List VV×Nat×Bool} (hh:H <+: H') (h:aV H b g=some x):aV H' b g=some x:=by
 obtain⟨L,rfl⟩:=hh
 exact U4 h
def Seen {α:Type} (f:α→VV) (xs:List α) (H:aB) (r:VV):Prop:=∀H',H <+: H'→fz depth H' r=some (bT f xs)
theorem Seen.now {α:Type} {f:α→VV} {xs:List α} {H:aB} {r:VV} (h:Seen f xs H r):fz depth H r=some (bT f xs):=h H (List.prefix_refl _)
theorem Seen.pre {α:Type} {f:α→VV} {xs:List α} {H H':aB} {r:VV} (h:Seen f xs H r) (hh:H <+: H'):Seen f xs H' r:=fun H'' h'=>h H'' (hh.trans h')
theorem UH {α:Type} {f:α→VV} {e F lo:Nat} {fill:α} {xs:List α} {bare:Bool} {H:aB} {K:VV→aB→Prop} (h:FC F [bT f xs,.sc (.bool bare)] (ToR f e fill xs bare)) (zN:CX.contains F=true) (hl:∀x,(aA (f x)).length=e) (hp:∀x,aW (f x)=true)
  (hk:∀r H',H <+: H'→Seen f xs H' r→K r H'):dJ F [bT f xs,.sc (.bool bare)] lo H K:=by
 refine h.call zN (mapM_pure (n:=7) (by simp[aK,jA hl hp];rfl)) ?_
 rintro r L (⟨_,rfl,rfl,rfl⟩ | ⟨rfl,rfl⟩)
 ·exact hk _ _ (List.prefix_append _ _) fun H' _=>Dh
 ·refine hk _ _ (List.prefix_append _ _) fun H' hh=>J4 (e:=e) (fill:=fill) hp (uG hh ?_)
  exact Gf (i:=0) rfl
theorem Xn {α:Type} {f:α→VV} {e F lo:Nat} {fill:α} {xs:List α} {H:aB} {K:VV→aB→Prop} (h:FC F [bT f xs,.sc (.bool false)] (ToR f e fill xs false)) (zN:CX.contains F=true) (hl:∀x,(aA (f x)).length=e) (hp:∀x,aW (f x)=true)
  (hk:∀b H',H <+: H'→H.length≤b→aV H' b 0=some ((iE fill xs).map f,e,true)→K (.ref b 0 0 xs.length (xs.length+room xs.length)) H'):dJ F [bT f xs,.sc (.bool false)] lo H K:=by
 refine h.call zN (mapM_pure (n:=7) (by simp[aK,jA hl hp];rfl)) ?_
 intro r L hL
 obtain⟨rfl,rfl⟩:=hL.no
 exact hk _ _ (List.prefix_append _ _) (Nat.le_refl _) (Gf (i:=0) rfl)
def LV (lo hi:Nat) (fP:List Int) (H:aB) (v:VV):Prop :=
 (v = .tree [] .nil∧fP=[])∨∃b g c,lo≤b∧b<hi∧v = .ref b g 0 fP.length c∧fP.length≤c∧aV H b g=some (fP.map nV,1,true)
theorem LV.jP {lo hi:Nat} {fP:List Int} {H H':aB} {v:VV} (h:LV lo hi fP H v) (hk:∀b g x,lo≤b→b<hi→aV H b g=some x→aV H' b g=some x):LV lo hi fP H' v:=by
 rcases h with h | ⟨b,g,c,h1,h2,h3,h4,h5⟩
 ·exact .inl h
 ·exact .inr ⟨b,g,c,h1,h2,h3,h4,hk _ _ _ h1 h2 h5⟩
theorem LV.pre {lo hi:Nat} {fP:List Int} {H H':aB} {v:VV} (h:LV lo hi fP H v) (hh:H <+: H'):LV lo hi fP H' v:=h.jP fun _ _ _ _ _=>uG hh
theorem LV.set {lo hi b':Nat} {x:jR} {fP:List Int} {H:aB} {v:VV} (h:LV lo hi fP H v) (hb:b'<lo∨hi≤b'):LV lo hi fP (H.set b' x) v:=h.jP fun _ _ _ h1 h2=>Gl (by omega)
theorem LV.fz {lo hi:Nat} {fP:List Int} {H:aB} {v:VV} (h:LV lo hi fP H v):fz depth H v=some (ZB fP):=by
 rcases h with⟨rfl,rfl⟩ | ⟨b,g,c,h1,h2,rfl,h4,h5⟩
 ·exact Dh
 ·exact R6 (fun _=>rfl) h5 h4
theorem Nn (b:Bool):MF true (Value.bool b) (Value.bool b)=some (.bool false):=by cases b<;>rfl
end Go.PM
namespace Go.PM
def IH (n:Nat) (H:aB):Prop:=∃L,H=List.replicate n .dead++L∧oH n L=true
theorem IH.app {n g e:Nat} {es:List VV} {w:Bool} {H:aB} (h:IH n H) (ho:wA n es=true):IH n (H++[.row g es e w]):=by
 obtain⟨L,rfl,hL⟩:=h
 exact⟨L++[.row g es e w],by rw[List.append_assoc],by simp only[oH,List.all_append,Bool.and_eq_true,List.all_cons,List.all_nil,and_true];exact⟨hL,ho⟩⟩
theorem IH.set {n b g e:Nat} {es:List VV} {w:Bool} {H:aB} (h:IH n H) (hb:n≤b) (ho:wA n es=true):IH n (H.set b (.row g es e w)):=by
 obtain⟨L,rfl,hL⟩:=h
 refine⟨L.set (b-n) (.row g es e w),by rw[List.set_append_right _ _ (by simpa using hb),List.length_replicate],?_⟩
 unfold oH at hL ⊢
 rw[List.all_eq_true] at hL ⊢
 intro x hx
 rcases List.mem_or_eq_of_mem_set hx with h | rfl
 ·exact hL x h
 ·exact ho
theorem IH.len {n:Nat} {H:aB} (h:IH n H):n≤H.length:=by
 obtain⟨L,rfl,_⟩:=h
 simp
def ajT (r:Nat×List Int):VV := .ref r.1 0 0 r.2.length r.2.length
structure aeC (lo hi b:Nat) (H:aB) (rs:List (Nat×List Int)):Prop where
 nd:(rs.map (·.1)).Nodup
 row:∀r∈rs,lo≤r.1∧r.1<hi∧r.1≠b∧aV H r.1 0=some (r.2.map nV,1,true)
def RR (lo hi:Nat) (fP:List (List Int)) (H:aB) (v:VV):Prop :=
 (v = .tree [] .nil∧fP=[])∨∃b g c rs,lo≤b∧b<hi∧v = .ref b g 0 fP.length c∧fP.length≤c∧aV H b g=some (rs.map ajT,1,true)∧rs.map (·.2)=fP∧aeC lo hi b H rs
theorem RR.jP {lo hi:Nat} {fP:List (List Int)} {H H':aB} {v:VV} (h:RR lo hi fP H v) (hk:∀b g x,lo≤b→b<hi→aV H b g=some x→aV H' b g=some x):RR lo hi fP H' v:=by
 rcases h with h | ⟨b,g,c,rs,h1,h2,h3,h4,h5,h6,h7⟩
 ·exact .inl h
 ·exact .inr ⟨b,g,c,rs,h1,h2,h3,h4,hk _ _ _ h1 h2 h5,h6,h7.nd,fun r hr=>by
   obtain⟨k1,k2,k3,k4⟩:=h7.row r hr
   exact⟨k1,k2,k3,hk _ _ _ k1 k2 k4⟩⟩
theorem RR.pre {lo hi:Nat} {fP:List (List Int)} {H H':aB} {v:VV} (h:RR lo hi fP H v) (hh:H <+: H'):RR lo hi fP H' v:=h.jP fun _ _ _ _ _=>uG hh
theorem RR.set {lo hi b':Nat} {x:jR} {fP:List (List Int)} {H:aB} {v:VV} (h:RR lo hi fP H v) (hb:b'<lo∨hi≤b'):RR lo hi fP (H.set b' x) v:=h.jP fun _ _ _ h1 h2=>Gl (by omega)
end Go.PM
namespace Go.PM
abbrev HA (xs:List (List ByteArray)):VV:=bT fT xs
theorem PU (xs:List (List ByteArray)):aW (HA xs)=true:=jA (size:=1) (fun _=>rfl) dQ
def Uu:List ByteArray→Int→Int
 | [],l=>l
 | x::xs,l=>if l-x.size<0 then -1 else Uu xs (l-x.size)
def Vi (xs:List ByteArray) (left:Int):Int:=if left-xs.length<0 then -1 else Uu xs (left-xs.length)
theorem Xd:∀(xs:List ByteArray) (l:Int),0≤Uu xs l→Uu xs l≤l∧∀x∈xs,(x.size:Int)≤l
 | [],l,_=>⟨Int.le_refl _,fun x hx=>(by cases hx)⟩
 |
  x::xs,l,h=>by
  unfold Uu at h ⊢
  split at h
  ·omega
  ·rename_i hc
   rw[if_neg hc]
   obtain⟨h1,h2⟩:=Xd xs _ h
   refine⟨by omega,fun y hy => ?_⟩
   rcases List.mem_cons.1 hy with rfl | hy
   ·omega
   ·have:=h2 y hy;omega
theorem acK {xs:List ByteArray} {l:Int} (h:0≤Vi xs l):Vi xs l≤l∧(xs.length:Int)≤l∧∀x∈xs,(x.size:Int)≤l:=by
 unfold Vi at h ⊢
 split at h
 ·omega
 ·rename_i hc
  rw[if_neg hc]
  obtain⟨h1,h2⟩:=Xd _ _ h
  exact⟨by omega,by omega,fun x hx=>by have:=h2 x hx;omega⟩
def okS (xs:List ByteArray):Prop:=xs.length≤9223372036854775807∧∀x∈xs,x.size≤9223372036854775807
theorem aaY {xs:List ByteArray} {l:Int} (h:Vi xs l<0) (hl:0≤l):Vi xs l = -1:=by
 have key:∀(xs:List ByteArray) (l:Int),0≤l→Uu xs l<0→Uu xs l = -1:=by
  intro xs
  induction xs with
  | nil=>intro l h1 h2;unfold Uu at h2;omega
  |
   cons x xs ih =>
   intro l h1 h2
   unfold Uu at h2 ⊢
   split
   ·rfl
   ·rename_i hc
    rw[if_neg hc] at h2
    exact ih _ (by omega) h2
 unfold Vi at h ⊢
 split
 ·rfl
 ·rename_i hc
  rw[if_neg hc] at h
  exact key _ _ (by omega) h
theorem U8 {α:Type} {l:List α} {i:Nat} {x:α} (h:l[i]? = some x):l.drop i=x::l.drop (i+1):=by
 have aX:=List.getElem?_eq_some_iff.1 h
 rw[List.drop_eq_getElem_cons aX.1,aX.2]
theorem Fj (xs:List ByteArray) (left:Int) (hx:okS xs) (hl:0≤left∧left≤1000000):TC 41 [fT xs,VI left] (VI (Vi xs left)):=by
 refine TC.walk ⟨true,false⟩ Fz rfl (Nat.le_of_ble_eq_true rfl) (by simp[aK,dQ];rfl) rfl ?_
 have hn:=hx.1
 have w:IntKind.i64.wrap (left-(xs.length:Int))=left-(xs.length:Int):=wrap64 (by omega) (by omega)
 by_cases h:left-(xs.length:Int)<0
 ·simp only[uR,rP,w,h,VX,Nat.reduceEqDiff,Nat.reduceAdd]
  unfold Vi
  rw[if_pos h]
  exact aI rfl
 simp only[uR,rP,w,h,VX,Nat.reduceEqDiff,Nat.reduceAdd]
 refine bB (fun(s:Nat×Int) ρ H=>s.1≤xs.length∧H=[]∧0≤s.2∧s.2≤left∧Uu (xs.drop s.1) s.2=Vi xs left∧ρ 0=fT xs∧ρ 1=VI s.2∧ρ 5=VI s.1) (fun s=>xs.length-s.1) (0,left-xs.length) ⟨Nat.zero_le _,rfl,by simp only;omega,by simp only;omega,by unfold Vi;rw[if_neg h];rfl,rfl,rfl,rfl⟩ ?_
 rintro⟨i,l⟩ ρ H ⟨hi,rfl,xM,Em,hs,h0,h1,h5⟩
 simp only at hi xM Em hs h1 h5
 by_cases cX:(i:Int)<(xs.length:Int)
 ·obtain⟨x,SC⟩:∃x,xs[i]? = some x:=⟨_,List.getElem?_eq_getElem (by omega)⟩
  have Bf:=hx.2 x (List.mem_of_getElem? SC)
  have e1:=aP (f:=sV) (t := .op) (H:=[]) (size:=1) (k := .i64) SC rfl
  have e2:yC (.string x)=some (.int .i64 (x.size:Int)):=rfl
  have wi:IntKind.i64.wrap ((i:Int)+1)=((i+1:Nat):Int):=wrapN (i+1) (by omega) (by omega)
  have w1:IntKind.i64.wrap (l-(x.size:Int))=l-(x.size:Int):=wrap64 (by omega) (by omega)
  rw[U8 SC,Uu] at hs
  by_cases lO:l-(x.size:Int)<0
  ·rw[if_pos lO] at hs
   simp only[lY,h0,h1,h5,cX,e1,e2,w1,lO,VX,Nat.reduceEqDiff,Nat.reduceAdd]
   rw[←hs]
   exact aI rfl
  ·rw[if_neg lO] at hs
   simp only[lY,h0,h1,h5,cX,e1,e2,w1,lO,wi,VX,Nat.reduceEqDiff,Nat.reduceAdd]
   exact⟨(i+1,l-x.size),by simp only;omega,by simp only;omega,by simp only;omega,by simp only;omega,hs,by (repeat' apply And.intro)<;>first | rfl | trivial⟩
 ·have qW:i=xs.length:=by omega
  subst qW
  rw[List.drop_of_length_le (Nat.le_refl _),Uu] at hs
  simp only[lY,h0,h1,h5,cX,VX,Nat.reduceEqDiff,Nat.reduceAdd]
  rw[hs]
  exact aI rfl
end Go.PM
namespace Go.PM
def AW (n:Nat) (H:aB) (bare:Bool) (x:List ByteArray) (c:VV):Prop :=
 (bare=true∧x=[]∧c = .tree [] .nil)∨∃b,n<b∧c = .ref b 0 0 x.length (x.length+room x.length)∧aV H b 0=some ((iE lZ x).map sV,1,true)
def Gs (n:Nat) (H:aB) (c:VV):Prop:=∃b,n<b∧c = .ref b 0 0 1 1∧aV H b 0=some ([sV lZ],1,true)
theorem AW.jP {n:Nat} {H H':aB} {bare:Bool} {x:List ByteArray} {c:VV} (h:AW n H bare x c) (hk:∀b g x,n<b→aV H b g=some x→aV H' b g=some x):AW n H' bare x c:=by
 rcases h with h | ⟨b,h1,h2,h3⟩
 ·exact .inl h
 ·exact .inr ⟨b,h1,h2,hk _ _ _ h1 h3⟩
theorem Gs.jP {n:Nat} {H H':aB} {c:VV} (h:Gs n H c) (hk:∀b g x,n<b→aV H b g=some x→aV H' b g=some x):Gs n H' c:=by
 obtain⟨b,h1,h2,h3⟩:=h
 exact⟨b,h1,h2,hk _ _ _ h1 h3⟩
theorem AW.cell {n:Nat} {H:aB} {bare:Bool} {x:List ByteArray} {c:VV} (h:AW n H bare x c):aA c=[c]∧cJ c=true∧∀k,k≤n→wE k c=true:=by
 rcases h with⟨_,_,rfl⟩ | ⟨b,h1,rfl,_⟩
 ·exact⟨rfl,rfl,fun _ _=>rfl⟩
 ·exact⟨rfl,rfl,fun k hk=>by simp[wE];omega⟩
theorem Gs.cell {n:Nat} {H:aB} {c:VV} (h:Gs n H c):aA c=[c]∧cJ c=true∧∀k,k≤n→wE k c=true:=by
 obtain⟨b,h1,rfl,_⟩:=h
 exact⟨rfl,rfl,fun k hk=>by simp[wE];omega⟩
theorem AW.fz {n d:Nat} {H:aB} {bare:Bool} {x:List ByteArray} {c:VV} (h:AW n H bare x c):PM.fz (d+2) H c=some (fT x):=by
 rcases h with⟨_,rfl,rfl⟩ | ⟨b,h1,rfl,h3⟩
 ·show PM.fz ((d+1)+1) H _=_
  unfold PM.fz
  have:aW (.tree [] .nil)=false:=rfl
  simp only[this,Bool.false_eq_true,if_false]
  rfl
 ·show PM.fz ((d+1)+1) H _=_
  unfold PM.fz
  have:aW (.ref b 0 0 x.length (x.length+room x.length))=false:=rfl
  simp only[this,h3,Bool.false_eq_true,if_false]
  rw[if_pos ⟨by simp[iE],Nat.le_add_right _ _⟩,List.drop_zero,←List.map_take,DN,mapM_pure (n:=d) (dY fun _=>rfl)]
  rfl
theorem Gs.fz {n d:Nat} {H:aB} {c:VV} (h:Gs n H c):PM.fz (d+2) H c=some (fT [lZ]):=by
 obtain⟨b,h1,rfl,h3⟩:=h
 show PM.fz ((d+1)+1) H _=_
 unfold PM.fz
 have:aW (.ref b 0 0 1 1)=false:=rfl
 simp only[this,h3,Bool.false_eq_true,if_false]
 rw[if_pos ⟨by simp,Nat.le_refl _⟩,List.drop_zero,List.take_of_length_le (by simp),mapM_pure (n:=d) (by rfl)]
 rfl
def DM (H:aB) (bare:Bool) (xs:List (List ByteArray)) (b:Nat):Prop :=
 ∃cells J5,aV H b 0=some (cells++J5,1,true)∧cells.length=xs.length∧J5.length=room xs.length∧(∀(i:Nat) x,xs[i]? = some x→∃c,cells[i]? = some c∧AW b H bare x c)∧∀c∈J5,Gs b H c
theorem DM.jP {H H':aB} {bare:Bool} {xs:List (List ByteArray)} {b:Nat} (h:DM H bare xs b) (hk:∀b' g x,b≤b'→aV H b' g=some x→aV H' b' g=some x):DM H' bare xs b:=by
 obtain⟨cells,J5,h1,h2,h3,h4,h5⟩:=h
 exact⟨cells,J5,hk _ _ _ (Nat.le_refl _) h1,h2,h3,fun i x hx=>by
  obtain⟨c,k1,k2⟩:=h4 i x hx
  exact⟨c,k1,k2.jP fun b' g x hb=>hk b' g x (Nat.le_of_lt hb)⟩,fun c hc=>(h5 c hc).jP fun b' g x hb=>hk b' g x (Nat.le_of_lt hb)⟩
theorem DM.pre {H H':aB} {bare:Bool} {xs:List (List ByteArray)} {b:Nat} (h:DM H bare xs b) (hh:H <+: H'):DM H' bare xs b:=h.jP fun _ _ _ _=>uG hh
theorem IH.pre {n:Nat} {H L:aB} (h:IH n H) (hL:oH n L=true):IH n (H++L):=by
 obtain⟨L0,rfl,h0⟩:=h
 refine⟨L0++L,by rw[List.append_assoc],?_⟩
 unfold oH at *
 rw[List.all_append,h0,hL]
 rfl
end Go.PM
namespace Go.PM
structure Svc where
 b:List ByteArray
 g:List (List ByteArray)
 e:List ByteArray
def svV (s:Svc):VV := .agg [fT s.b,HA s.g,fT s.e]
theorem Vf (s:Svc):aW (svV s)=true:=by
 show aK [fT s.b,HA s.g,fT s.e]=true
 simp only[aK,dQ,PU,Bool.and_self]
mutual
theorem Tg {n n':Nat} (h:n≤n') (v:VV) (hv:wE n' v=true):wE n v=true:=by
 cases v with
 | any=>cases hv
 | sc v=>exact hv
 | agg cs=>exact B6 h cs hv
 | eK cs=>exact B6 h cs hv
 | tree es k=>exact hv
 | cO=>cases hv
 | ref b g o n c=>simp only[wE,decide_eq_true_eq] at hv ⊢;omega
 | ptr b g j o=>simp only[wE,decide_eq_true_eq] at hv ⊢;omega
 | sN=>cases hv
theorem B6 {n n':Nat} (h:n≤n') (vs:List VV) (hv:wA n' vs=true):wA n vs=true:=by
 cases vs with
 | nil=>rfl
 |
  cons x xs =>
  simp only[wA,Bool.and_eq_true] at hv ⊢
  exact⟨Tg h x hv.1,B6 h xs hv.2⟩
end
def TN (n k:Nat) (H:aB):Prop:=∀(b g:Nat) (es:List VV) (e:Nat) (w:Bool),k≤b→H[b]? = some (.row g es e w)→wA n es=true
theorem TN.app {n k:Nat} {H L:aB} (h:TN n k H) (hn:n≤H.length) (hL:oH H.length L=true):TN n k (H++L):=by
 intro b g es e w hb hr
 rcases Nat.lt_or_ge b H.length with aX | Cp
 ·rw[List.getElem?_append_left aX] at hr
  exact h b g es e w hb hr
 ·rw[List.getElem?_append_right Cp] at hr
  exact B6 hn _ (List.all_eq_true.1 hL _ (List.mem_of_getElem? hr))
theorem TN.set {n k b:Nat} {H:aB} {x:jR} (h:TN n k H) (hb:b<k):TN n k (H.set b x):=by
 intro b' g es e w wM hr
 rw[List.getElem?_set_ne (by omega)] at hr
 exact h b' g es e w wM hr
def A5 (n:Nat) (H:aB) (bare:Bool) (xs:List (List ByteArray)) (c:VV):Prop :=
 (bare=true∧xs=[]∧c = .tree [] .nil)∨∃b,n<b∧c = .ref b 0 0 xs.length (xs.length+room xs.length)∧DM H bare xs b
theorem A5.jP {n:Nat} {H H':aB} {bare:Bool} {xs:List (List ByteArray)} {c:VV} (h:A5 n H bare xs c) (hk:∀b g x,n<b→aV H b g=some x→aV H' b g=some x):A5 n H' bare xs c:=by
 rcases h with h | ⟨b,h1,h2,h3⟩
 ·exact .inl h
 ·exact .inr ⟨b,h1,h2,h3.jP fun b' g x hb=>hk b' g x (by omega)⟩
theorem A5.cell {n:Nat} {H:aB} {bare:Bool} {x:List (List ByteArray)} {c:VV} (h:A5 n H bare x c):aA c=[c]∧cJ c=true:=by
 rcases h with⟨_,_,rfl⟩ | ⟨b,h1,rfl,_⟩
 ·exact⟨rfl,rfl⟩
 ·exact⟨rfl,rfl⟩
theorem DM.fz {d b:Nat} {H:aB} {bare:Bool} {xs:List (List ByteArray)} (h:DM H bare xs b):PM.fz (d+3) H (.ref b 0 0 xs.length (xs.length+room xs.length))=some (HA xs):=by
 obtain⟨cells,J5,h1,h2,h3,h4,h5⟩:=h
 show PM.fz ((d+2)+1) H _=_
 unfold PM.fz
 have:aW (.ref b 0 0 xs.length (xs.length+room xs.length))=false:=rfl
 simp only[this,h1,Bool.false_eq_true,if_false]
 rw[if_pos ⟨by simp;omega,Nat.le_add_right _ _⟩,List.drop_zero,List.take_left' h2]
 have:∀(xs:List (List ByteArray)) (cells:List VV),cells.length=xs.length→(∀(i:Nat) x,xs[i]? = some x→∃c,cells[i]? = some c∧AW b H bare x c)→cells.mapM (PM.fz (d+2) H)=some (xs.map fT):=by
  intro xs
  induction xs with
  |
   nil=>intro cells hl _;cases cells with
   | nil=>rfl
   | cons=>cases hl
  |
   cons x xs ih =>
   intro cells hl hc
   cases cells with
   | nil=>cases hl
   |
    cons c cells =>
    obtain⟨c',k1,k2⟩:=hc 0 x rfl
    injection k1 with k1
    subst k1
    rw[List.mapM_cons,k2.fz,ih cells (by simpa using hl) fun i x hx=>hc (i+1) x hx]
    rfl
 rw[this xs cells h2 h4]
 rfl
theorem WE {d:Nat} {H:aB}:PM.fz (d+1) H (.tree [] .nil)=some (.tree [] .op):=by
 unfold PM.fz
 have:aW (.tree [] .nil)=false:=rfl
 simp only[this,Bool.false_eq_true,if_false]
 rfl
theorem A5.fz {n d:Nat} {H:aB} {bare:Bool} {xs:List (List ByteArray)} {c:VV} (h:A5 n H bare xs c):PM.fz (d+3) H c=some (HA xs):=by
 rcases h with⟨_,rfl,rfl⟩ | ⟨b,h1,rfl,h3⟩
 ·exact WE
 ·exact h3.fz
def BB (n:Nat) (H:aB) (bare:Bool) (s:Svc) (r:VV):Prop:=∃c0 c1 c2,r = .agg [c0,c1,c2]∧AW n H bare s.b c0∧A5 n H bare s.g c1∧AW n H bare s.e c2
theorem BB.jP {n:Nat} {H H':aB} {bare:Bool} {s:Svc} {c:VV} (h:BB n H bare s c) (hk:∀b g x,n<b→aV H b g=some x→aV H' b g=some x):BB n H' bare s c:=by
 obtain⟨c0,c1,c2,rfl,h0,h1,h2⟩:=h
 exact⟨c0,c1,c2,rfl,h0.jP hk,h1.jP hk,h2.jP hk⟩
theorem BB.pre {n:Nat} {H H':aB} {bare:Bool} {s:Svc} {c:VV} (h:BB n H bare s c) (hh:H <+: H'):BB n H' bare s c:=h.jP fun _ _ _ _=>uG hh
theorem BB.fz {n:Nat} {H:aB} {bare:Bool} {s:Svc} {c:VV} (h:BB n H bare s c):PM.fz depth H c=some (svV s):=by
 obtain⟨c0,c1,c2,rfl,h0,h1,h2⟩:=h
 cases hp:aW (.agg [c0,c1,c2]) with
 |
  true =>
  simp only[aW,aK,Bool.and_eq_true] at hp
  have f0:=h0.fz (d:=0)
  have f1:=h1.fz (d:=0)
  have f2:=h2.fz (d:=0)
  rw[aJ hp.1] at f0
  rw[aJ hp.2.1] at f1
  rw[aJ hp.2.2.1] at f2
  injection f0 with f0
  injection f1 with f1
  injection f2 with f2
  subst f0 f1 f2
  exact aI (Vf s)
 |
  false =>
  show PM.fz (7+1) H _=_
  unfold PM.fz
  simp only[hp,Bool.false_eq_true,if_false]
  rw[List.mapM_cons,h0.fz (d:=5),List.mapM_cons,h1.fz (d:=4),List.mapM_cons,h2.fz (d:=5)]
  rfl
end Go.PM
namespace Go.Proofs.YtodamlihdkalfaaGreatDoor
open Go.ChangeShapes Go.WideShapes Go.ChangeAt Go.RowKit Go.PM
theorem Pz {P:Program} {W:World} {base:Nat} {u e:TypeId} {v:Value} (ht:P.underlying u=some (.slice e)) (h:Cell.okWide P W .any base u v) (hB:¬zF W):v = .slice none 0 0:=by
 simp only[Cell.okWide,ht,Cell.ok] at h
 split at h
 case h_7=>rfl
 case h_9 =>
  obtain⟨_,_,_,_,row,n,hs,_⟩:=h
  exfalso
  apply hB
  unfold World.shape? at hs
  split at hs
  ·rename_i arr e' fz hb
   exact⟨_,arr,e',fz,hb⟩
  ·cases hs
 all_goals first | exact h.elim | (rename_i hx;cases hx) | (rename_i hx _;cases hx)
theorem Qq {T:Type} {zU:TypeId×Value→T} {W:World} (hB:zF W):Kt zU Tryz.prog W 22 1 fun vs=>∃s:List ByteArray,s.length≤maxLen∧(∀x∈s,x.size≤maxLen)∧vs=[fT s] :=
 NV (f:=sV) (YM:=fun x=>x.size≤maxLen) Tryz.underlying22 (by kernel_rfl) (by decide) hB FJ (Lw Tryz.underlying9)
end Go.Proofs.YtodamlihdkalfaaGreatDoor
namespace Go.Proofs.YtodamlihdkalfaaGreatDoor
open Go.ChangeShapes Go.WideShapes Go.ChangeAt Go.RowKit Go.PM
theorem TA {T:Type} {zU:TypeId×Value→T} {P:Program} {W:World} {t:TypeId} {v:Value} {d:DataW T} {ps:List MemPlace} {m:cQ} {H:aD} {S:VV→Prop} (ho:zF W→Kt zU P W t 1 fun vs=>∃x,S x∧vs=[x]) (hno:¬zF W→v = .slice none 0 0) (h0:S (.tree [] .op)) (hc:v.cells.toList=[v])
  (h:DataW.Trod zU P W 0 (fun _=>true) true t v d ps) (hI:In m H W):∃m' L pv x,In m' (H++L) W∧(∀b l,m b=some l→m' b=some l)∧RV m' pv v∧VR (bare (· < (H++L).length) (H++L)) x pv∧S x:=by
 by_cases hB:zF W
 ·obtain⟨fuel,hf⟩:=h
  rw[hc] at hf
  obtain⟨hl,m',L,G2,vs,hop,x,hx,rfl⟩:=ho hB fuel _ _ hf m H hI
  have hlen:=hop.len
  match G2,hlen with
  |
   [p],_ =>
   have hr:=hop.rv 0 (by simp)
   have ht:=hop.tree
   cases ht with
   | cons _ _ _ _ h1 h2=>exact⟨m',L,p,x,hop.inn,hop.ext,hr,h1,hx⟩
 ·have:=hno hB
  subst this
  exact⟨m,[],.slice none 0 0,.tree [] .op,by rw[List.append_nil];exact hI,fun _ _ h=>h,.Js,.nH _ (.inl rfl),h0⟩
theorem OS {P:Program} {W:World} {base:Nat} {u e:TypeId} {v:Value} (ht:P.underlying u=some (.slice e)) (h:Value.okWide P W .any base u v) (hB:¬zF W):v = .slice none 0 0:=by
 obtain⟨a,n,c,rfl⟩:=okWide_slice ht h
 simp only[Value.okWide,ht] at h
 exact Pz ht h hB
theorem NB {P:Program} {W:World} {base:Nat} {u e:TypeId} {v:Value} (ht:P.underlying u=some (.slice e)) (h:Value.okWide P W .any base u v):v.cells.toList=[v]:=by
 obtain⟨a,n,c,rfl⟩:=okWide_slice ht h
 rfl
set_option maxRecDepth 100000 in
theorem SB {T:Type} {zU:TypeId×Value→T} {W:World} {v:Value} {d:DataW T} {ps:List MemPlace} {base:Nat} {m:cQ} {H:aD} (h:DataW.Trod zU Tryz.prog W 0 (fun _=>true) true 22 v d ps) (hv:Value.okWide Tryz.prog W .any base 22 v) (hI:In m H W) :
  ∃m' L pv s,In m' (H++L) W∧(∀b l,m b=some l→m' b=some l)∧RV m' pv v∧VR (bare (· < (H++L).length) (H++L)) (fT s) pv∧okS s:=by
 obtain⟨m',L,pv,x,h1,h2,h3,h4,s,hs,rfl⟩:=TA (S:=fun x=>∃s:List ByteArray,okS s∧x=fT s) (fun hB fuel cs y h m H hI=>by
  obtain⟨hl,m',L,G2,vs,ho,s,h1,h2,rfl⟩:=Qq hB fuel cs y h m H hI
  exact⟨hl,m',L,G2,_,ho,_,⟨s,⟨h1,h2⟩,rfl⟩,rfl⟩) (OS Tryz.underlying22 hv) ⟨[],⟨Nat.zero_le _,fun x hx=>(by cases hx)⟩,rfl⟩ (NB Tryz.underlying22 hv) h hI
 exact⟨m',L,pv,s,h1,h2,h3,h4,hs⟩
end Go.Proofs.YtodamlihdkalfaaGreatDoor
namespace Go.PM
open Go.Lib
def d10 (n:Nat):UInt8:=UInt8.ofNat (48+n)
def AH:Nat→Nat→List UInt8
 | 0,_=>[]
 | k+1,r=>AH k (r / 10)++[d10 (r % 10)]
theorem gN {n:Nat} (h:n<10):decDigits n=[d10 n]:=by rw[decDigits,dif_pos h];rfl
theorem wS {n:Nat} (h:¬n<10):decDigits n=decDigits (n / 10)++[d10 (n % 10)]:=by rw[decDigits,dif_neg h];rfl
theorem Mf (n:Nat):decDigits n≠[]:=by
 by_cases h:n<10
 ·rw[gN h];simp
 ·rw[wS h];simp
theorem YB (k r:Nat):(AH k r).length=k:=by
 induction k generalizing r with
 | zero=>rfl
 | succ k ih=>rw[AH,List.length_append,ih];rfl
theorem WN (k:Nat):AH k 0=List.replicate k 48:=by
 induction k with
 | zero=>rfl
 | succ k ih=>rw[AH,ih,List.replicate_succ'];rfl
theorem Yx {q:Nat} (hq:0<q) (k r:Nat) (hr:r<10^k):decDigits (q*10^k+r)=decDigits q++AH k r:=by
 induction k generalizing r with
 |
  zero =>
  have:r=0:=by simp at hr;exact hr
  subst this
  simp[AH]
 |
  succ k ih =>
  rw[Nat.pow_succ] at hr ⊢
  have hp:0<10^k:=Nat.pow_pos (by decide)
  have h1:q*(10^k*10)=10*(q*10^k):=by grind
  have h2:1*1≤q*10^k:=Nat.mul_le_mul hq hp
  rw[wS (by omega),h1,show (10*(q*10^k)+r) / 10=q*10^k+r / 10 by omega,show (10*(q*10^k)+r) % 10=r % 10 by omega,ih (r / 10) (by omega),AH,List.append_assoc]
theorem Z9 (k r:Nat) (hr:r<10^(k+1)):AH (k+1) r=List.replicate (k+1-(decDigits r).length) 48++decDigits r:=by
 induction k generalizing r with
 |
  zero =>
  have h:r<10:=by simpa using hr
  rw[gN h,AH,AH,Nat.mod_eq_of_lt h]
  rfl
 |
  succ k ih =>
  rw[AH]
  by_cases h:r<10
  ·rw[show r / 10=0 by omega,WN,gN h,Nat.mod_eq_of_lt h]
   rfl
  ·rw[ih (r / 10) (by rw[Nat.pow_succ] at hr;omega),wS h,List.append_assoc,List.length_append]
   congr 2
   simp only[List.length_cons,List.length_nil]
   omega
theorem zM (n:Nat) (k:Nat) (h:n<10^(k+1)):(decDigits n).length≤k+1:=by
 rw[decDigits_length]
 induction k generalizing n with
 | zero=>rw[nDigits_small (by simpa using h)];exact Nat.le_refl _
 |
  succ k ih =>
  by_cases hn:n<10
  ·rw[nDigits_small hn];omega
  ·rw[nDigits_big hn]
   have:=ih (n / 10) (by rw[Nat.pow_succ] at h;omega)
   omega
theorem Fx {q r:Nat} (hq:0<q) (hr:r<1000000000):decDigits (q*1000000000+r)=decDigits q++AH 9 r:=Yx hq 9 r hr
theorem Y3 {r:Nat} (hr:r<1000000000):decDigits (r+1000000000)=d10 1::AH 9 r:=by
 have:=Fx (q:=1) (by decide) hr
 rw[show r+1000000000=1*1000000000+r by omega,this,gN (by decide)]
 rfl
theorem PW (xs:List (List UInt8)):join xs []=xs.flatten:=by
 induction xs with
 | nil=>rfl
 |
  cons x xs ih =>
  unfold join at ih ⊢
  cases xs with
  | nil=>simp[List.intercalate]
  |
   cons y ys =>
   rw[List.flatten_cons,←ih]
   simp[List.intercalate,List.intersperse]
end Go.PM
namespace Go.PM
abbrev aR (l:List UInt8):VV := .sc (.string ⟨l.toArray⟩)
theorem VT.yU {f:Nat} {p:List Value→aD→Option Value} {args:List VV} {r:VV} (hp:F4 f=some p) (h:∀(V:View) (dS:List Value),VL V args dS→∃pv,p dS V.P=some pv∧∀V',VR V' r pv):VT f args r:=by
 intro F P dS dN hF hl Yh
 obtain⟨pv,h1,h2⟩:=h (bare F P) dS hl
 have e:oP f dS dN P=some (pv,P):=by
  show call cfg gZ f dS dN P=some (pv,P)
  rw[Uc (E:=cfg) (T:=gZ) hp]
  have Ue:p dS P=some pv:=h1
  rw[Ue]
  rfl
 exact⟨P,pv,e,List.prefix_refl _,h2 _⟩
theorem TC.yU {f:Nat} {p:List Value→aD→Option Value} {args:List VV} {r:VV} (hp:F4 f=some p) (hr:CX.contains f=false) (ha:aK args=true) (Qi:gH r=true) (h:∀(V:View) (dS:List Value),VL V args dS→∃pv,p dS V.P=some pv∧∀V',VR V' r pv):TC f args r :=
 TC.of hr ha (Zw ha Qi (VT.yU hp h))
theorem VL.one {V:View} {x:Value} {ps:List Value} (h:VL V [.sc x] ps):ps=[x]:=by
 cases h with
 |
  cons _ v _ vs h hs =>
  cases h
  cases hs
  rfl
theorem VL.two {V:View} {x y:Value} {ps:List Value} (h:VL V [.sc x,.sc y] ps):ps=[x,y]:=by
 cases h with
 |
  cons _ v _ vs h hs =>
  cases h
  rw[hs.one]
theorem VL.three {V:View} {x y z:Value} {ps:List Value} (h:VL V [.sc x,.sc y,.sc z] ps):ps=[x,y,z]:=by
 cases h with
 |
  cons _ v _ vs h hs =>
  cases h
  rw[hs.two]
theorem SI (x:Nat) (h:x<4294967296):TC 219 [.sc (.int .u32 (x:Int))] (VI (32-(Lib.bitLen x:Int))):=by
 refine TC.yU (p:=A9) rfl rfl rfl rfl fun V ps hl => ?_
 rw[hl.one]
 unfold A9
 simp only
 rw[if_pos ⟨by omega,by omega⟩,Int.toNat_natCast]
 exact⟨_,rfl,fun _ => .sc _ rfl⟩
theorem abQ (n:Nat) (h:n<18446744073709551616):TC 184 [.sc (.int .u64 (n:Int)),VI 10] (aR (Lib.decDigits n)):=by
 refine TC.yU (p:=sC) rfl rfl rfl rfl fun V ps hl => ?_
 rw[hl.two]
 unfold sC
 simp only
 rw[if_pos ⟨trivial,by omega,by omega⟩,Int.toNat_natCast]
 exact⟨_,rfl,fun _ => .sc _ rfl⟩
theorem Vj (s:List UInt8) (c:Nat) (h:s.length*c≤140737488355328) (hc:c≤9223372036854775807):TC 103 [aR s,VI (c:Int)] (aR (Lib.repeatL s c)):=by
 refine TC.yU (p:=DV) rfl rfl rfl rfl fun V ps hl => ?_
 rw[hl.two]
 unfold DV
 simp only
 rw[if_pos ⟨by omega,by omega,by rw[Int.toNat_natCast];exact h⟩,Int.toNat_natCast]
 exact⟨_,rfl,fun _ => .sc _ rfl⟩
theorem CR {V:View}:∀ {xs:List (List UInt8)} {ps:List Value},VL V ((xs.map aR).flatMap aA) ps→strCells ps=some (xs.map fun x=>⟨x.toArray⟩)
 |
  [],ps,h=>by
  have h':VL V [] ps:=h
  cases h'
  rfl
 |
  x::xs,ps,h=>by
  rw[List.map_cons,List.flatMap_cons] at h
  have h':VL V (aR x::(xs.map aR).flatMap aA) ps:=h
  cases h' with
  |
   cons _ v _ vs h1 h2 =>
   cases h1
   rw[strCells,CR h2]
   rfl
theorem abY (xs:List (List UInt8)) (hx:xs.length≤140737488355328) (hlen:xs.flatten.length≤140737488355328):TC 186 [bT aR xs,aR []] (aR xs.flatten):=by
 refine TC.yU (p:=M6) rfl rfl (by simp only[aK,jA (f:=aR) (fun _=>rfl) (fun _=>rfl),Bool.and_true];rfl) rfl fun V ps hl => ?_
 cases hl with
 |
  cons _ v _ vs h hs =>
  rw[hs.one]
  have aaH:(xs.map fun x=>(⟨x.toArray⟩:ByteArray)).map (·.data.toList)=xs:=by
   rw[List.map_map]
   exact List.map_id' xs
  have jn:Lib.join ((xs.map fun x=>(⟨x.toArray⟩:ByteArray)).map (·.data.toList)) ([]:List UInt8)=xs.flatten:=by rw[aaH,PW]
  have h':VR V (.tree (xs.map aR) .op) v:=h
  clear h
  generalize JL:xs.map aR=es at h'
  cases h' with
  |
   nH k hk =>
   have:xs=[]:=List.map_eq_nil_iff.1 JL
   subst this
   exact⟨_,rfl,fun _ => .sc _ rfl⟩
  |
   tree _ k b o c r e p hF hb ho hc he hk hl =>
   subst JL
   by_cases h0:xs=[]
   ·subst h0
    exact⟨_,rfl,fun _ => .sc _ rfl⟩
   ·obtain⟨y,ys,rfl⟩:=List.exists_cons_of_ne_nil h0
    have e1:e=1:=(he (aR y) (by simp)).symm
    subst e1
    rw[Nat.mul_one] at ho hl
    have hr:V.P.read b o ((y::ys).map aR).length=some ((r.drop o).take ((y::ys).map aR).length):=by
     unfold aD.read
     rw[hb]
     simp only
     rw[if_pos ho]
    have hn:¬((y::ys).map aR).length=0:=by simp
    refine⟨.string ⟨(y::ys).flatten.toArray⟩,?_,fun _ => .sc _ rfl⟩
    unfold M6
    simp only[hn,if_false,hr,Option.bind_some,CR hl]
    rw[if_pos ⟨by simp,hc,by simpa using hx,by rw[jn];exact hlen⟩,jn]
theorem XT (s:List UInt8) (c:UInt8):TC 241 [aR s,aR [c]] (VI (Lib.indexByte s c)):=by
 refine TC.yU (p:=Mb) rfl rfl rfl rfl fun V ps hl => ?_
 rw[hl.two]
 exact⟨_,rfl,fun _ => .sc _ rfl⟩
theorem YX (s:List UInt8) (u:Nat) (hs:s.length≤9223372036854775806) (h:Lib.parseUintB 64 s = .ok u):TC 217 [aR s,VI 10,VI 64] (.eK [.sc (.int .u64 (u:Int)),.sc .nilIface]):=by
 refine TC.yU (p:=vZ) rfl rfl rfl rfl fun V ps hl => ?_
 rw[hl.three]
 unfold vZ
 simp only
 rw[if_pos ⟨trivial,trivial,hs⟩]
 have h':Lib.parseUintB 64 (⟨s.toArray⟩:ByteArray).data.toList = .ok u:=h
 rw[h']
 refine⟨_,rfl,fun V' => ?_⟩
 exact .eK _ _ (.cons _ _ _ _ (.sc _ rfl) (.cons _ _ _ _ (.sc _ rfl) .nil))
end Go.PM
namespace Go.PM
section
variable {b:Nat}
theorem Mm {α:Type} {pre gE post:List α} {o j:Nat} (ho:pre.length=o) (hj:j<gE.length):(pre++gE++post)[o+j]? = gE[j]? := by
 subst ho
 rw[List.append_assoc,List.getElem?_append_right (by omega),Nat.add_sub_cancel_left,List.getElem?_append_left hj]
theorem RX {α:Type} {pre gE post:List α} {o j:Nat} {v:α} (ho:pre.length=o) (hj:j<gE.length):(pre++gE++post).set (o+j) v=pre++gE.set j v++post:=by
 subst ho
 rw[List.append_assoc,List.set_append_right _ _ (by omega),Nat.add_sub_cancel_left,List.set_append_left _ _ hj,List.append_assoc]
theorem JA {xs:List Nat} {i d:Nat} (h:i<xs.length):(xs.set i d).drop (i+1)=xs.drop (i+1):=by
 rw[List.set_eq_take_append_cons_drop,if_pos h,List.drop_append]
 simp[Nat.min_eq_left (by omega:i≤xs.length)]
theorem W1 {U V W P V2 U3 g:Nat} (hV:V<(V2+1)*P) (hU:U3*P≤U) (hWP:W*P≤V) (hg:g≤W) (h:g*V2≤U3):g*V≤U+V:=by
 have h1:g*V≤g*((V2+1)*P):=Nat.mul_le_mul_left _ (by omega)
 have h2:g*((V2+1)*P)=g*V2*P+g*P:=by grind
 have h3:g*V2*P≤U3*P:=Nat.mul_le_mul_right _ h
 have h4:g*P≤W*P:=Nat.mul_le_mul_right _ hg
 omega
theorem Wx {U V P V2 U3 g q:Nat} (hP:0<P) (hV:V2*P≤V) (hU:U<(U3+1)*P) (hq:q*V≤U) (h:U3<g*V2):q<g:=by
 have h1:q*(V2*P)≤q*V:=Nat.mul_le_mul_left _ hV
 have h2:q*V2*P<(U3+1)*P:=by
  have:q*V2*P=q*(V2*P):=by grind
  omega
 have h3:q*V2<U3+1:=Nat.lt_of_mul_lt_mul_right h2
 have h4:q*V2<g*V2:=by omega
 exact Nat.lt_of_mul_lt_mul_right h4
theorem wQ {xs:List Nat} {n t:Nat} (hx:∀d∈xs,d<b) (hn:xs.length=n+1) (ht:xs[n]? = some t):t*b^n≤val b xs∧val b xs<(t+1)*b^n:=by
 have h1:=aS (b:=b) ht
 rw[List.take_of_length_le (by omega)] at h1
 have h2:=mT (b:=b) (xs:=xs.take n) fun d hd=>hx d (List.mem_of_mem_take hd)
 rw[List.length_take,Nat.min_eq_left (by omega)] at h2
 rw[Nat.add_mul,Nat.mul_comm t]
 omega
theorem AT {xs:List Nat} {n t u:Nat} (hx:∀d∈xs,d<b) (hn:xs.length=n+2) (ht:xs[n+1]? = some t) (hu:xs[n]? = some u):(t*b+u)*b^n≤val b xs∧val b xs<(t*b+u+1)*b^n:=by
 have h1:=aS (b:=b) ht
 rw[List.take_of_length_le (by omega),aS hu] at h1
 have h2:=mT (b:=b) (xs:=xs.take n) fun d hd=>hx d (List.mem_of_mem_take hd)
 rw[List.length_take,Nat.min_eq_left (by omega)] at h2
 have e:(t*b+u)*b^n=b^n*u+b^(n+1)*t:=by rw[Nat.pow_succ];grind
 rw[Nat.add_mul (t*b+u),e]
 omega
theorem NJ {xs:List Nat} {n t u v:Nat} (hx:∀d∈xs,d<b) (hn:xs.length=n+3) (ht:xs[n+2]? = some t) (hu:xs[n+1]? = some u) (hv:xs[n]? = some v):((t*b+u)*b+v)*b^n≤val b xs∧val b xs<((t*b+u)*b+v+1)*b^n:=by
 have h1:=aS (b:=b) ht
 rw[List.take_of_length_le (by omega),aS hu,aS hv] at h1
 have h2:=mT (b:=b) (xs:=xs.take n) fun d hd=>hx d (List.mem_of_mem_take hd)
 rw[List.length_take,Nat.min_eq_left (by omega)] at h2
 have e:((t*b+u)*b+v)*b^n=b^n*v+b^(n+1)*u+b^(n+2)*t:=by rw[Nat.pow_succ,Nat.pow_succ];grind
 rw[Nat.add_mul ((t*b+u)*b+v),e]
 omega
structure tC (b:Nat) (us vs:List Nat) (n u2 u1 u0 v1 v0:Nat):Prop where
 hb:2≤b
 Ll:∀d∈us,d<b
 KT:∀d∈vs,d<b
 PQ:us.length=n+3
 I2:vs.length=n+2
 e2:us[n+2]? = some u2
 e1:us[n+1]? = some u1
 e0:us[n]? = some u0
 f1:vs[n+1]? = some v1
 f0:vs[n]? = some v0
 pos:1≤v1
 less:val b us<b*val b vs
section
variable {us vs:List Nat} {n u2 u1 u0 v1 v0:Nat} (G:tC b us vs n u2 u1 u0 v1 v0)
include G
theorem tC.E2:0<val b vs:=by
 have h:=(AT G.KT G.I2 G.f1 G.f0).1
 have h1:0<(v1*b+v0)*b^n:=Nat.mul_pos (by have:=Nat.mul_pos G.pos (show 0<b by have:=G.hb;omega);omega) (Nat.pow_pos (by have:=G.hb;omega))
 omega
theorem tC.ZE:u2<b:=G.Ll _ (List.mem_of_getElem? G.e2)
theorem tC.VF:u1<b:=G.Ll _ (List.mem_of_getElem? G.e1)
theorem tC.Y9:u0<b:=G.Ll _ (List.mem_of_getElem? G.e0)
theorem tC.Sc:v1<b:=G.KT _ (List.mem_of_getElem? G.f1)
theorem tC.Xp:v0<b:=G.KT _ (List.mem_of_getElem? G.f0)
theorem tC.YR:val b us / val b vs<b:=(Nat.div_lt_iff_lt_mul G.E2).2 G.less
theorem tC.top:u2≤v1:=by
 have h1:=(wQ (n:=n+2) G.Ll G.PQ G.e2).1
 have h2:=(wQ (n:=n+1) G.KT G.I2 G.f1).2
 have h3:b*val b vs<b*((v1+1)*b^(n+1)):=Nat.mul_lt_mul_of_pos_left h2 (by have:=G.hb;omega)
 have h4:b*((v1+1)*b^(n+1))=(v1+1)*b^(n+2):=by rw[Nat.pow_succ b (n+1)];grind
 have h5:=G.less
 have h6:u2*b^(n+2)<(v1+1)*b^(n+2):=by omega
 have:=Nat.lt_of_mul_lt_mul_right h6
 omega
theorem tC.too {g left:Nat} (hh:u2*b+u1=g*v1+left) (h:left*b+u0<g*v0):val b us / val b vs<g:=by
 have hu:=(NJ G.Ll G.PQ G.e2 G.e1 G.e0).2
 have hv:=(AT G.KT G.I2 G.f1 G.f0).1
 refine Wx (P:=b^n) (V2:=v1*b+v0) (U3:=(u2*b+u1)*b+u0) (Nat.pow_pos (by have:=G.hb;omega)) hv hu (Nat.div_mul_le_self _ _) ?_
 rw[hh]
 have:(g*v1+left)*b+u0=g*v1*b+(left*b+u0):=by grind
 have:g*(v1*b+v0)=g*v1*b+g*v0:=by grind
 omega
theorem tC.Tk {g left:Nat} (hh:u2*b+u1=g*v1+left) (hg:g≤b) (h:g*v0≤left*b+u0):g≤val b us / val b vs+1:=by
 have hu:=(NJ G.Ll G.PQ G.e2 G.e1 G.e0).1
 have hv:=AT G.KT G.I2 G.f1 G.f0
 have h1:b*b^n≤val b vs:=by
  have:b*b^n≤(v1*b+v0)*b^n:=Nat.mul_le_mul_right _ (by have:=Nat.mul_le_mul_right b G.pos;omega)
  omega
 have h2:=W1 (U:=val b us) (V:=val b vs) (W:=b) (P:=b^n) (V2:=v1*b+v0) (U3:=(u2*b+u1)*b+u0) (g:=g) hv.2 hu h1 hg (by
  rw[hh]
  have:(g*v1+left)*b+u0=g*v1*b+(left*b+u0):=by grind
  have:g*(v1*b+v0)=g*v1*b+g*v0:=by grind
  omega)
 have h3:g≤(val b us+val b vs) / val b vs:=(Nat.le_div_iff_mul_le G.E2).2 h2
 rwa [Nat.add_div_right _ G.E2] at h3
theorem tC.broken {g left:Nat} (hh:u2*b+u1=g*v1+left) (h:b≤left):g<b∧g*v0≤left*b+u0:=by
 have h1:=G.top
 have h2:=G.VF
 have h3:u2*b≤v1*b:=Nat.mul_le_mul_right _ h1
 have h4:g*v1<b*v1:=by rw[Nat.mul_comm b];omega
 have hg:g<b:=Nat.lt_of_mul_lt_mul_right h4
 refine⟨hg,?_⟩
 have h5:=G.Xp
 have h6:g*v0≤b*b:=Nat.mul_le_mul (by omega) (by omega)
 have h7:b*b≤left*b:=Nat.mul_le_mul_right _ h
 omega
end
theorem TG {P A N T c l x y r W l' c' c1 lo t:Nat} (h:A+P*(c+l)=N+T) (h1:c1=c+t*y) (h2:c1=lo+W*c') (hd:r+lo+l=x+W*l'):(A+P*x)+P*W*(c'+l')=(N+P*r)+(T+P*(t*y)):=by
 subst h1
 have e:r+(c+t*y)+l=x+W*l'+W*c':=by omega
 have e2:P*(r+(c+t*y)+l)=P*(x+W*l'+W*c'):=by rw[e]
 grind
theorem Vh {S S' V t P cl:Nat} (h:S+P*cl=S'+t*V) (hS':S'<P) (hV:V≤P) (ht:t*V≤S+V):cl=0∨cl=1:=by
 rcases Nat.lt_or_ge cl 2 with h1 | h1
 ·omega
 ·have:P*2≤P*cl:=Nat.mul_le_mul_left _ h1
  omega
theorem Ws {S S1 S2 V t P c:Nat} (h1:S+P=S1+t*V) (h2:S1+V=S2+P*c) (hS2:S2<P) (hV:V≤P) (ht:t*V≤S+V) (hS:S<P) (aX:S<t*V):S2+t*V=S+V:=by
 have hc:c=1:=by
  rcases Nat.lt_or_ge c 1 with h | h
  ·have:c=0:=by omega
   subst this
   omega
  ·rcases Nat.lt_or_ge c 2 with h3 | h3
   ·omega
   ·have:P*2≤P*c:=Nat.mul_le_mul_left _ h3
    omega
 subst hc
 omega
end
end Go.PM