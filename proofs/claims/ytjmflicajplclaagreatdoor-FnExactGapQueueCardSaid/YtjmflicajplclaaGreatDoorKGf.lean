/- Texts of a claim, in one: part 6. -/
import Derived.Laws.Strings
import Derived.KernelRfl
import Derived.Test.YtjmflicajplclaaGreatDoorKGe
set_option linter.unusedSimpArgs false
set_option linter.unusedVariables false
namespace Go.PM
def room (n:Nat):Nat:=if n % 6=5 then 0 else if n % 3=0 then 1 else n
theorem room_le (n:Nat):room n≤n+1:=by unfold room;split<;>(try split)<;>omega
theorem rK (n:Nat):TC 63 [VI n] (VI (room n)):=by
 refine TC.walk ⟨true,false⟩ Gz rfl (Nat.le_of_ble_eq_true rfl) rfl rfl ?_
 have e1:dB .rem (.int .i64 (n:Int)) (.int .i64 6)=some (.int .i64 (n % 6:Nat)):=by rw[Qp (by decide)];rfl
 have e2:dB .rem (.int .i64 (n:Int)) (.int .i64 3)=some (.int .i64 (n % 3:Nat)):=by rw[Qp (by decide)];rfl
 by_cases h1:((n % 6:Nat):Int)=5
 ·simp only[pX,nF,e1,h1,VX,Nat.reduceEqDiff,Nat.reduceAdd]
  unfold room
  rw[if_pos (by omega)]
  exact aF rfl
 ·by_cases h2:((n % 3:Nat):Int)=0
  ·simp only[pX,nF,e1,e2,h1,h2,VX,Nat.reduceEqDiff,Nat.reduceAdd]
   unfold room
   rw[if_neg (by omega),if_pos (by omega)]
   exact aF rfl
  ·simp only[pX,nF,e1,e2,h1,h2,VX,Nat.reduceEqDiff,Nat.reduceAdd]
   unfold room
   rw[if_neg (by omega),if_neg (by omega)]
   exact aF rfl
abbrev nV (n:Int):VV := .sc (.int .i64 n)
abbrev aqZ (xs:List Int):VV:=aO nV xs
def iota (k:Int) (n:Nat):List Int:=(List.range n).map fun(j:Nat)=>k+(j:Int)
theorem Rf (k:Int) (n:Nat):(iota k n).length=n:=by simp[iota]
theorem HD {n g e:Nat} {es:List VV} {w:Bool} {K:aA}:aH (List.replicate n bT.dead ++ .row g es e w::K) n g=some (es,e,w):=Qy (by simp)
theorem aiE {n:Nat} {x y:bT} {K:aA}:(List.replicate n bT.dead++x::K).set n y=List.replicate n bT.dead++y::K:=by
 rw[List.set_append_right _ _ (by simp)]
 simp
theorem R7 {α:Type} (ys:List α) (k:Nat) (z x:α):(ys++List.replicate (k+1) z).set ys.length x=(ys++[x])++List.replicate k z:=by
 rw[List.set_append_right _ _ (Nat.le_refl _),Nat.sub_self,List.replicate_succ,List.set_cons_zero,List.append_assoc]
 rfl
def gB {α:Type} (fill:α) (xs:List α):List α:=xs++List.replicate (room xs.length) fill
theorem IF {α:Type} (fill:α) (xs:List α):(gB fill xs).length=xs.length+room xs.length:=by simp[gB]
theorem FW {α:Type} (fill:α) (xs:List α):(gB fill xs).take xs.length=xs:=by simp[gB]
def ToR {α:Type} (f:α→VV) (e:Nat) (fill:α) (xs:List α) (bare:Bool) (n:Nat) (r:VV) (L:aA):Prop :=
 (bare=true∧xs=[]∧r = .tree [] .nil∧L=[])∨(r = .ref n 0 0 xs.length (xs.length+room xs.length)∧L=[.row 0 ((gB fill xs).map f) e true])
theorem ToR.no {α:Type} {f:α→VV} {e:Nat} {fill:α} {xs:List α} {n:Nat} {r:VV} {L:aA} (h:ToR f e fill xs false n r L):r = .ref n 0 0 xs.length (xs.length+room xs.length)∧L=[.row 0 ((gB fill xs).map f) e true]:=by
 rcases h with h | h
 ·cases h.1
 ·exact h
theorem GH {α:Type} {f:α→VV} {n:Nat} (hf:∀x,eT n (f x)=true) (xs:List α):nP n (xs.map f)=true:=by
 rw[Dg]
 intro x hx
 obtain⟨y,_,rfl⟩:=List.mem_map.1 hx
 exact hf y
end Go.PM
namespace Go.PM
abbrev sV (s:ByteArray):VV := .sc (.string s)
theorem Hi:∀s:ByteArray,(aB (sV s)).length=1:=fun _=>rfl
abbrev fM (xs:List ByteArray):VV:=aO sV xs
theorem gO (xs:List ByteArray):aN (fM xs)=true:=jT Hi fun _=>rfl
def kJ:ByteArray:=⟨#[126,115,112,97,114,101,126]⟩
instance:Inhabited ByteArray:=⟨ByteArray.empty⟩
theorem acK {a b:ByteArray}:(a.toList == b.toList)=decide (a=b):=by
 by_cases h:a=b
 ·subst h;simp
 ·rw[decide_eq_false h,beq_eq_false_iff_ne]
  intro he
  apply h
  obtain⟨⟨x⟩⟩:=a
  obtain⟨⟨y⟩⟩:=b
  rw[ByteArray.toList_eq,ByteArray.toList_eq] at he
  simp at he
  rw[he]
theorem FQ {a b:ByteArray}:dB .neq (.string a) (.string b)=some (.bool (!decide (a=b))):=by
 rw[←acK];rfl
end Go.PM
namespace Go.PM
set_option maxHeartbeats 1000000 in
theorem Il (xs:List ByteArray) (bare:Bool) (hn:xs.length≤1000000000):FC 34 [fM xs,.sc (.bool bare)] (ToR sV 1 kJ xs bare):=by
 refine FC.walk ⟨true,false⟩ HK (Nat.le_of_ble_eq_true rfl) fun n => ?_
 have hr:=room_le xs.length
 by_cases hb:bare=true∧(xs.length:Int)=0
 ·obtain⟨rfl,h0⟩:=hb
  simp only[rC,oV,h0,VX,Nat.reduceEqDiff,Nat.reduceAdd]
  refine⟨[],by simp,rfl,rfl,.inl ⟨rfl,?_,rfl,rfl⟩⟩
  cases xs with
  | nil=>rfl
  | cons x xs=>simp at h0;omega
 have vJ:bare=true→¬(xs.length:Int)=0:=fun h h'=>hb ⟨h,h'⟩
 clear hb
 have w1:IntKind.i64.wrap ((xs.length:Int)+(room xs.length:Int))=((xs.length+room xs.length:Nat):Int):=wrapN _ (by omega) (by omega)
 have em:=qV (H:=List.replicate n bT.dead) (z:=[.string ⟨#[]⟩]) (bytes:=16) (n:=xs.length+room xs.length) (f:=sV) (x:=⟨#[]⟩) rfl (by omega) (by omega)
 rw[List.length_replicate] at em
 have main:∀ρ:dG,ρ 0=fM xs→ρ 5 = .ref n 0 0 (xs.length+room xs.length) (xs.length+room xs.length)→ρ 6=VI 0→∀Q:VQ,
   (∀bC:dG,bC 0=fM xs→bC 5 = .ref n 0 0 (xs.length+room xs.length) (xs.length+room xs.length)→Q (.exit 0) bC (List.replicate n bT.dead++[.row 0 ((xs++List.replicate (room xs.length) (⟨#[]⟩:ByteArray)).map sV) 1 true])) →
   VW ⟨true,false⟩ n (.loop nM) Q ρ (List.replicate n bT.dead++[.row 0 ((List.replicate (xs.length+room xs.length) (⟨#[]⟩:ByteArray)).map sV) 1 true]):=by
  intro ρ h0 h5 h6 Q hQ
  refine aQ (fun(i:Nat) ρ H=>i≤xs.length∧H=List.replicate n bT.dead++[.row 0 ((xs.take i++List.replicate (xs.length+room xs.length-i) (⟨#[]⟩:ByteArray)).map sV) 1 true]∧ρ 0=fM xs∧ρ 5 = .ref n 0 0 (xs.length+room xs.length) (xs.length+room xs.length)∧ρ 6=VI i) (fun i=>xs.length-i) 0 ⟨Nat.zero_le _,by simp,h0,h5,h6⟩ ?_
  rintro i ρ H ⟨hi,rfl,h0,h5,h6⟩
  by_cases cP:(i:Int)<(xs.length:Int)
  ·obtain⟨x,hx⟩:∃x,xs[i]? = some x:=⟨_,List.getElem?_eq_getElem (by omega)⟩
   have e1:=aI (f:=sV) (t := .op) (H:=List.replicate n bT.dead++[.row 0 ((xs.take i++List.replicate (xs.length+room xs.length-i) (⟨#[]⟩:ByteArray)).map sV) 1 true]) (size:=1) (k := .i64) hx rfl
   have e3:=aY (H:=List.replicate n bT.dead++[.row 0 ((xs.take i++List.replicate (xs.length+room xs.length-i) (⟨#[]⟩:ByteArray)).map sV) 1 true]) (b:=n) (g:=0) (o:=0) (n:=xs.length+room xs.length) (c:=xs.length+room xs.length) (i:=i) (k := .i64) HD (by omega)
   have bA:(xs.take i).length=i:=by simp;omega
   have e4:=fF (H:=List.replicate n bT.dead++[.row 0 ((xs.take i++List.replicate (xs.length+room xs.length-i) (⟨#[]⟩:ByteArray)).map sV) 1 true]) (f:=sV) (e:=1) (x:=x) (j:=i) (lo:=n) (b:=n) (g:=0) HD (by simp;omega) (Nat.le_refl _) rfl rfl
   have HX:=R7 (xs.take i) (xs.length+room xs.length-(i+1)) (⟨#[]⟩:ByteArray) x
   rw[bA,show xs.length+room xs.length-(i+1)+1=xs.length+room xs.length-i by omega] at HX
   have htk:xs.take i++[x]=xs.take (i+1):=by rw[List.take_add_one,hx];rfl
   rw[aiE,HX,htk] at e4
   have wi:IntKind.i64.wrap ((i:Int)+1)=((i+1:Nat):Int):=wrapN (i+1) (by omega) (by omega)
   simp only[nM,h0,h5,h6,cP,e1,e3,e4,wi,VX,Nat.reduceEqDiff,Nat.reduceAdd]
   exact⟨i+1,by omega,by omega,by (repeat' apply And.intro)<;>first | rfl | trivial⟩
  ·have nS:i=xs.length:=by omega
   subst nS
   simp only[nM,h0,h5,h6,cP,VX,Nat.reduceEqDiff,Nat.reduceAdd]
   rw[List.take_length,Nat.add_sub_cancel_left]
   exact hQ _ h0 h5
 have ahZ:∀ρ:dG,ρ 0=fM xs→ρ 5 = .ref n 0 0 (xs.length+room xs.length) (xs.length+room xs.length)→ρ 7=VI xs.length→∀Q:VQ,
   (∀bC:dG,bC 0=fM xs→bC 5 = .ref n 0 0 (xs.length+room xs.length) (xs.length+room xs.length)→Q (.exit 2) bC (List.replicate n bT.dead++[.row 0 ((gB kJ xs).map sV) 1 true])) →
   VW ⟨true,false⟩ n (.loop nL) Q ρ (List.replicate n bT.dead++[.row 0 ((xs++List.replicate (room xs.length) (⟨#[]⟩:ByteArray)).map sV) 1 true]):=by
  intro ρ h0 h5 h6 Q hQ
  refine aQ (fun(j:Nat) ρ H=>j≤room xs.length∧H=List.replicate n bT.dead++[.row 0 ((xs++List.replicate j kJ++List.replicate (room xs.length-j) (⟨#[]⟩:ByteArray)).map sV) 1 true]∧ρ 0=fM xs∧ρ 5 = .ref n 0 0 (xs.length+room xs.length) (xs.length+room xs.length)∧ρ 7=VI (xs.length+j:Nat)) (fun j=>room xs.length-j) 0 ⟨Nat.zero_le _,by simp,h0,h5,h6⟩ ?_
  rintro j ρ H ⟨hi,rfl,h0,h5,h6⟩
  have el:=dR (H:=List.replicate n bT.dead++[.row 0 ((xs++List.replicate j kJ++List.replicate (room xs.length-j) (⟨#[]⟩:ByteArray)).map sV) 1 true]) (b:=n) (g:=0) (o:=0) (n:=xs.length+room xs.length) (c:=xs.length+room xs.length) HD
  by_cases cP:((xs.length+j:Nat):Int)<((xs.length+room xs.length:Nat):Int)
  ·have e3:=aY (H:=List.replicate n bT.dead++[.row 0 ((xs++List.replicate j kJ++List.replicate (room xs.length-j) (⟨#[]⟩:ByteArray)).map sV) 1 true]) (b:=n) (g:=0) (o:=0) (n:=xs.length+room xs.length) (c:=xs.length+room xs.length) (i:=xs.length+j) (k := .i64) HD (by omega)
   have e4:=fF (H:=List.replicate n bT.dead++[.row 0 ((xs++List.replicate j kJ++List.replicate (room xs.length-j) (⟨#[]⟩:ByteArray)).map sV) 1 true]) (f:=sV) (e:=1) (x:=kJ) (j:=xs.length+j) (lo:=n) (b:=n) (g:=0) HD (by simp;omega) (Nat.le_refl _) rfl rfl
   have HX:=R7 (xs++List.replicate j kJ) (room xs.length-(j+1)) (⟨#[]⟩:ByteArray) kJ
   rw[show (xs++List.replicate j kJ).length=xs.length+j by simp,show room xs.length-(j+1)+1=room xs.length-j by omega,show xs++List.replicate j kJ++[kJ]=xs++List.replicate (j+1) kJ by rw[List.append_assoc,←List.replicate_succ']] at HX
   rw[aiE,HX] at e4
   have e4:bX n 1 (.ptr n 0 (xs.length+j) 0) (.sc (.string ⟨#[126,115,112,97,114,101,126]⟩)) _=_:=e4
   have wi:IntKind.i64.wrap (((xs.length+j:Nat):Int)+1)=((xs.length+(j+1):Nat):Int):=wrapN _ (by omega) (by omega)
   simp only[nL,h0,h5,h6,cP,el,e3,e4,wi,VX,Nat.reduceEqDiff,Nat.reduceAdd]
   exact⟨j+1,by omega,by omega,by (repeat' apply And.intro)<;>first | rfl | trivial⟩
  ·have nS:j=room xs.length:=by omega
   subst nS
   simp only[nL,h0,h5,h6,cP,el,VX,Nat.reduceEqDiff,Nat.reduceAdd]
   rw[Nat.sub_self,List.replicate_zero,List.append_nil]
   exact hQ _ h0 h5
 have fin:∀bC:dG,Ej 1 (.ref n 0 0 (xs.length+room xs.length) (xs.length+room xs.length)) none (some (VI xs.length)) none (List.replicate n bT.dead++[.row 0 ((gB kJ xs).map sV) 1 true])=some (.ref n 0 0 xs.length (xs.length+room xs.length)):=by
  intro _
  rw[uG HD (by omega)]
 cases bare with
 |
  true =>
  have hb0:=vJ rfl
  simp only[rC,oV,hb0,w1,em,rK,VX,Nat.reduceEqDiff,Nat.reduceAdd]
  refine main _ rfl rfl rfl _ fun bC h0 h5 => ?_
  simp only[h0,h5,VX,Nat.reduceEqDiff,Nat.reduceAdd]
  refine ahZ _ (by exact h0) (by exact h5) rfl _ fun Aw h0 h5 => ?_
  simp only[h0,h5,fin Aw,VX,Nat.reduceEqDiff,Nat.reduceAdd]
  refine⟨_,rfl,by simp[eT],by simp[dL,GH (f:=sV) (fun _=>rfl)],.inr ⟨rfl,rfl⟩⟩
 |
  false =>
  simp only[rC,oV,w1,em,rK,VX,Nat.reduceEqDiff,Nat.reduceAdd]
  refine main _ rfl rfl rfl _ fun bC h0 h5 => ?_
  simp only[h0,h5,VX,Nat.reduceEqDiff,Nat.reduceAdd]
  refine ahZ _ (by exact h0) (by exact h5) rfl _ fun Aw h0 h5 => ?_
  simp only[h0,h5,fin Aw,VX,Nat.reduceEqDiff,Nat.reduceAdd]
  refine⟨_,rfl,by simp[eT],by simp[dL,GH (f:=sV) (fun _=>rfl)],.inr ⟨rfl,rfl⟩⟩
theorem AE (xs ys:List ByteArray) (hn:xs.length≤1000000000):TC 100 [fM xs,fM ys] (.sc (.bool (decide (xs=ys)))):=by
 refine TC.walk ⟨true,false⟩ G4 rfl (Nat.le_of_ble_eq_true rfl) (by simp[aL,gO]) rfl ?_
 by_cases hl:(xs.length:Int)=(ys.length:Int)
 ·simp only[xA,tN,hl,VX,Nat.reduceEqDiff,Nat.reduceAdd]
  refine aQ (fun(i:Nat) ρ H=>i≤xs.length∧H=[]∧xs.take i=ys.take i∧ρ 0=fM xs∧ρ 1=fM ys∧ρ 5=VI i) (fun i=>xs.length-i) 0 ⟨Nat.zero_le _,rfl,by simp,rfl,rfl,rfl⟩ ?_
  rintro i ρ H ⟨hi,rfl,ht,h0,h1,h5⟩
  by_cases cP:(i:Int)<(xs.length:Int)
  ·obtain⟨x,hx⟩:∃x,xs[i]? = some x:=⟨_,List.getElem?_eq_getElem (by omega)⟩
   obtain⟨y,hy⟩:∃y,ys[i]? = some y:=⟨_,List.getElem?_eq_getElem (by omega)⟩
   have e1:=aI (f:=sV) (t := .op) (H:=[]) (size:=1) (k := .i64) hx rfl
   have e2:=aI (f:=sV) (t := .op) (H:=[]) (size:=1) (k := .i64) hy rfl
   have wi:IntKind.i64.wrap ((i:Int)+1)=((i+1:Nat):Int):=wrapN (i+1) (by omega) (by omega)
   by_cases Ag:x=y
   ·simp only[nD,FQ,h0,h1,h5,cP,e1,e2,Ag,wi,VX,Nat.reduceEqDiff,Nat.reduceAdd]
    refine⟨i+1,by omega,by omega,?_⟩
    rw[List.take_add_one,List.take_add_one,hx,hy,ht,Ag]
    (repeat' apply And.intro)<;>first | rfl | trivial
   ·simp only[nD,FQ,h0,h1,h5,cP,e1,e2,Ag,VX,Nat.reduceEqDiff,Nat.reduceAdd]
    have:¬xs=ys:=fun h=>Ag (by rw[h,hy] at hx;injection hx with hx;exact hx.symm)
    simp only[this,decide_false]
    exact aF rfl
  ·simp only[nD,h0,h1,h5,cP,VX,Nat.reduceEqDiff,Nat.reduceAdd]
   have:xs=ys:=by
    rw[List.take_of_length_le (by omega),List.take_of_length_le (by omega)] at ht
    exact ht
   simp only[this,decide_true]
   exact aF rfl
 ·simp only[xA,tN,hl,VX,Nat.reduceEqDiff,Nat.reduceAdd]
  have:¬xs=ys:=fun h=>hl (by rw[h])
  simp only[this,decide_false]
  exact aF rfl
theorem Df {lo b b':Nat} {H:aA} (xs:List ByteArray) (hn:xs.length≤400000000) (hX:aH H b 0=some ((gB kJ xs).map sV,1,true)) (hY:aH H b' 0=some ((gB kJ xs).map sV,1,true)) {K:VV→aA→Prop} (hk:K (.sc (.bool true)) H) :
  cT 36 [.ref b 0 0 xs.length (xs.length+room xs.length),.ref b' 0 0 xs.length (xs.length+room xs.length)] lo H K:=by
 refine gC rfl (jO.walk ⟨true,false⟩ CH (Nat.le_of_ble_eq_true rfl) ?_)
 have hr:=room_le xs.length
 have hf:=IF kJ xs
 have w1:IntKind.i64.wrap ((xs.length:Int)+(room xs.length:Int))=((xs.length+room xs.length:Nat):Int):=wrapN _ (by omega) (by omega)
 have l1:=dR (o:=0) (n:=xs.length) (c:=xs.length+room xs.length) hX
 have l2:=dR (o:=0) (n:=xs.length) (c:=xs.length+room xs.length) hY
 have e1:=uG (o:=0) (n:=xs.length) (c:=xs.length+room xs.length) (h:=xs.length+room xs.length) (k2 := .i64) hX (Nat.le_refl _)
 have e2:=uG (o:=0) (n:=xs.length) (c:=xs.length+room xs.length) (h:=xs.length+room xs.length) (k2 := .i64) hY (Nat.le_refl _)
 have f1:fz depth H (.ref b 0 0 (xs.length+room xs.length) (xs.length+room xs.length))=some (fM (gB kJ xs)):=Fb hX (by simp[hf]) (Nat.le_refl _) (eR fun _=>rfl)
 have f2:fz depth H (.ref b' 0 0 (xs.length+room xs.length) (xs.length+room xs.length))=some (fM (gB kJ xs)):=Fb hY (by simp[hf]) (Nat.le_refl _) (eR fun _=>rfl)
 have e3:=(AE (gB kJ xs) (gB kJ xs) (by omega)).flat (H:=H) rfl (by simp[aL,gO]) (fz2 f1 f2) rfl
 simp only[xY,uC,rK,l1,l2,w1,e1,e2,e3,eq_self,VX,Nat.reduceEqDiff,Nat.reduceAdd]
 exact hk
end Go.PM
namespace Go.PM
end Go.PM
namespace Go.PM
end Go.PM
namespace Go.PM
end Go.PM
namespace Go.PM
theorem fW {H L:aA} {b g:Nat} {x:List VV×Nat×Bool} (h:aH H b g=some x):aH (H++L) b g=some x:=by
 obtain⟨es,e,w⟩:=x
 rw[cL] at h ⊢
 rw[List.getElem?_append_left (List.getElem?_eq_some_iff.1 h).1]
 exact h
theorem CA {H L:aA} {i g e:Nat} {es:List VV} {w:Bool} (h:L[i]? = some (.row g es e w)):aH (H++L) (H.length+i) g=some (es,e,w):=by
 rw[cL,List.getElem?_append_right (Nat.le_add_right _ _),Nat.add_sub_cancel_left]
 exact h
theorem cG {H:aA} {b b' g:Nat} {x:bT} {y:List VV×Nat×Bool} (hn:b'≠b) (h:aH H b g=some y):aH (H.set b' x) b g=some y:=by
 obtain⟨es,e,w⟩:=y
 rw[cL] at h ⊢
 rw[List.getElem?_set_ne hn]
 exact h
theorem cS {H:aA} {b g e:Nat} {es:List VV} {w:Bool} {y:List VV×Nat×Bool} {g':Nat} (h:aH H b g'=some y):aH (H.set b (.row g es e w)) b g=some (es,e,w):=by
 obtain⟨lQ,e',w'⟩:=y
 rw[cL] at h ⊢
 rw[List.getElem?_set_self (List.getElem?_eq_some_iff.1 h).1]
theorem iR {H:aA} {b g:Nat} {x:List VV×Nat×Bool} (h:aH H b g=some x):b<H.length:=by
 obtain⟨es,e,w⟩:=x
 exact(List.getElem?_eq_some_iff.1 (cL.1 h)).1
end Go.PM
namespace Go.PM
def fX:aD:=(LS [LO 4 (.mv LF)] (LS [LM 5 0,LM 6 1,LO 7 (.call 141 [(LT 5),(LT 6)]),LO 8 (.bin .geq (LT 7) (LI 0)),LM 4 8] .ret))
def gJ:aR:=⟨9,[(.tmp 4)],fX⟩
theorem lY:gD 66=some gJ:=by kernel_rfl
def eK:aD:=(.seq (LS [LM 34 8,LM 35 7,LO 36 (.len (LT 35)),LO 37 (.bin .lss (LT 34) (LT 36))] (.cond (LT 37) .skip (.exit 0))) (.block 1 (.dH [LM 38 8,LM 39 7,LM 40 8,LO 41 (.sub 3 (LT 39) (some (LT 40)) none none),LM 42 7,LM 43 8,LO 44 (.sub 3 (LT 42) none (some (LT 43)) none),LO 45 (.copy 3 (LT 41) (LT 44)),LO 46 (.bin .add (LT 38) (LT 45)),LM 8 46])))
def iM:aD:=(LS [LO 4 (.mv (.const (.slice none 0 0)))] (.seq (LS [LM 9 1,LO 10 (.bin .lss (LT 9) (LI 0))] (.cond (LT 10) (.dH [LO 11 .die,LN .die]) .skip)) (LS [LM 13 0,LO 14 (.len (LT 13)),LO 15 (.cvt .u64 (LT 14)),LM 16 1,LO 17 (.cvt .u64 (LT 16)),LO 18 (.call 187 [(LT 15),(LT 17)]),LM 12 18,LO 19 (LX 12 0),LO 20 (LX 12 1),LM 5 19,LM 6 20] (.seq (LS [LM 21 5,LO 22 (.bin .gtr (LT 21) (.const (.int .u64 0))),LM 23 22,LZ 23 24 (.mv (LT 6)),LZ 23 25 (.bin .gtr (LT 24) (.const (.int .u64 9223372036854775807))),LO 26 (.pick (LT 23) LG (LT 25))] (.cond (LT 26) (.dH [LO 27 .die,LN .die]) .skip)) (LS [LM 28 6,LO 29 (.cvt .i64 (LT 28)),LO 30 (.make [(.bool false),(.slice none 0 0),(.slice none 0 0)] 56 (LT 29) (LT 29)),LM 7 30] (LS [LM 31 7,LM 32 0,LO 33 (.copy 3 (LT 31) (LT 32)),LM 8 33] (.seq (.block 0 (.loop eK)) (LS [LM 47 7,LM 4 47] .ret))))))))
def jA:aR:=⟨48,[(.tmp 4)],iM⟩
theorem pI:gD 162=some jA:=by kernel_rfl
def cN:aD:=(LS [LO 9 (.bin .lss (LT 8) (LT 7))] (.seq (.cond (LT 9) .skip (.exit 0)) (.seq (.block 1 (LS [LM 10 8,LM 5 10] (LS [LM 11 1,LM 12 0,LM 13 5,LO 14 (.iaddr 3 (LT 12) (LT 13)),LO 15 (LK 14),LO 16 (.callv (LT 11) [(LT 15)])] (.cond (LT 16) (LS [LM 17 5,LM 4 17] .ret) .skip)))) (.dH [LO 18 (.bin .add (LT 8) (LI 1)),LM 8 18]))))
def gQ:aD:=(LS [LO 4 (.mv (LI 0))] (.seq (LS [LM 6 0,LO 7 (.len (LT 6)),LO 8 (.mv (LI 0))] (.block 0 (.loop cN))) (LS [LO 4 (.mv (LI (-1)))] .ret)))
def iE:aR:=⟨19,[(.tmp 4)],gQ⟩
theorem nQ:gD 141=some iE:=by kernel_rfl
def BU:aD:=(LS [LO 4 (.mv (.const (.int .u64 0))),LO 5 (.mv (.const (.int .u64 0)))] (.seq (.cond LF (LS [LM 11 0,LO 12 (.cvt .u32 (LT 11)),LM 13 1,LO 14 (.cvt .u32 (LT 13)),LO 15 (.call 206 [(LT 12),(LT 14)]),LM 10 15,LO 16 (LX 10 0),LO 17 (LX 10 1),LM 6 16,LM 7 17] (LS [LM 18 6,LO 19 (.cvt .u64 (LT 18)),LM 20 7,LO 21 (.cvt .u64 (LT 20)),LM 4 19,LM 5 21] .ret)) .skip) (LS [LM 23 0,LM 24 1,LO 25 (.call 207 [(LT 23),(LT 24)]),LM 22 25,LO 26 (LX 22 0),LO 27 (LX 22 1),LM 8 26,LM 9 27] (LS [LM 28 8,LM 29 9,LM 4 28,LM 5 29] .ret))))
def EJ:aR:=⟨30,[(.tmp 4),(.tmp 5)],BU⟩
theorem JB:gD 187=some EJ:=by kernel_rfl
def Ey:aD:=(LS [LO 4 (.mv (.const (.string ⟨#[]⟩))),LO 5 (.mv (.const (.string ⟨#[]⟩))),LO 6 (.mv LF)] (LS [LM 7 0,LM 8 1,LO 9 (.call 190 [(LT 7),(LT 8)]),LO 10 (LX 9 0),LO 11 (LX 9 1),LO 12 (LX 9 2),LM 4 10,LM 5 11,LM 6 12] .ret))
def I7:aR:=⟨13,[(.tmp 4),(.tmp 5),(.tmp 6)],Ey⟩
theorem ME:gD 172=some I7:=by kernel_rfl
def vD:aD:=(LS [LO 4 (.mv (.const (.string ⟨#[]⟩))),LO 5 (.mv LF)] (LS [LM 6 0,LM 7 1,LO 8 (.call 191 [(LT 6),(LT 7)]),LO 9 (LX 8 0),LO 10 (LX 8 1),LM 4 9,LM 5 10] .ret))
def yS:aR:=⟨11,[(.tmp 4),(.tmp 5)],vD⟩
theorem Ea:gD 173=some yS:=by kernel_rfl
def fG:aD:=(.seq (LS [LM 7 2,LM 8 3,LO 9 (.bin .lss (LT 7) (LT 8))] (.cond (LT 9) .skip (.exit 0))) (.seq (.block 1 (.dH [LM 14 0,LM 15 2,LM 16 0,LM 17 3,LM 18 0,LM 19 3,LO 20 (.iaddr 1 (LT 18) (LT 19)),LO 21 (LL 20),LM 22 0,LM 23 2,LO 24 (.iaddr 1 (LT 22) (LT 23)),LO 25 (LL 24),LO 26 (.iaddr 1 (LT 14) (LT 15)),LN (.store 1 (LT 26) (LT 21)),LO 27 (.iaddr 1 (LT 16) (LT 17)),LN (.store 1 (LT 27) (LT 25))])) (.dH [LM 10 2,LO 11 (.bin .add (LT 10) (LI 1)),LM 12 3,LO 13 (.bin .sub (LT 12) (LI 1)),LM 2 11,LM 3 13])))
def jN:aD:=(LS [LM 4 0,LO 5 (.len (LT 4)),LO 6 (.bin .sub (LT 5) (LI 1)),LO 2 (.mv (LI 0)),LM 3 6] (.block 0 (.loop fG)))
def kK:aR:=⟨28,[],jN⟩
theorem qY:gD 216=some kK:=by kernel_rfl
def zK:aD:=(LS [LO 4 (.mv (.const (.int .u64 0))),LO 5 (.mv (.const (.int .u64 0)))] (LS [LM 14 0,LO 15 (.bin .and (LT 14) (.const (.int .u64 4294967295))),LM 6 15] (LS [LM 16 0,LO 17 (.bin .shr (LT 16) (.const (.int .u64 32))),LM 7 17] (LS [LM 18 1,LO 19 (.bin .and (LT 18) (.const (.int .u64 4294967295))),LM 8 19] (LS [LM 20 1,LO 21 (.bin .shr (LT 20) (.const (.int .u64 32))),LM 9 21] (LS [LM 22 6,LM 23 8,LO 24 (.bin .mul (LT 22) (LT 23)),LM 10 24] (LS [LM 25 7,LM 26 8,LO 27 (.bin .mul (LT 25) (LT 26)),LM 28 10,LO 29 (.bin .shr (LT 28) (.const (.int .u64 32))),LO 30 (.bin .add (LT 27) (LT 29)),LM 11 30] (LS [LM 31 11,LO 32 (.bin .and (LT 31) (.const (.int .u64 4294967295))),LM 12 32] (LS [LM 33 11,LO 34 (.bin .shr (LT 33) (.const (.int .u64 32))),LM 13 34] (LS [LM 35 12,LM 36 6,LM 37 9,LO 38 (.bin .mul (LT 36) (LT 37)),LO 39 (.bin .add (LT 35) (LT 38)),LM 12 39] (LS [LM 40 7,LM 41 9,LO 42 (.bin .mul (LT 40) (LT 41)),LM 43 13,LO 44 (.bin .add (LT 42) (LT 43)),LM 45 12,LO 46 (.bin .shr (LT 45) (.const (.int .u64 32))),LO 47 (.bin .add (LT 44) (LT 46)),LM 4 47] (LS [LM 48 0,LM 49 1,LO 50 (.bin .mul (LT 48) (LT 49)),LM 5 50] .ret))))))))))))
def BZ:aR:=⟨51,[(.tmp 4),(.tmp 5)],zK⟩
theorem GK:gD 207=some BZ:=by kernel_rfl
def jH:aD:=(LS [LO 4 (.mv (.const (.string ⟨#[]⟩))),LO 5 (.mv (.const (.string ⟨#[]⟩))),LO 6 (.mv LF)] (.seq (LS [LM 8 0,LM 9 1,LO 10 (.call 209 [(LT 8),(LT 9)]),LM 7 10] (LS [LM 11 7,LO 12 (.bin .geq (LT 11) (LI 0))] (.cond (LT 12) (LS [LM 13 0,LM 14 7,LO 15 (.ssub (LT 13) none (some (LT 14))),LM 16 0,LM 17 7,LM 18 1,LO 19 (.slen (LT 18)),LO 20 (.bin .add (LT 17) (LT 19)),LO 21 (.ssub (LT 16) (some (LT 20)) none),LM 4 15,LM 5 21,LO 6 (.mv LG)] .ret) .skip))) (LS [LM 22 0,LM 4 22,LO 5 (.mv (.const (.string ⟨#[]⟩))),LO 6 (.mv LF)] .ret)))
def kI:aR:=⟨23,[(.tmp 4),(.tmp 5),(.tmp 6)],jH⟩
theorem yD:gD 190=some kI:=by kernel_rfl
def fR:aD:=(LS [LO 4 (.mv (.const (.string ⟨#[]⟩))),LO 5 (.mv LF)] (.seq (LS [LM 6 0,LM 7 1,LO 8 (.call 210 [(LT 6),(LT 7)]),LO 9 (.un .not (LT 8))] (.cond (LT 9) (LS [LM 10 0,LM 4 10,LO 5 (.mv LF)] .ret) .skip)) (LS [LM 11 0,LM 12 1,LO 13 (.slen (LT 12)),LO 14 (.ssub (LT 11) (some (LT 13)) none),LM 4 14,LO 5 (.mv LG)] .ret)))
def gK:aR:=⟨15,[(.tmp 4),(.tmp 5)],fR⟩
theorem sD:gD 191=some gK:=by kernel_rfl
def gA:aD:=(LS [LO 4 (.mv LF)] (LS [LM 5 0,LO 6 (.slen (LT 5)),LM 7 1,LO 8 (.slen (LT 7)),LO 9 (.bin .geq (LT 6) (LT 8)),LM 10 9,LY 10 11 (.mv (LT 0)),LY 10 12 (.mv (LT 1)),LY 10 13 (.slen (LT 12)),LY 10 14 (.ssub (LT 11) none (some (LT 13))),LY 10 15 (.mv (LT 1)),LY 10 16 (.bin .eql (LT 14) (LT 15)),LO 17 (.pick (LT 10) (LT 16) LF),LM 4 17] .ret))
def gN:aR:=⟨18,[(.tmp 4)],gA⟩
theorem sG:gD 210=some gN:=by kernel_rfl
def zU:aD:=(LS [LO 2 (.mv (.const (.string ⟨#[]⟩)))] (.seq (LS [LM 3 0,LO 4 (.bin .lss (LT 3) (LI 10))] (.cond (LT 4) (LS [LM 5 0,LM 6 0,LO 7 (.bin .add (LT 6) (LI 1)),LO 8 (.ssub (.const (.string ⟨#[48,49,50,51,52,53,54,55,56,57,97,98,99,100,101,102,103,104,105,106,107,108,109,110,111,112,113,114,115,116,117,118,119,120,121,122]⟩)) (some (LT 5)) (some (LT 7))),LM 2 8] .ret) .skip)) (LS [LM 9 0,LO 10 (.bin .mul (LT 9) (LI 2)),LM 11 0,LO 12 (.bin .mul (LT 11) (LI 2)),LO 13 (.bin .add (LT 12) (LI 2)),LO 14 (.ssub (.const (.string ⟨#[48,48,48,49,48,50,48,51,48,52,48,53,48,54,48,55,48,56,48,57,49,48,49,49,49,50,49,51,49,52,49,53,49,54,49,55,49,56,49,57,50,48,50,49,50,50,50,51,50,52,50,53,50,54,50,55,50,56,50,57,51,48,51,49,51,50,51,51,51,52,51,53,51,54,51,55,51,56,51,57,52,48,52,49,52,50,52,51,52,52,52,53,52,54,52,55,52,56,52,57,53,48,53,49,53,50,53,51,53,52,53,53,53,54,53,55,53,56,53,57,54,48,54,49,54,50,54,51,54,52,54,53,54,54,54,55,54,56,54,57,55,48,55,49,55,50,55,51,55,52,55,53,55,54,55,55,55,56,55,57,56,48,56,49,56,50,56,51,56,52,56,53,56,54,56,55,56,56,56,57,57,48,57,49,57,50,57,51,57,52,57,53,57,54,57,55,57,56,57,57]⟩)) (some (LT 10)) (some (LT 13))),LM 2 14] .ret)))
def internal_strconv_small:aR:=⟨15,[(.tmp 2)],zU⟩
def sH:aD:=(.seq (LS [LM 19 4,LO 20 (.bin .geq (LT 19) (LI 8))] (.cond (LT 20) .skip (.exit 0))) (.block 1 (LS [LM 21 1,LO 22 (.bin .rem (LT 21) (.const (.int .u64 100000000))),LO 23 (.cvt .u32 (LT 22)),LM 5 23] (LS [LM 24 1,LO 25 (.bin .quo (LT 24) (.const (.int .u64 100000000))),LM 1 25] (LS [LM 26 5,LO 27 (.bin .quo (LT 26) (.const (.int .u32 10000))),LM 28 5,LO 29 (.bin .rem (LT 28) (.const (.int .u32 10000))),LM 6 27,LM 7 29] (LS [LM 30 7,LO 31 (.bin .quo (LT 30) (.const (.int .u32 100))),LO 32 (.bin .mul (LT 31) (.const (.int .u32 2))),LM 33 7,LO 34 (.bin .rem (LT 33) (.const (.int .u32 100))),LO 35 (.bin .mul (LT 34) (.const (.int .u32 2))),LM 8 32,LM 9 35] (LS [LM 36 6,LO 37 (.bin .quo (LT 36) (.const (.int .u32 100))),LO 38 (.bin .mul (LT 37) (.const (.int .u32 2))),LM 39 6,LO 40 (.bin .rem (LT 39) (.const (.int .u32 100))),LO 41 (.bin .mul (LT 40) (.const (.int .u32 2))),LM 10 38,LM 11 41] (LS [LM 42 0,LM 43 4,LO 44 (.bin .sub (LT 43) (LI 1)),LM 45 0,LM 46 4,LO 47 (.bin .sub (LT 46) (LI 2)),LM 48 9,LO 49 (.bin .add (LT 48) (.const (.int .u32 1))),LO 50 (.sidx (.const (.string ⟨#[48,48,48,49,48,50,48,51,48,52,48,53,48,54,48,55,48,56,48,57,49,48,49,49,49,50,49,51,49,52,49,53,49,54,49,55,49,56,49,57,50,48,50,49,50,50,50,51,50,52,50,53,50,54,50,55,50,56,50,57,51,48,51,49,51,50,51,51,51,52,51,53,51,54,51,55,51,56,51,57,52,48,52,49,52,50,52,51,52,52,52,53,52,54,52,55,52,56,52,57,53,48,53,49,53,50,53,51,53,52,53,53,53,54,53,55,53,56,53,57,54,48,54,49,54,50,54,51,54,52,54,53,54,54,54,55,54,56,54,57,55,48,55,49,55,50,55,51,55,52,55,53,55,54,55,55,55,56,55,57,56,48,56,49,56,50,56,51,56,52,56,53,56,54,56,55,56,56,56,57,57,48,57,49,57,50,57,51,57,52,57,53,57,54,57,55,57,56,57,57]⟩)) (LT 49)),LM 51 9,LO 52 (.sidx (.const (.string ⟨#[48,48,48,49,48,50,48,51,48,52,48,53,48,54,48,55,48,56,48,57,49,48,49,49,49,50,49,51,49,52,49,53,49,54,49,55,49,56,49,57,50,48,50,49,50,50,50,51,50,52,50,53,50,54,50,55,50,56,50,57,51,48,51,49,51,50,51,51,51,52,51,53,51,54,51,55,51,56,51,57,52,48,52,49,52,50,52,51,52,52,52,53,52,54,52,55,52,56,52,57,53,48,53,49,53,50,53,51,53,52,53,53,53,54,53,55,53,56,53,57,54,48,54,49,54,50,54,51,54,52,54,53,54,54,54,55,54,56,54,57,55,48,55,49,55,50,55,51,55,52,55,53,55,54,55,55,55,56,55,57,56,48,56,49,56,50,56,51,56,52,56,53,56,54,56,55,56,56,56,57,57,48,57,49,57,50,57,51,57,52,57,53,57,54,57,55,57,56,57,57]⟩)) (LT 51)),LO 53 (.iaddr 1 (LT 42) (LT 44)),LN (.store 1 (LT 53) (LT 50)),LO 54 (.iaddr 1 (LT 45) (LT 47)),LN (.store 1 (LT 54) (LT 52))] (LS [LM 55 0,LM 56 4,LO 57 (.bin .sub (LT 56) (LI 3)),LM 58 0,LM 59 4,LO 60 (.bin .sub (LT 59) (LI 4)),LM 61 8,LO 62 (.bin .add (LT 61) (.const (.int .u32 1))),LO 63 (.sidx (.const (.string ⟨#[48,48,48,49,48,50,48,51,48,52,48,53,48,54,48,55,48,56,48,57,49,48,49,49,49,50,49,51,49,52,49,53,49,54,49,55,49,56,49,57,50,48,50,49,50,50,50,51,50,52,50,53,50,54,50,55,50,56,50,57,51,48,51,49,51,50,51,51,51,52,51,53,51,54,51,55,51,56,51,57,52,48,52,49,52,50,52,51,52,52,52,53,52,54,52,55,52,56,52,57,53,48,53,49,53,50,53,51,53,52,53,53,53,54,53,55,53,56,53,57,54,48,54,49,54,50,54,51,54,52,54,53,54,54,54,55,54,56,54,57,55,48,55,49,55,50,55,51,55,52,55,53,55,54,55,55,55,56,55,57,56,48,56,49,56,50,56,51,56,52,56,53,56,54,56,55,56,56,56,57,57,48,57,49,57,50,57,51,57,52,57,53,57,54,57,55,57,56,57,57]⟩)) (LT 62)),LM 64 8,LO 65 (.sidx (.const (.string ⟨#[48,48,48,49,48,50,48,51,48,52,48,53,48,54,48,55,48,56,48,57,49,48,49,49,49,50,49,51,49,52,49,53,49,54,49,55,49,56,49,57,50,48,50,49,50,50,50,51,50,52,50,53,50,54,50,55,50,56,50,57,51,48,51,49,51,50,51,51,51,52,51,53,51,54,51,55,51,56,51,57,52,48,52,49,52,50,52,51,52,52,52,53,52,54,52,55,52,56,52,57,53,48,53,49,53,50,53,51,53,52,53,53,53,54,53,55,53,56,53,57,54,48,54,49,54,50,54,51,54,52,54,53,54,54,54,55,54,56,54,57,55,48,55,49,55,50,55,51,55,52,55,53,55,54,55,55,55,56,55,57,56,48,56,49,56,50,56,51,56,52,56,53,56,54,56,55,56,56,56,57,57,48,57,49,57,50,57,51,57,52,57,53,57,54,57,55,57,56,57,57]⟩)) (LT 64)),LO 66 (.iaddr 1 (LT 55) (LT 57)),LN (.store 1 (LT 66) (LT 63)),LO 67 (.iaddr 1 (LT 58) (LT 60)),LN (.store 1 (LT 67) (LT 65))] (LS [LM 68 0,LM 69 4,LO 70 (.bin .sub (LT 69) (LI 5)),LM 71 0,LM 72 4,LO 73 (.bin .sub (LT 72) (LI 6)),LM 74 11,LO 75 (.bin .add (LT 74) (.const (.int .u32 1))),LO 76 (.sidx (.const (.string ⟨#[48,48,48,49,48,50,48,51,48,52,48,53,48,54,48,55,48,56,48,57,49,48,49,49,49,50,49,51,49,52,49,53,49,54,49,55,49,56,49,57,50,48,50,49,50,50,50,51,50,52,50,53,50,54,50,55,50,56,50,57,51,48,51,49,51,50,51,51,51,52,51,53,51,54,51,55,51,56,51,57,52,48,52,49,52,50,52,51,52,52,52,53,52,54,52,55,52,56,52,57,53,48,53,49,53,50,53,51,53,52,53,53,53,54,53,55,53,56,53,57,54,48,54,49,54,50,54,51,54,52,54,53,54,54,54,55,54,56,54,57,55,48,55,49,55,50,55,51,55,52,55,53,55,54,55,55,55,56,55,57,56,48,56,49,56,50,56,51,56,52,56,53,56,54,56,55,56,56,56,57,57,48,57,49,57,50,57,51,57,52,57,53,57,54,57,55,57,56,57,57]⟩)) (LT 75)),LM 77 11,LO 78 (.sidx (.const (.string ⟨#[48,48,48,49,48,50,48,51,48,52,48,53,48,54,48,55,48,56,48,57,49,48,49,49,49,50,49,51,49,52,49,53,49,54,49,55,49,56,49,57,50,48,50,49,50,50,50,51,50,52,50,53,50,54,50,55,50,56,50,57,51,48,51,49,51,50,51,51,51,52,51,53,51,54,51,55,51,56,51,57,52,48,52,49,52,50,52,51,52,52,52,53,52,54,52,55,52,56,52,57,53,48,53,49,53,50,53,51,53,52,53,53,53,54,53,55,53,56,53,57,54,48,54,49,54,50,54,51,54,52,54,53,54,54,54,55,54,56,54,57,55,48,55,49,55,50,55,51,55,52,55,53,55,54,55,55,55,56,55,57,56,48,56,49,56,50,56,51,56,52,56,53,56,54,56,55,56,56,56,57,57,48,57,49,57,50,57,51,57,52,57,53,57,54,57,55,57,56,57,57]⟩)) (LT 77)),LO 79 (.iaddr 1 (LT 68) (LT 70)),LN (.store 1 (LT 79) (LT 76)),LO 80 (.iaddr 1 (LT 71) (LT 73)),LN (.store 1 (LT 80) (LT 78))] (LS [LM 81 0,LM 82 4,LO 83 (.bin .sub (LT 82) (LI 7)),LM 84 0,LM 85 4,LO 86 (.bin .sub (LT 85) (LI 8)),LM 87 10,LO 88 (.bin .add (LT 87) (.const (.int .u32 1))),LO 89 (.sidx (.const (.string ⟨#[48,48,48,49,48,50,48,51,48,52,48,53,48,54,48,55,48,56,48,57,49,48,49,49,49,50,49,51,49,52,49,53,49,54,49,55,49,56,49,57,50,48,50,49,50,50,50,51,50,52,50,53,50,54,50,55,50,56,50,57,51,48,51,49,51,50,51,51,51,52,51,53,51,54,51,55,51,56,51,57,52,48,52,49,52,50,52,51,52,52,52,53,52,54,52,55,52,56,52,57,53,48,53,49,53,50,53,51,53,52,53,53,53,54,53,55,53,56,53,57,54,48,54,49,54,50,54,51,54,52,54,53,54,54,54,55,54,56,54,57,55,48,55,49,55,50,55,51,55,52,55,53,55,54,55,55,55,56,55,57,56,48,56,49,56,50,56,51,56,52,56,53,56,54,56,55,56,56,56,57,57,48,57,49,57,50,57,51,57,52,57,53,57,54,57,55,57,56,57,57]⟩)) (LT 88)),LM 90 10,LO 91 (.sidx (.const (.string ⟨#[48,48,48,49,48,50,48,51,48,52,48,53,48,54,48,55,48,56,48,57,49,48,49,49,49,50,49,51,49,52,49,53,49,54,49,55,49,56,49,57,50,48,50,49,50,50,50,51,50,52,50,53,50,54,50,55,50,56,50,57,51,48,51,49,51,50,51,51,51,52,51,53,51,54,51,55,51,56,51,57,52,48,52,49,52,50,52,51,52,52,52,53,52,54,52,55,52,56,52,57,53,48,53,49,53,50,53,51,53,52,53,53,53,54,53,55,53,56,53,57,54,48,54,49,54,50,54,51,54,52,54,53,54,54,54,55,54,56,54,57,55,48,55,49,55,50,55,51,55,52,55,53,55,54,55,55,55,56,55,57,56,48,56,49,56,50,56,51,56,52,56,53,56,54,56,55,56,56,56,57,57,48,57,49,57,50,57,51,57,52,57,53,57,54,57,55,57,56,57,57]⟩)) (LT 90)),LO 92 (.iaddr 1 (LT 81) (LT 83)),LN (.store 1 (LT 92) (LT 89)),LO 93 (.iaddr 1 (LT 84) (LT 86)),LN (.store 1 (LT 93) (LT 91))] (.dH [LM 94 4,LO 95 (.bin .sub (LT 94) (LI 8)),LM 4 95]))))))))))))
def sO:aD:=(LS [LM 17 0,LO 18 (.len (LT 17)),LM 4 18] (.seq (.block 0 (.loop sH)) (LS [LM 96 1,LO 97 (.cvt .u32 (LT 96)),LM 12 97] (.seq (LS [LM 98 4,LO 99 (.bin .geq (LT 98) (LI 4))] (.cond (LT 99) (LS [LM 100 12,LO 101 (.bin .rem (LT 100) (.const (.int .u32 10000))),LM 13 101] (LS [LM 102 12,LO 103 (.bin .quo (LT 102) (.const (.int .u32 10000))),LM 12 103] (LS [LM 104 13,LO 105 (.bin .quo (LT 104) (.const (.int .u32 100))),LO 106 (.bin .mul (LT 105) (.const (.int .u32 2))),LM 107 13,LO 108 (.bin .rem (LT 107) (.const (.int .u32 100))),LO 109 (.bin .mul (LT 108) (.const (.int .u32 2))),LM 14 106,LM 15 109] (LS [LM 110 0,LM 111 4,LO 112 (.bin .sub (LT 111) (LI 1)),LM 113 0,LM 114 4,LO 115 (.bin .sub (LT 114) (LI 2)),LM 116 15,LO 117 (.bin .add (LT 116) (.const (.int .u32 1))),LO 118 (.sidx (.const (.string ⟨#[48,48,48,49,48,50,48,51,48,52,48,53,48,54,48,55,48,56,48,57,49,48,49,49,49,50,49,51,49,52,49,53,49,54,49,55,49,56,49,57,50,48,50,49,50,50,50,51,50,52,50,53,50,54,50,55,50,56,50,57,51,48,51,49,51,50,51,51,51,52,51,53,51,54,51,55,51,56,51,57,52,48,52,49,52,50,52,51,52,52,52,53,52,54,52,55,52,56,52,57,53,48,53,49,53,50,53,51,53,52,53,53,53,54,53,55,53,56,53,57,54,48,54,49,54,50,54,51,54,52,54,53,54,54,54,55,54,56,54,57,55,48,55,49,55,50,55,51,55,52,55,53,55,54,55,55,55,56,55,57,56,48,56,49,56,50,56,51,56,52,56,53,56,54,56,55,56,56,56,57,57,48,57,49,57,50,57,51,57,52,57,53,57,54,57,55,57,56,57,57]⟩)) (LT 117)),LM 119 15,LO 120 (.sidx (.const (.string ⟨#[48,48,48,49,48,50,48,51,48,52,48,53,48,54,48,55,48,56,48,57,49,48,49,49,49,50,49,51,49,52,49,53,49,54,49,55,49,56,49,57,50,48,50,49,50,50,50,51,50,52,50,53,50,54,50,55,50,56,50,57,51,48,51,49,51,50,51,51,51,52,51,53,51,54,51,55,51,56,51,57,52,48,52,49,52,50,52,51,52,52,52,53,52,54,52,55,52,56,52,57,53,48,53,49,53,50,53,51,53,52,53,53,53,54,53,55,53,56,53,57,54,48,54,49,54,50,54,51,54,52,54,53,54,54,54,55,54,56,54,57,55,48,55,49,55,50,55,51,55,52,55,53,55,54,55,55,55,56,55,57,56,48,56,49,56,50,56,51,56,52,56,53,56,54,56,55,56,56,56,57,57,48,57,49,57,50,57,51,57,52,57,53,57,54,57,55,57,56,57,57]⟩)) (LT 119)),LO 121 (.iaddr 1 (LT 110) (LT 112)),LN (.store 1 (LT 121) (LT 118)),LO 122 (.iaddr 1 (LT 113) (LT 115)),LN (.store 1 (LT 122) (LT 120))] (LS [LM 123 0,LM 124 4,LO 125 (.bin .sub (LT 124) (LI 3)),LM 126 0,LM 127 4,LO 128 (.bin .sub (LT 127) (LI 4)),LM 129 14,LO 130 (.bin .add (LT 129) (.const (.int .u32 1))),LO 131 (.sidx (.const (.string ⟨#[48,48,48,49,48,50,48,51,48,52,48,53,48,54,48,55,48,56,48,57,49,48,49,49,49,50,49,51,49,52,49,53,49,54,49,55,49,56,49,57,50,48,50,49,50,50,50,51,50,52,50,53,50,54,50,55,50,56,50,57,51,48,51,49,51,50,51,51,51,52,51,53,51,54,51,55,51,56,51,57,52,48,52,49,52,50,52,51,52,52,52,53,52,54,52,55,52,56,52,57,53,48,53,49,53,50,53,51,53,52,53,53,53,54,53,55,53,56,53,57,54,48,54,49,54,50,54,51,54,52,54,53,54,54,54,55,54,56,54,57,55,48,55,49,55,50,55,51,55,52,55,53,55,54,55,55,55,56,55,57,56,48,56,49,56,50,56,51,56,52,56,53,56,54,56,55,56,56,56,57,57,48,57,49,57,50,57,51,57,52,57,53,57,54,57,55,57,56,57,57]⟩)) (LT 130)),LM 132 14,LO 133 (.sidx (.const (.string ⟨#[48,48,48,49,48,50,48,51,48,52,48,53,48,54,48,55,48,56,48,57,49,48,49,49,49,50,49,51,49,52,49,53,49,54,49,55,49,56,49,57,50,48,50,49,50,50,50,51,50,52,50,53,50,54,50,55,50,56,50,57,51,48,51,49,51,50,51,51,51,52,51,53,51,54,51,55,51,56,51,57,52,48,52,49,52,50,52,51,52,52,52,53,52,54,52,55,52,56,52,57,53,48,53,49,53,50,53,51,53,52,53,53,53,54,53,55,53,56,53,57,54,48,54,49,54,50,54,51,54,52,54,53,54,54,54,55,54,56,54,57,55,48,55,49,55,50,55,51,55,52,55,53,55,54,55,55,55,56,55,57,56,48,56,49,56,50,56,51,56,52,56,53,56,54,56,55,56,56,56,57,57,48,57,49,57,50,57,51,57,52,57,53,57,54,57,55,57,56,57,57]⟩)) (LT 132)),LO 134 (.iaddr 1 (LT 123) (LT 125)),LN (.store 1 (LT 134) (LT 131)),LO 135 (.iaddr 1 (LT 126) (LT 128)),LN (.store 1 (LT 135) (LT 133))] (.dH [LM 136 4,LO 137 (.bin .sub (LT 136) (LI 4)),LM 4 137])))))) .skip)) (.seq (LS [LM 138 4,LO 139 (.bin .geq (LT 138) (LI 2))] (.cond (LT 139) (LS [LM 140 12,LO 141 (.bin .rem (LT 140) (.const (.int .u32 100))),LO 142 (.bin .mul (LT 141) (.const (.int .u32 2))),LM 16 142] (LS [LM 143 12,LO 144 (.bin .quo (LT 143) (.const (.int .u32 100))),LM 12 144] (LS [LM 145 0,LM 146 4,LO 147 (.bin .sub (LT 146) (LI 1)),LM 148 0,LM 149 4,LO 150 (.bin .sub (LT 149) (LI 2)),LM 151 16,LO 152 (.bin .add (LT 151) (.const (.int .u32 1))),LO 153 (.sidx (.const (.string ⟨#[48,48,48,49,48,50,48,51,48,52,48,53,48,54,48,55,48,56,48,57,49,48,49,49,49,50,49,51,49,52,49,53,49,54,49,55,49,56,49,57,50,48,50,49,50,50,50,51,50,52,50,53,50,54,50,55,50,56,50,57,51,48,51,49,51,50,51,51,51,52,51,53,51,54,51,55,51,56,51,57,52,48,52,49,52,50,52,51,52,52,52,53,52,54,52,55,52,56,52,57,53,48,53,49,53,50,53,51,53,52,53,53,53,54,53,55,53,56,53,57,54,48,54,49,54,50,54,51,54,52,54,53,54,54,54,55,54,56,54,57,55,48,55,49,55,50,55,51,55,52,55,53,55,54,55,55,55,56,55,57,56,48,56,49,56,50,56,51,56,52,56,53,56,54,56,55,56,56,56,57,57,48,57,49,57,50,57,51,57,52,57,53,57,54,57,55,57,56,57,57]⟩)) (LT 152)),LM 154 16,LO 155 (.sidx (.const (.string ⟨#[48,48,48,49,48,50,48,51,48,52,48,53,48,54,48,55,48,56,48,57,49,48,49,49,49,50,49,51,49,52,49,53,49,54,49,55,49,56,49,57,50,48,50,49,50,50,50,51,50,52,50,53,50,54,50,55,50,56,50,57,51,48,51,49,51,50,51,51,51,52,51,53,51,54,51,55,51,56,51,57,52,48,52,49,52,50,52,51,52,52,52,53,52,54,52,55,52,56,52,57,53,48,53,49,53,50,53,51,53,52,53,53,53,54,53,55,53,56,53,57,54,48,54,49,54,50,54,51,54,52,54,53,54,54,54,55,54,56,54,57,55,48,55,49,55,50,55,51,55,52,55,53,55,54,55,55,55,56,55,57,56,48,56,49,56,50,56,51,56,52,56,53,56,54,56,55,56,56,56,57,57,48,57,49,57,50,57,51,57,52,57,53,57,54,57,55,57,56,57,57]⟩)) (LT 154)),LO 156 (.iaddr 1 (LT 145) (LT 147)),LN (.store 1 (LT 156) (LT 153)),LO 157 (.iaddr 1 (LT 148) (LT 150)),LN (.store 1 (LT 157) (LT 155))] (.dH [LM 158 4,LO 159 (.bin .sub (LT 158) (LI 2)),LM 4 159])))) .skip)) (LS [LM 160 4,LO 161 (.bin .gtr (LT 160) (LI 0))] (.cond (LT 161) (.dH [LM 162 0,LM 163 12,LO 164 (.bin .add (.const (.int .u32 48)) (LT 163)),LO 165 (.cvt .u8 (LT 164)),LO 166 (.iaddr 1 (LT 162) (LI 0)),LN (.store 1 (LT 166) (LT 165))]) .skip)))))))
def internal_strconv_formatBase10:aR:=⟨167,[],sO⟩
end Go.PM
namespace Go.PM
end Go.PM
namespace Go.PM
def F9:aD:=(LS [LO 2 (.new [(.bool false),(.slice none 0 0),(.slice none 0 0)])] (LS [LM 3 0,LO 4 (.bin .lss (LT 3) (LI 0)),LM 5 0,LO 6 (.call 140 [(LT 5)]),LO 7 (.call 139 [(LT 6)]),LO 8 (.call 139 [(.const (.int .u64 1))]),LO 9 (.build [(.bool false),(.slice none 0 0),(.slice none 0 0)] [(0,1),(1,1),(2,1)] [(0,(LT 4)),(1,(LT 7)),(2,(LT 8))]),LN (.store 3 (LT 2) (LT 9))] .ret))
def Kq:aR:=⟨10,[(.cell 2 true 3)],F9⟩
theorem Pr:gD 64=some Kq:=by kernel_rfl
def oQ:aD:=(LS [LO 2 (.box (LT 0)),LO 3 (.box (LT 1)),LO 4 (.mv (LI 0))] (.seq (LS [LO 6 (LK 2),LQ 7 (.call 68 [(LT 6)]),LO 8 (LK 3),LQ 9 (.call 68 [(LT 8)]),LO 10 (.bin .neq (LT 7) (LT 9))] (.cond (LT 10) (LS [LO 11 (LK 2),LQ 12 (.call 68 [(LT 11)]),LO 13 (LK 3),LQ 14 (.call 68 [(LT 13)]),LO 15 (.bin .sub (LT 12) (LT 14)),LM 4 15] .ret) .skip)) (LS [LO 16 (LA 1 2),LO 17 (LL 16),LO 18 (LA 2 3),LO 19 (LL 18),LQ 20 (.call 143 [(LT 17),(LT 19)]),LO 21 (LA 1 3),LO 22 (LL 21),LO 23 (LA 2 2),LO 24 (LL 23),LQ 25 (.call 143 [(LT 22),(LT 24)]),LQ 26 (.call 142 [(LT 20),(LT 25)]),LM 5 26] (.seq (LS [LO 27 (LA 0 2),LO 28 (LL 27)] (.cond (LT 28) (LS [LM 29 5,LO 30 (.un .neg (LT 29)),LM 4 30] .ret) .skip)) (LS [LM 31 5,LM 4 31] .ret)))))
def rP:aR:=⟨32,[(.tmp 4)],oQ⟩
theorem Hr:gD 148=some rP:=by kernel_rfl
def eI:aD:=(LS [LO 2 (.box (LT 0)),LO 3 (.box (LT 1)),LO 4 (.new [(.bool false),(.slice none 0 0),(.slice none 0 0)])] (.seq (LS [LO 8 (LK 2),LO 9 (.call 68 [(LT 8)]),LO 10 (.bin .eql (LT 9) (LI 0))] (.cond (LT 10) (LS [LO 11 (LK 3),LN (.store 3 (LT 4) (LT 11))] .ret) .skip)) (.seq (LS [LO 12 (LK 3),LO 13 (.call 68 [(LT 12)]),LO 14 (.bin .eql (LT 13) (LI 0))] (.cond (LT 14) (LS [LO 15 (LK 2),LN (.store 3 (LT 4) (LT 15))] .ret) .skip)) (LS [LO 16 (LA 1 2),LO 17 (LL 16),LO 18 (LA 1 3),LO 19 (LL 18),LO 20 (LA 2 2),LO 21 (LL 20),LM 5 17,LM 6 19,LM 7 21] (.seq (LS [LO 22 (LA 2 2),LO 23 (LL 22),LO 24 (LA 2 3),LO 25 (LL 24),LO 26 (.call 142 [(LT 23),(LT 25)]),LO 27 (.bin .neq (LT 26) (LI 0))] (.cond (LT 27) (.dH [LO 28 (LA 1 2),LO 29 (LL 28),LO 30 (LA 2 3),LO 31 (LL 30),LQ 32 (.call 143 [(LT 29),(LT 31)]),LO 33 (LA 1 3),LO 34 (LL 33),LO 35 (LA 2 2),LO 36 (LL 35),LQ 37 (.call 143 [(LT 34),(LT 36)]),LO 38 (LA 2 2),LO 39 (LL 38),LO 40 (LA 2 3),LO 41 (LL 40),LQ 42 (.call 143 [(LT 39),(LT 41)]),LM 5 32,LM 6 37,LM 7 42]) .skip)) (.seq (.block 0 (LS [LO 44 (LA 0 2),LO 45 (LL 44),LO 46 (LA 0 3),LO 47 (LL 46),LO 48 (.eqb false (LT 45) (LT 47)),LM 43 48] (.cond (LT 43) (LS [LO 49 (LA 0 2),LO 50 (LL 49),LM 51 5,LM 52 6,LQ 53 (.call 145 [(LT 51),(LT 52)]),LM 54 7,LQ 55 (.call 144 [(LT 50),(LT 53),(LT 54)]),LN (.store 3 (LT 4) (LT 55))] .ret) (LS [LM 57 5,LM 58 6,LO 59 (.call 142 [(LT 57),(LT 58)]),LO 60 (.bin .geq (LT 59) (LI 0)),LM 56 60] (.cond (LT 56) (LS [LO 61 (LA 0 2),LO 62 (LL 61),LM 63 5,LM 64 6,LQ 65 (.call 146 [(LT 63),(LT 64)]),LM 66 7,LQ 67 (.call 144 [(LT 62),(LT 65),(LT 66)]),LN (.store 3 (LT 4) (LT 67))] .ret) .skip))))) (LS [LO 68 (LA 0 3),LO 69 (LL 68),LM 70 6,LM 71 5,LQ 72 (.call 146 [(LT 70),(LT 71)]),LM 73 7,LQ 74 (.call 144 [(LT 69),(LT 72),(LT 73)]),LN (.store 3 (LT 4) (LT 74))] .ret)))))))
def fY:aR:=⟨75,[(.cell 4 true 3)],eI⟩
theorem HP:gD 69=some fY:=by kernel_rfl
def nJ:aD:=(LS [LO 1 (.box (LT 0)),LO 2 (.mv (LI 0))] (.seq (.block 0 (LS [LO 4 (LA 1 1),LO 5 (LL 4),LO 6 (.len (LT 5)),LO 7 (.bin .eql (LT 6) (LI 0)),LM 3 7] (.cond (LT 3) (LS [LO 2 (.mv (LI 0))] .ret) (LS [LO 9 (LA 0 1),LO 10 (LL 9),LM 8 10] (.cond (LT 8) (LS [LO 2 (.mv (LI (-1)))] .ret) .skip))))) (LS [LO 2 (.mv (LI 1))] .ret)))
def pY:aR:=⟨11,[(.tmp 2)],nJ⟩
theorem FY:gD 68=some pY:=by kernel_rfl
def oT:aD:=(LS [LO 13 (.bin .lss (LT 12) (LT 11))] (.seq (.cond (LT 13) .skip (.exit 0)) (.seq (.block 1 (LS [LO 14 (.iaddr 3 (LT 10) (LT 12)),LO 15 (LK 14),LO 6 (.new [(.bool false),(.slice none 0 0),(.slice none 0 0)]),LN (.store 3 (LT 6) (LT 15))] (LS [LO 17 (LK 6),LO 18 (.call 180 [(LT 17)]),LM 16 18,LO 19 (LX 16 0),LO 20 (LX 16 1),LM 7 19,LM 8 20] (.seq (LS [LM 21 8,LO 22 (.un .not (LT 21))] (.cond (LT 22) (LS [LO 2 (.mv (.const (.slice none 0 0))),LO 3 (.mv LF)] .ret) .skip)) (.dH [LM 23 4,LM 24 7,LO 25 (.lit [(.string ⟨#[]⟩)] 1 [(0,(LT 24))]),LO 26 (.app 1 16 (LT 23) (LT 25)),LM 4 26]))))) (.dH [LO 27 (.bin .add (LT 12) (LI 1)),LM 12 27]))))
def BR:aD:=(LS [LO 2 (.mv (.const (.slice none 0 0))),LO 3 (.mv LF)] (LS [LO 9 (.lit [(.string ⟨#[]⟩)] 0 []),LM 4 9] (.seq (LS [LM 10 0,LO 11 (.len (LT 10)),LO 12 (.mv (LI 0))] (.block 0 (.loop oT))) (LS [LM 28 4,LM 2 28,LO 3 (.mv LG)] .ret))))
def EF:aR:=⟨29,[(.tmp 2),(.tmp 3)],BR⟩
theorem JG:gD 147=some EF:=by kernel_rfl
def lC:aD:=(LS [LO 2 (.mv (.const (.slice none 0 0))),LO 3 (.mv LF)] (LS [LM 7 0,LO 8 (.call 65 [(LT 7)]),LM 6 8,LO 9 (LX 6 0),LO 10 (LX 6 1),LM 4 9,LM 5 10] (.seq (LS [LM 11 5,LO 12 (.un .not (LT 11)),LM 13 12,LZ 13 14 (.mv (LT 4)),LZ 13 15 (.call 66 [(LT 14),(.func 67)]),LO 16 (.pick (LT 13) LG (LT 15)),LM 17 16,LZ 17 18 (.mv (LT 4)),LZ 17 19 (.call 70 [(LT 18)]),LZ 17 20 (.call 161 [(LT 19)]),LZ 17 21 (.un .not (LT 20)),LO 22 (.pick (LT 17) LG (LT 21))] (.cond (LT 22) (LS [LO 2 (.mv (.const (.slice none 0 0))),LO 3 (.mv LF)] .ret) .skip)) (LS [LM 23 4,LM 2 23,LO 3 (.mv LG)] .ret))))
def nY:aR:=⟨24,[(.tmp 2),(.tmp 3)],lC⟩
theorem HN:gD 98=some nY:=by kernel_rfl
def Ot:aD:=(LS [LO 6 (.mv LF)] (LS [LM 7 0,LM 8 1,LO 9 (.bin .geq (LT 7) (LT 8)),LM 10 9,LY 10 11 (.mv (LT 0)),LY 10 12 (.mv (LT 2)),LY 10 13 (.bin .leq (LT 11) (LT 12)),LO 14 (.pick (LT 10) (LT 13) LF),LM 6 14] .ret))
def UL:aR:=⟨15,[(.tmp 6)],Ot⟩
theorem Xf:gD 93=some UL:=by kernel_rfl
def vQ:aD:=(LS [LO 16 (.bin .lss (LT 15) (LT 14))] (.seq (.cond (LT 16) .skip (.exit 0)) (.seq (.block 1 (LS [LO 17 (.iaddr 1 (LT 13) (LT 15)),LO 18 (LL 17),LM 6 18] (LS [LM 20 6,LO 21 (.call 115 [(LT 20)]),LM 19 21,LO 22 (LX 19 0),LO 23 (LX 19 1),LO 7 (.new [(.bool false),(.slice none 0 0),(.slice none 0 0)]),LN (.store 3 (LT 7) (LT 22)),LM 8 23] (.seq (LS [LM 24 8,LO 25 (.un .not (LT 24))] (.cond (LT 25) (LS [LO 2 (.mv (.const (.slice none 0 0))),LO 3 (.mv LF)] .ret) .skip)) (.dH [LM 26 4,LO 27 (LK 7),LO 28 (.lit [(.bool false),(.slice none 0 0),(.slice none 0 0)] 1 [(0,(LT 27))]),LO 29 (.app 3 56 (LT 26) (LT 28)),LM 4 29]))))) (.dH [LO 30 (.bin .add (LT 15) (LI 1)),LM 15 30]))))
def CU:aD:=(LS [LO 2 (.mv (.const (.slice none 0 0))),LO 3 (.mv LF)] (.seq (LS [LM 9 0,LO 10 (.len (LT 9)),LO 11 (.bin .gtr (LT 10) (LI 300))] (.cond (LT 11) (LS [LO 2 (.mv (.const (.slice none 0 0))),LO 3 (.mv LF)] .ret) .skip)) (LS [LO 12 (.lit [(.bool false),(.slice none 0 0),(.slice none 0 0)] 0 []),LM 4 12] (.seq (LS [LM 13 0,LO 14 (.len (LT 13)),LO 15 (.mv (LI 0))] (.block 0 (.loop vQ))) (LS [LM 31 4,LM 2 31,LO 3 (.mv LG)] .ret)))))
def Ht:aR:=⟨32,[(.tmp 2),(.tmp 3)],CU⟩
theorem Qs:gD 65=some Ht:=by kernel_rfl
def xD:aD:=(LS [LO 1 (.box (LT 0)),LO 2 (.mv LF)] (LS [LO 3 (LK 1),LO 4 (.call 68 [(LT 3)]),LO 5 (.bin .lss (LT 4) (LI 0)),LM 2 5] .ret))
def Bx:aR:=⟨6,[(.tmp 2)],xD⟩
theorem KI:gD 67=some Bx:=by kernel_rfl
def Dl:aD:=(LS [LO 10 (.bin .lss (LT 9) (LT 8))] (.seq (.cond (LT 10) .skip (.exit 0)) (.seq (.block 1 (LS [LO 11 (.iaddr 3 (LT 7) (LT 9)),LO 12 (LK 11),LO 5 (.new [(.bool false),(.slice none 0 0),(.slice none 0 0)]),LN (.store 3 (LT 5) (LT 12))] (.dH [LO 13 (LK 3),LO 14 (LK 5),LO 15 (.call 69 [(LT 13),(LT 14)]),LN (.store 3 (LT 3) (LT 15))]))) (.dH [LO 16 (.bin .add (LT 9) (LI 1)),LM 9 16]))))
def LW:aD:=(LS [LO 2 (.new [(.bool false),(.slice none 0 0),(.slice none 0 0)])] (LS [LO 6 (.call 64 [(LI 0)]),LO 3 (.new [(.bool false),(.slice none 0 0),(.slice none 0 0)]),LN (.store 3 (LT 3) (LT 6))] (.seq (LS [LM 7 0,LO 8 (.len (LT 7)),LO 9 (.mv (LI 0))] (.block 0 (.loop Dl))) (LS [LO 17 (LK 3),LN (.store 3 (LT 2) (LT 17))] .ret))))
def Sy:aR:=⟨18,[(.cell 2 true 3)],LW⟩
theorem Uw:gD 70=some Sy:=by kernel_rfl
def pP:aD:=(LS [LO 6 (.new [(.bool false),(.slice none 0 0),(.slice none 0 0)])] (.seq (LS [LM 8 1,LO 9 (.len (LT 8)),LO 10 (.bin .eql (LT 9) (LI 0))] (.cond (LT 10) (LS [LO 11 (.call 139 [(.const (.int .u64 1))]),LO 12 (.build [(.bool false),(.slice none 0 0),(.slice none 0 0)] [(0,1),(1,1),(2,1)] [(2,(LT 11))]),LN (.store 3 (LT 6) (LT 12))] .ret) .skip)) (LS [LM 13 1,LM 14 2,LO 15 (.call 175 [(LT 13),(LT 14)]),LM 7 15] (.seq (LS [LM 16 7,LO 17 (.len (LT 16)),LO 18 (.bin .eql (LT 17) (LI 1)),LM 19 18,LY 19 20 (.mv (LT 7)),LY 19 21 (.iaddr 1 (LT 20) (LI 0)),LY 19 22 (LL 21),LY 19 23 (.bin .eql (LT 22) (.const (.int .u32 1))),LO 24 (.pick (LT 19) (LT 23) LF)] (.cond (LT 24) (LS [LM 25 0,LM 26 1,LM 27 2,LO 28 (.build [(.bool false),(.slice none 0 0),(.slice none 0 0)] [(0,1),(1,1),(2,1)] [(0,(LT 25)),(1,(LT 26)),(2,(LT 27))]),LN (.store 3 (LT 6) (LT 28))] .ret) .skip)) (LS [LM 30 1,LM 31 7,LO 32 (.call 183 [(LT 30),(LT 31)]),LM 29 32,LO 33 (LX 29 0),LO 34 (LX 29 1),LM 1 33] (LS [LM 36 2,LM 37 7,LO 38 (.call 183 [(LT 36),(LT 37)]),LM 35 38,LO 39 (LX 35 0),LO 40 (LX 35 1),LM 2 39] (LS [LM 41 0,LM 42 1,LM 43 2,LO 44 (.build [(.bool false),(.slice none 0 0),(.slice none 0 0)] [(0,1),(1,1),(2,1)] [(0,(LT 41)),(1,(LT 42)),(2,(LT 43))]),LN (.store 3 (LT 6) (LT 44))] .ret)))))))
def uM:aR:=⟨45,[(.cell 6 true 3)],pP⟩
theorem Ms:gD 144=some uM:=by kernel_rfl
def FP:aD:=(LS [LO 2 (.mv (.const (.slice none 0 0)))] (LS [LM 3 0,LO 4 (.cvt .u32 (LT 3)),LM 5 0,LO 6 (.bin .shr (LT 5) (.const (.int .u64 32))),LO 7 (.cvt .u32 (LT 6)),LO 8 (.lit [(.int .u32 0)] 2 [(0,(LT 4)),(1,(LT 7))]),LO 9 (.call 182 [(LT 8)]),LM 2 9] .ret))
def Lf:aR:=⟨10,[(.tmp 2)],FP⟩
theorem Pp:gD 139=some Lf:=by kernel_rfl
def tE:aD:=(LS [LO 2 (.mv (.const (.int .u64 0)))] (.seq (LS [LM 3 0,LO 4 (.bin .lss (LT 3) (LI 0))] (.cond (LT 4) (LS [LM 5 0,LO 6 (.cvt .u64 (LT 5)),LO 7 (.un .neg (LT 6)),LM 2 7] .ret) .skip)) (LS [LM 8 0,LO 9 (.cvt .u64 (LT 8)),LM 2 9] .ret)))
def wQ:aR:=⟨10,[(.tmp 2)],tE⟩
theorem Hf:gD 140=some wQ:=by kernel_rfl
def sA:aD:=(LS [LO 27 (.bin .lss (LT 26) (LT 25))] (.seq (.cond (LT 27) .skip (.exit 2)) (.seq (.block 3 (LS [LM 28 26,LO 29 (.iaddr 1 (LT 24) (LT 26)),LO 30 (LL 29),LM 9 28,LM 10 30] (LS [LM 31 8,LM 32 7,LO 33 (.cvt .u64 (LT 32)),LM 34 10,LO 35 (.cvt .u64 (LT 34)),LO 36 (.bin .mul (LT 33) (LT 35)),LM 37 5,LM 38 6,LM 39 9,LO 40 (.bin .add (LT 38) (LT 39)),LO 41 (.iaddr 1 (LT 37) (LT 40)),LO 42 (LL 41),LO 43 (.cvt .u64 (LT 42)),LO 44 (.bin .add (LT 36) (LT 43)),LO 45 (.bin .add (LT 31) (LT 44)),LM 8 45] (LS [LM 46 5,LM 47 6,LM 48 9,LO 49 (.bin .add (LT 47) (LT 48)),LM 50 8,LO 51 (.cvt .u32 (LT 50)),LO 52 (.iaddr 1 (LT 46) (LT 49)),LN (.store 1 (LT 52) (LT 51))] (.dH [LM 53 8,LO 54 (.bin .shr (LT 53) (.const (.int .u64 32))),LM 8 54]))))) (.dH [LO 55 (.bin .add (LT 26) (LI 1)),LM 26 55]))))
def rU:aD:=(LS [LO 20 (.bin .lss (LT 19) (LT 18))] (.seq (.cond (LT 20) .skip (.exit 0)) (.seq (.block 1 (LS [LM 21 19,LO 22 (.iaddr 1 (LT 17) (LT 19)),LO 23 (LL 22),LM 6 21,LM 7 23] (LS [LO 8 (.mv (.const (.int .u64 0)))] (.seq (LS [LM 24 1,LO 25 (.len (LT 24)),LO 26 (.mv (LI 0))] (.block 2 (.loop sA))) (.dH [LM 56 5,LM 57 6,LM 58 1,LO 59 (.len (LT 58)),LO 60 (.bin .add (LT 57) (LT 59)),LM 61 8,LO 62 (.cvt .u32 (LT 61)),LO 63 (.iaddr 1 (LT 56) (LT 60)),LN (.store 1 (LT 63) (LT 62))]))))) (.dH [LO 64 (.bin .add (LT 19) (LI 1)),LM 19 64]))))
def A6:aD:=(LS [LO 4 (.mv (.const (.slice none 0 0)))] (LS [LM 11 0,LO 12 (.len (LT 11)),LM 13 1,LO 14 (.len (LT 13)),LO 15 (.bin .add (LT 12) (LT 14)),LO 16 (.make [(.int .u32 0)] 4 (LT 15) (LT 15)),LM 5 16] (.seq (LS [LM 17 0,LO 18 (.len (LT 17)),LO 19 (.mv (LI 0))] (.block 0 (.loop rU))) (LS [LM 65 5,LO 66 (.call 182 [(LT 65)]),LM 4 66] .ret))))
def C8:aR:=⟨67,[(.tmp 4)],A6⟩
theorem Hv:gD 143=some C8:=by kernel_rfl
def jY:aD:=(.seq (LS [LM 19 5,LO 20 (.bin .geq (LT 19) (LI 0))] (.cond (LT 20) .skip (.exit 0))) (.seq (.block 1 (LS [LM 23 0,LM 24 5,LO 25 (.iaddr 1 (LT 23) (LT 24)),LO 26 (LL 25),LM 27 1,LM 28 5,LO 29 (.iaddr 1 (LT 27) (LT 28)),LO 30 (LL 29),LO 31 (.bin .neq (LT 26) (LT 30))] (.cond (LT 31) (.seq (LS [LM 32 0,LM 33 5,LO 34 (.iaddr 1 (LT 32) (LT 33)),LO 35 (LL 34),LM 36 1,LM 37 5,LO 38 (.iaddr 1 (LT 36) (LT 37)),LO 39 (LL 38),LO 40 (.bin .lss (LT 35) (LT 39))] (.cond (LT 40) (LS [LO 4 (.mv (LI (-1)))] .ret) .skip)) (LS [LO 4 (.mv (LI 1))] .ret)) .skip))) (.dH [LM 21 5,LO 22 (.bin .sub (LT 21) (LI 1)),LM 5 22])))
def oO:aD:=(LS [LO 4 (.mv (LI 0))] (.seq (LS [LM 6 0,LO 7 (.len (LT 6)),LM 8 1,LO 9 (.len (LT 8)),LO 10 (.bin .neq (LT 7) (LT 9))] (.cond (LT 10) (.seq (LS [LM 11 0,LO 12 (.len (LT 11)),LM 13 1,LO 14 (.len (LT 13)),LO 15 (.bin .lss (LT 12) (LT 14))] (.cond (LT 15) (LS [LO 4 (.mv (LI (-1)))] .ret) .skip)) (LS [LO 4 (.mv (LI 1))] .ret)) .skip)) (.seq (LS [LM 16 0,LO 17 (.len (LT 16)),LO 18 (.bin .sub (LT 17) (LI 1)),LM 5 18] (.block 0 (.loop jY))) (LS [LO 4 (.mv (LI 0))] .ret))))
def rD:aR:=⟨41,[(.tmp 4)],oO⟩
theorem Hc:gD 142=some rD:=by kernel_rfl
def jZ:aD:=(LS [LO 22 (.bin .lss (LT 21) (LT 20))] (.seq (.cond (LT 22) .skip (.exit 0)) (.seq (.block 1 (LS [LM 23 21,LM 7 23] (LS [LM 24 6,LM 25 0,LM 26 7,LO 27 (.iaddr 1 (LT 25) (LT 26)),LO 28 (LL 27),LO 29 (.cvt .u64 (LT 28)),LO 30 (.bin .add (LT 24) (LT 29)),LM 6 30] (.seq (LS [LM 31 7,LM 32 1,LO 33 (.len (LT 32)),LO 34 (.bin .lss (LT 31) (LT 33))] (.cond (LT 34) (.dH [LM 35 6,LM 36 1,LM 37 7,LO 38 (.iaddr 1 (LT 36) (LT 37)),LO 39 (LL 38),LO 40 (.cvt .u64 (LT 39)),LO 41 (.bin .add (LT 35) (LT 40)),LM 6 41]) .skip)) (LS [LM 42 5,LM 43 7,LM 44 6,LO 45 (.cvt .u32 (LT 44)),LO 46 (.iaddr 1 (LT 42) (LT 43)),LN (.store 1 (LT 46) (LT 45))] (.dH [LM 47 6,LO 48 (.bin .shr (LT 47) (.const (.int .u64 32))),LM 6 48])))))) (.dH [LO 49 (.bin .add (LT 21) (LI 1)),LM 21 49]))))
def tP:aD:=(LS [LO 4 (.mv (.const (.slice none 0 0)))] (.seq (LS [LM 8 0,LO 9 (.len (LT 8)),LM 10 1,LO 11 (.len (LT 10)),LO 12 (.bin .lss (LT 9) (LT 11))] (.cond (LT 12) (.dH [LM 13 1,LM 14 0,LM 0 13,LM 1 14]) .skip)) (LS [LM 15 0,LO 16 (.len (LT 15)),LO 17 (.bin .add (LT 16) (LI 1)),LO 18 (.make [(.int .u32 0)] 4 (LT 17) (LT 17)),LM 5 18,LO 6 (.mv (.const (.int .u64 0)))] (.seq (LS [LM 19 0,LO 20 (.len (LT 19)),LO 21 (.mv (LI 0))] (.block 0 (.loop jZ))) (LS [LM 50 5,LM 51 0,LO 52 (.len (LT 51)),LM 53 6,LO 54 (.cvt .u32 (LT 53)),LO 55 (.iaddr 1 (LT 50) (LT 52)),LN (.store 1 (LT 55) (LT 54))] (LS [LM 56 5,LO 57 (.call 182 [(LT 56)]),LM 4 57] .ret))))))
def wV:aR:=⟨58,[(.tmp 4)],tP⟩
theorem Ii:gD 145=some wV:=by kernel_rfl
def iA:aD:=(LS [LO 15 (.bin .lss (LT 14) (LT 13))] (.seq (.cond (LT 15) .skip (.exit 0)) (.seq (.block 1 (LS [LM 16 14,LM 7 16] (LS [LM 17 0,LM 18 7,LO 19 (.iaddr 1 (LT 17) (LT 18)),LO 20 (LL 19),LO 21 (.cvt .i64 (LT 20)),LM 22 6,LO 23 (.bin .sub (LT 21) (LT 22)),LM 8 23] (.seq (LS [LM 24 7,LM 25 1,LO 26 (.len (LT 25)),LO 27 (.bin .lss (LT 24) (LT 26))] (.cond (LT 27) (.dH [LM 28 8,LM 29 1,LM 30 7,LO 31 (.iaddr 1 (LT 29) (LT 30)),LO 32 (LL 31),LO 33 (.cvt .i64 (LT 32)),LO 34 (.bin .sub (LT 28) (LT 33)),LM 8 34]) .skip)) (LS [LO 6 (.mv (LI 0))] (.seq (LS [LM 35 8,LO 36 (.bin .lss (LT 35) (LI 0))] (.cond (LT 36) (.dH [LO 6 (.mv (LI 1))]) .skip)) (.dH [LM 37 5,LM 38 7,LM 39 8,LO 40 (.cvt .u32 (LT 39)),LO 41 (.iaddr 1 (LT 37) (LT 38)),LN (.store 1 (LT 41) (LT 40))]))))))) (.dH [LO 42 (.bin .add (LT 14) (LI 1)),LM 14 42]))))
def AL:aD:=(LS [LO 4 (.mv (.const (.slice none 0 0)))] (LS [LM 9 0,LO 10 (.len (LT 9)),LO 11 (.make [(.int .u32 0)] 4 (LT 10) (LT 10)),LM 5 11,LO 6 (.mv (LI 0))] (.seq (LS [LM 12 0,LO 13 (.len (LT 12)),LO 14 (.mv (LI 0))] (.block 0 (.loop iA))) (LS [LM 43 5,LO 44 (.call 182 [(LT 43)]),LM 4 44] .ret))))
def Cy:aR:=⟨45,[(.tmp 4)],AL⟩
theorem GV:gD 146=some Cy:=by kernel_rfl
def rV:aD:=(LS [LO 1 (.box (LT 0)),LO 2 (.mv (.const (.string ⟨#[]⟩))),LO 3 (.mv LF)] (LS [LO 7 (LA 1 1),LO 8 (LL 7),LQ 9 (.call 196 [(LT 8)]),LO 10 (LA 2 1),LO 11 (LL 10),LQ 12 (.call 196 [(LT 11)]),LM 4 9,LM 5 12] (LS [LM 13 4,LM 6 13] (.seq (LS [LO 14 (LA 0 1),LO 15 (LL 14)] (.cond (LT 15) (.dH [LM 16 6,LO 17 (.bin .add (.const (.string ⟨#[45]⟩)) (LT 16)),LM 6 17]) .skip)) (.seq (LS [LM 18 5,LO 19 (.bin .neq (LT 18) (.const (.string ⟨#[49]⟩)))] (.cond (LT 19) (.dH [LM 20 6,LM 21 5,LO 22 (.bin .add (.const (.string ⟨#[47]⟩)) (LT 21)),LO 23 (.bin .add (LT 20) (LT 22)),LM 6 23]) .skip)) (LS [LM 24 6,LM 25 4,LO 26 (.slen (LT 25)),LO 27 (.bin .leq (LT 26) (LI 200)),LM 28 27,LY 28 29 (.mv (LT 5)),LY 28 30 (.slen (LT 29)),LY 28 31 (.bin .leq (LT 30) (LI 200)),LO 32 (.pick (LT 28) (LT 31) LF),LM 2 24,LM 3 32] .ret))))))
def uY:aR:=⟨33,[(.tmp 2),(.tmp 3)],rV⟩
theorem F7:gD 180=some uY:=by kernel_rfl
def qL:aD:=(LS [LO 1 (.box (LT 0)),LO 2 (.mv LF)] (LS [LO 3 (LK 1),LQ 4 (.call 64 [(LI 1)]),LQ 5 (.call 148 [(LT 3),(LT 4)]),LO 6 (.bin .eql (LT 5) (LI 0)),LM 2 6] .ret))
def tC:aR:=⟨7,[(.tmp 2)],qL⟩
theorem EV:gD 161=some tC:=by kernel_rfl
def dD:aD:=(LS [LO 2 (.new [(.bool false),(.slice none 0 0),(.slice none 0 0)]),LO 3 (.mv LF)] (LS [LM 16 0,LO 17 (.call 172 [(LT 16),(.const (.string ⟨#[47]⟩))]),LM 15 17,LO 18 (LX 15 0),LO 19 (LX 15 1),LO 20 (LX 15 2),LM 4 18,LM 5 19,LM 6 20] (LS [LM 22 4,LO 23 (.call 173 [(LT 22),(.const (.string ⟨#[45]⟩))]),LM 21 23,LO 24 (LX 21 0),LO 25 (LX 21 1),LM 7 24,LM 8 25] (LS [LM 27 7,LO 28 (.call 174 [(LT 27)]),LM 26 28,LO 29 (LX 26 0),LO 30 (LX 26 1),LM 9 29,LM 10 30] (.seq (LS [LM 31 10,LO 32 (.un .not (LT 31)),LM 33 32,LZ 33 34 (.mv (LT 8)),LZ 33 35 (.mv (LT 34)),LY 35 36 (.mv (LT 9)),LY 35 37 (.len (LT 36)),LY 35 38 (.bin .eql (LT 37) (LI 0)),LZ 33 39 (.pick (LT 35) (LT 38) LF),LO 40 (.pick (LT 33) LG (LT 39))] (.cond (LT 40) (LS [LO 41 (.build [(.bool false),(.slice none 0 0),(.slice none 0 0)] [(0,1),(1,1),(2,1)] []),LN (.store 3 (LT 2) (LT 41)),LO 3 (.mv LF)] .ret) .skip)) (LS [LM 42 8,LM 43 9,LO 44 (.call 139 [(.const (.int .u64 1))]),LO 45 (.build [(.bool false),(.slice none 0 0),(.slice none 0 0)] [(0,1),(1,1),(2,1)] [(0,(LT 42)),(1,(LT 43)),(2,(LT 44))]),LO 11 (.new [(.bool false),(.slice none 0 0),(.slice none 0 0)]),LN (.store 3 (LT 11) (LT 45))] (.seq (LS [LM 46 6,LO 47 (.un .not (LT 46))] (.cond (LT 47) (LS [LO 48 (LK 11),LN (.store 3 (LT 2) (LT 48)),LO 3 (.mv LG)] .ret) .skip)) (LS [LM 50 5,LO 51 (.call 174 [(LT 50)]),LM 49 51,LO 52 (LX 49 0),LO 53 (LX 49 1),LM 12 52,LM 13 53] (.seq (LS [LM 54 13,LO 55 (.un .not (LT 54)),LM 56 55,LZ 56 57 (.mv (LT 12)),LZ 56 58 (.call 139 [(.const (.int .u64 1))]),LZ 56 59 (.call 142 [(LT 57),(LT 58)]),LZ 56 60 (.bin .leq (LT 59) (LI 0)),LO 61 (.pick (LT 56) LG (LT 60))] (.cond (LT 61) (LS [LO 62 (.build [(.bool false),(.slice none 0 0),(.slice none 0 0)] [(0,1),(1,1),(2,1)] []),LN (.store 3 (LT 2) (LT 62)),LO 3 (.mv LF)] .ret) .skip)) (.seq (LS [LM 63 9,LM 64 12,LO 65 (.call 175 [(LT 63),(LT 64)]),LM 14 65] (LS [LM 66 14,LO 67 (.call 139 [(.const (.int .u64 1))]),LO 68 (.call 142 [(LT 66),(LT 67)]),LO 69 (.bin .neq (LT 68) (LI 0))] (.cond (LT 69) (LS [LO 70 (.build [(.bool false),(.slice none 0 0),(.slice none 0 0)] [(0,1),(1,1),(2,1)] []),LN (.store 3 (LT 2) (LT 70)),LO 3 (.mv LF)] .ret) .skip))) (LS [LM 71 8,LM 72 9,LM 73 12,LO 74 (.build [(.bool false),(.slice none 0 0),(.slice none 0 0)] [(0,1),(1,1),(2,1)] [(0,(LT 71)),(1,(LT 72)),(2,(LT 73))]),LN (.store 3 (LT 2) (LT 74)),LO 3 (.mv LG)] .ret)))))))))))
def dZ:aR:=⟨75,[(.cell 2 true 3),(.tmp 3)],dD⟩
theorem KV:gD 115=some dZ:=by kernel_rfl
def sJ:aD:=(.seq (LS [LM 28 7,LO 29 (.bin .gtr (LT 28) (.const (.int .u64 0)))] (.cond (LT 29) .skip (.exit 2))) (.block 3 (.dH [LM 30 7,LM 31 5,LM 32 7,LO 33 (.bin .rem (LT 31) (LT 32)),LM 5 30,LM 7 33])))
def iF:aD:=(.seq (LS [LM 11 1,LO 12 (.len (LT 11)),LO 13 (.bin .gtr (LT 12) (LI 0))] (.cond (LT 13) .skip (.exit 0))) (.block 1 (LS [LM 15 0,LO 16 (.call 193 [(LT 15)]),LM 14 16,LO 17 (LX 14 0),LO 18 (LX 14 1),LM 5 17,LM 6 18] (LS [LM 20 1,LO 21 (.call 193 [(LT 20)]),LM 19 21,LO 22 (LX 19 0),LO 23 (LX 19 1),LM 7 22,LM 8 23] (.seq (LS [LM 24 6,LM 25 24,LY 25 26 (.mv (LT 8)),LO 27 (.pick (LT 25) (LT 26) LF)] (.cond (LT 27) (.seq (.block 2 (.loop sJ)) (LS [LM 34 5,LO 35 (.call 139 [(LT 34)]),LM 4 35] .ret)) .skip)) (LS [LM 37 0,LM 38 1,LO 39 (.call 183 [(LT 37),(LT 38)]),LM 36 39,LO 40 (LX 36 0),LO 41 (LX 36 1),LM 9 40,LM 10 41] (.dH [LM 42 1,LM 43 10,LM 0 42,LM 1 43])))))))
def AX:aD:=(LS [LO 4 (.mv (.const (.slice none 0 0)))] (.seq (.block 0 (.loop iF)) (LS [LM 44 0,LM 4 44] .ret)))
def Cv:aR:=⟨45,[(.tmp 4)],AX⟩
theorem He:gD 175=some Cv:=by kernel_rfl
def fT:aD:=(.seq (LS [LM 105 17,LO 106 (.bin .geq (LT 105) (.const (.int .u64 4294967296))),LM 107 106,LZ 107 108 (.mv (LT 17)),LZ 107 109 (.mv (LT 12)),LZ 107 110 (.bin .mul (LT 108) (LT 109)),LZ 107 111 (.mv (LT 18)),LZ 107 112 (.bin .shl (LT 111) (.const (.int .u64 32))),LZ 107 113 (.mv (LT 9)),LZ 107 114 (.mv (LT 15)),LZ 107 115 (.bin .sub (LT 114) (LI 2)),LZ 107 116 (.iaddr 1 (LT 113) (LT 115)),LZ 107 117 (LL 116),LZ 107 118 (.cvt .u64 (LT 117)),LZ 107 119 (.bin .add (LT 112) (LT 118)),LZ 107 120 (.bin .gtr (LT 110) (LT 119)),LO 121 (.pick (LT 107) LG (LT 120))] (.cond (LT 121) .skip (.exit 2))) (.block 3 (LS [LM 122 17,LO 123 (.bin .sub (LT 122) (.const (.int .u64 1))),LM 17 123] (LS [LM 124 18,LM 125 11,LO 126 (.bin .add (LT 124) (LT 125)),LM 18 126] (LS [LM 127 18,LO 128 (.bin .geq (LT 127) (.const (.int .u64 4294967296)))] (.cond (LT 128) (.exit 2) .skip))))))
def nN:aD:=(.seq (LS [LM 78 14,LO 79 (.bin .geq (LT 78) (LI 0))] (.cond (LT 79) .skip (.exit 0))) (.seq (.block 1 (LS [LM 82 14,LM 83 10,LO 84 (.len (LT 83)),LO 85 (.bin .add (LT 82) (LT 84)),LM 15 85] (LS [LM 86 9,LM 87 15,LO 88 (.iaddr 1 (LT 86) (LT 87)),LO 89 (LL 88),LO 90 (.cvt .u64 (LT 89)),LO 91 (.bin .shl (LT 90) (.const (.int .u64 32))),LM 92 9,LM 93 15,LO 94 (.bin .sub (LT 93) (LI 1)),LO 95 (.iaddr 1 (LT 92) (LT 94)),LO 96 (LL 95),LO 97 (.cvt .u64 (LT 96)),LO 98 (.bin .add (LT 91) (LT 97)),LM 16 98] (LS [LM 99 16,LM 100 11,LO 101 (.bin .quo (LT 99) (LT 100)),LM 102 16,LM 103 11,LO 104 (.bin .rem (LT 102) (LT 103)),LM 17 101,LM 18 104] (.seq (.block 2 (.loop fT)) (.seq (LS [LM 129 9,LM 130 14,LM 131 15,LO 132 (.bin .add (LT 131) (LI 1)),LO 133 (.sub 1 (LT 129) (some (LT 130)) (some (LT 132)) none),LM 134 10,LM 135 17,LO 136 (.call 200 [(LT 133),(LT 134),(LT 135)])] (.cond (LT 136) (.dH [LM 137 17,LO 138 (.bin .sub (LT 137) (.const (.int .u64 1))),LM 17 138]) .skip)) (.dH [LM 139 13,LM 140 14,LM 141 17,LO 142 (.cvt .u32 (LT 141)),LO 143 (.iaddr 1 (LT 139) (LT 140)),LN (.store 1 (LT 143) (LT 142))]))))))) (.dH [LM 80 14,LO 81 (.bin .sub (LT 80) (LI 1)),LM 14 81])))
def kB:aD:=(LS [LO 149 (.bin .lss (LT 148) (LT 147))] (.seq (.cond (LT 149) .skip (.exit 4)) (.seq (.block 5 (LS [LM 150 148,LM 19 150] (LS [LO 20 (.mv (.const (.int .u64 0)))] (.seq (LS [LM 151 19,LO 152 (.bin .add (LT 151) (LI 1)),LM 153 9,LO 154 (.len (LT 153)),LO 155 (.bin .lss (LT 152) (LT 154))] (.cond (LT 155) (.dH [LM 156 9,LM 157 19,LO 158 (.bin .add (LT 157) (LI 1)),LO 159 (.iaddr 1 (LT 156) (LT 158)),LO 160 (LL 159),LO 161 (.cvt .u64 (LT 160)),LM 20 161]) .skip)) (.dH [LM 162 9,LM 163 19,LM 164 20,LO 165 (.bin .shl (LT 164) (.const (.int .u64 32))),LM 166 9,LM 167 19,LO 168 (.iaddr 1 (LT 166) (LT 167)),LO 169 (LL 168),LO 170 (.cvt .u64 (LT 169)),LO 171 (.bin .add (LT 165) (LT 170)),LM 172 8,LO 173 (.bin .shr (LT 171) (LT 172)),LO 174 (.cvt .u32 (LT 173)),LO 175 (.iaddr 1 (LT 162) (LT 163)),LN (.store 1 (LT 175) (LT 174))]))))) (.dH [LO 176 (.bin .add (LT 148) (LI 1)),LM 148 176]))))
def oW:aD:=(LS [LO 4 (.mv (.const (.slice none 0 0))),LO 5 (.mv (.const (.slice none 0 0)))] (.seq (LS [LM 21 0,LM 22 1,LO 23 (.call 142 [(LT 21),(LT 22)]),LO 24 (.bin .lss (LT 23) (LI 0))] (.cond (LT 24) (LS [LM 25 0,LO 4 (.mv (.const (.slice none 0 0))),LM 5 25] .ret) .skip)) (.seq (LS [LM 26 1,LO 27 (.len (LT 26)),LO 28 (.bin .eql (LT 27) (LI 1))] (.cond (LT 28) (LS [LM 30 0,LM 31 1,LO 32 (.iaddr 1 (LT 31) (LI 0)),LO 33 (LL 32),LO 34 (.call 197 [(LT 30),(LT 33)]),LM 29 34,LO 35 (LX 29 0),LO 36 (LX 29 1),LM 6 35,LM 7 36] (LS [LM 37 6,LM 38 7,LO 39 (.lit [(.int .u32 0)] 1 [(0,(LT 38))]),LO 40 (.call 182 [(LT 39)]),LM 4 37,LM 5 40] .ret)) .skip)) (LS [LM 41 1,LM 42 1,LO 43 (.len (LT 42)),LO 44 (.bin .sub (LT 43) (LI 1)),LO 45 (.iaddr 1 (LT 41) (LT 44)),LO 46 (LL 45),LO 47 (.call 198 [(LT 46)]),LM 8 47] (LS [LM 48 0,LM 49 8,LO 50 (.call 199 [(LT 48),(LT 49)]),LM 51 1,LM 52 8,LO 53 (.call 199 [(LT 51),(LT 52)]),LO 54 (.call 182 [(LT 53)]),LM 9 50,LM 10 54] (LS [LM 55 10,LM 56 10,LO 57 (.len (LT 56)),LO 58 (.bin .sub (LT 57) (LI 1)),LO 59 (.iaddr 1 (LT 55) (LT 58)),LO 60 (LL 59),LO 61 (.cvt .u64 (LT 60)),LM 11 61] (LS [LM 62 10,LM 63 10,LO 64 (.len (LT 63)),LO 65 (.bin .sub (LT 64) (LI 2)),LO 66 (.iaddr 1 (LT 62) (LT 65)),LO 67 (LL 66),LO 68 (.cvt .u64 (LT 67)),LM 12 68] (LS [LM 69 9,LO 70 (.len (LT 69)),LM 71 10,LO 72 (.len (LT 71)),LO 73 (.bin .sub (LT 70) (LT 72)),LO 74 (.make [(.int .u32 0)] 4 (LT 73) (LT 73)),LM 13 74] (.seq (LS [LM 75 13,LO 76 (.len (LT 75)),LO 77 (.bin .sub (LT 76) (LI 1)),LM 14 77] (.block 0 (.loop nN))) (LS [LM 144 9,LO 145 (.call 182 [(LT 144)]),LM 9 145] (.seq (LS [LM 146 9,LO 147 (.len (LT 146)),LO 148 (.mv (LI 0))] (.block 4 (.loop kB))) (LS [LM 177 13,LO 178 (.call 182 [(LT 177)]),LM 179 9,LO 180 (.call 182 [(LT 179)]),LM 4 178,LM 5 180] .ret))))))))))))
def rS:aR:=⟨181,[(.tmp 4),(.tmp 5)],oW⟩
theorem G2:gD 183=some rS:=by kernel_rfl
def fE:aD:=(.seq (LS [LM 3 0,LO 4 (.len (LT 3)),LO 5 (.bin .gtr (LT 4) (LI 0)),LM 6 5,LY 6 7 (.mv (LT 0)),LY 6 8 (.mv (LT 0)),LY 6 9 (.len (LT 8)),LY 6 10 (.bin .sub (LT 9) (LI 1)),LY 6 11 (.iaddr 1 (LT 7) (LT 10)),LY 6 12 (LL 11),LY 6 13 (.bin .eql (LT 12) (.const (.int .u32 0))),LO 14 (.pick (LT 6) (LT 13) LF)] (.cond (LT 14) .skip (.exit 0))) (.block 1 (.dH [LM 15 0,LM 16 0,LO 17 (.len (LT 16)),LO 18 (.bin .sub (LT 17) (LI 1)),LO 19 (.sub 1 (LT 15) none (some (LT 18)) none),LM 0 19])))
def rZ:aD:=(LS [LO 2 (.mv (.const (.slice none 0 0)))] (.seq (.block 0 (.loop fE)) (LS [LM 20 0,LM 2 20] .ret)))
def uZ:aR:=⟨21,[(.tmp 2)],rZ⟩
theorem zL:gD 182=some uZ:=by kernel_rfl
def lP:aD:=(.seq (LS [LM 11 0,LO 12 (.len (LT 11)),LO 13 (.bin .gtr (LT 12) (LI 0))] (.cond (LT 13) .skip (.exit 0))) (.block 1 (LS [LM 15 0,LO 16 (.call 197 [(LT 15),(.const (.int .u32 1000000000))]),LM 14 16,LO 17 (LX 14 0),LO 18 (LX 14 1),LM 4 17,LM 5 18] (LS [LM 19 5,LO 20 (.cvt .u64 (LT 19)),LO 21 (.call 214 [(LT 20),(LI 10)]),LM 6 21] (.seq (LS [LM 22 4,LO 23 (.len (LT 22)),LO 24 (.bin .gtr (LT 23) (LI 0))] (.cond (LT 24) (.dH [LM 25 6,LO 26 (.slen (LT 25)),LO 27 (.bin .sub (LI 9) (LT 26)),LO 28 (.call 215 [(.const (.string ⟨#[48]⟩)),(LT 27)]),LM 29 6,LO 30 (.bin .add (LT 28) (LT 29)),LM 6 30]) .skip)) (.dH [LM 31 3,LM 32 6,LO 33 (.lit [(.string ⟨#[]⟩)] 1 [(0,(LT 32))]),LO 34 (.app 1 16 (LT 31) (LT 33)),LM 35 4,LM 3 34,LM 0 35]))))))
def rY:aD:=(LS [LO 2 (.mv (.const (.string ⟨#[]⟩)))] (.seq (LS [LM 7 0,LO 8 (.len (LT 7)),LO 9 (.bin .eql (LT 8) (LI 0))] (.cond (LT 9) (LS [LO 2 (.mv (.const (.string ⟨#[48]⟩)))] .ret) .skip)) (LS [LO 10 (.lit [(.string ⟨#[]⟩)] 0 []),LM 3 10] (.seq (.block 0 (.loop lP)) (LS [LM 36 3,LO 37 (.call 216 [(LT 36)])] (LS [LM 38 3,LO 39 (.call 217 [(LT 38),(.const (.string ⟨#[]⟩))]),LM 2 39] .ret))))))
def uT:aR:=⟨40,[(.tmp 2)],rY⟩
theorem F1:gD 196=some uT:=by kernel_rfl
def jQ:aD:=(LS [LO 31 (.bin .lss (LT 30) (LT 29))] (.seq (.cond (LT 31) .skip (.exit 0)) (.seq (.block 1 (LS [LM 32 30,LM 5 32] (LS [LM 33 0,LM 34 5,LO 35 (.sidx (LT 33) (LT 34)),LO 36 (.bin .lss (LT 35) (.const (.int .u8 48))),LM 37 36,LZ 37 38 (.mv (LT 0)),LZ 37 39 (.mv (LT 5)),LZ 37 40 (.sidx (LT 38) (LT 39)),LZ 37 41 (.bin .gtr (LT 40) (.const (.int .u8 57))),LO 42 (.pick (LT 37) LG (LT 41))] (.cond (LT 42) (LS [LO 2 (.mv (.const (.slice none 0 0))),LO 3 (.mv LF)] .ret) .skip)))) (.dH [LO 43 (.bin .add (LT 30) (LI 1)),LM 30 43]))))
def qE:aD:=(LS [LO 60 (.bin .lss (LT 59) (LT 58))] (.seq (.cond (LT 60) .skip (.exit 4)) (.seq (.block 5 (.dH [LM 61 9,LO 62 (.bin .mul (LT 61) (.const (.int .u64 10))),LM 9 62])) (.dH [LO 63 (.bin .add (LT 59) (LI 1)),LM 59 63]))))
def mP:aD:=(.seq (LS [LM 44 0,LO 45 (.bin .neq (LT 44) (.const (.string ⟨#[]⟩)))] (.cond (LT 45) .skip (.exit 2))) (.block 3 (LS [LM 46 0,LO 47 (.slen (LT 46)),LO 48 (.bin .rem (LT 47) (LI 9)),LM 6 48] (.seq (LS [LM 49 6,LO 50 (.bin .eql (LT 49) (LI 0))] (.cond (LT 50) (.dH [LO 6 (.mv (LI 9))]) .skip)) (LS [LM 52 0,LM 53 6,LO 54 (.ssub (LT 52) none (some (LT 53))),LO 55 (.call 192 [(LT 54),(LI 10),(LI 64)]),LM 51 55,LO 56 (LX 51 0),LO 57 (LX 51 1),LM 7 56,LM 8 57] (LS [LO 9 (.mv (.const (.int .u64 1)))] (.seq (LS [LM 58 6,LO 59 (.mv (LI 0))] (.block 4 (.loop qE))) (.dH [LM 64 4,LM 65 9,LQ 66 (.call 139 [(LT 65)]),LQ 67 (.call 143 [(LT 64),(LT 66)]),LM 68 7,LQ 69 (.call 139 [(LT 68)]),LQ 70 (.call 145 [(LT 67),(LT 69)]),LM 71 0,LM 72 6,LO 73 (.ssub (LT 71) (some (LT 72)) none),LM 4 70,LM 0 73]))))))))
def kV:aD:=(LS [LO 2 (.mv (.const (.slice none 0 0))),LO 3 (.mv LF)] (.seq (LS [LM 10 0,LO 11 (.bin .eql (LT 10) (.const (.string ⟨#[]⟩))),LM 12 11,LZ 12 13 (.mv (LT 0)),LZ 12 14 (.slen (LT 13)),LZ 12 15 (.bin .gtr (LT 14) (LI 200)),LO 16 (.pick (LT 12) LG (LT 15)),LM 17 16,LZ 17 18 (.mv (LT 0)),LZ 17 19 (.sidx (LT 18) (LI 0)),LZ 17 20 (.bin .eql (LT 19) (.const (.int .u8 48))),LZ 17 21 (.mv (LT 20)),LY 21 22 (.mv (LT 0)),LY 21 23 (.slen (LT 22)),LY 21 24 (.bin .gtr (LT 23) (LI 1)),LZ 17 25 (.pick (LT 21) (LT 24) LF),LO 26 (.pick (LT 17) LG (LT 25))] (.cond (LT 26) (LS [LO 2 (.mv (.const (.slice none 0 0))),LO 3 (.mv LF)] .ret) .skip)) (LS [LO 27 (.lit [(.int .u32 0)] 0 []),LM 4 27] (.seq (LS [LM 28 0,LO 29 (.slen (LT 28)),LO 30 (.mv (LI 0))] (.block 0 (.loop jQ))) (.seq (.block 2 (.loop mP)) (LS [LM 74 4,LM 2 74,LO 3 (.mv LG)] .ret))))))
def oS:aR:=⟨75,[(.tmp 2),(.tmp 3)],kV⟩
theorem KH:gD 174=some oS:=by kernel_rfl
def kP:aD:=(.seq (LS [LM 9 5,LO 10 (.bin .geq (LT 9) (LI 0)),LM 11 10,LY 11 12 (.mv (LT 0)),LY 11 13 (.len (LT 12)),LY 11 14 (.bin .leq (LT 13) (LI 2)),LO 15 (.pick (LT 11) (LT 14) LF)] (.cond (LT 15) .skip (.exit 0))) (.seq (.block 1 (.dH [LM 18 4,LO 19 (.bin .shl (LT 18) (.const (.int .u64 32))),LM 20 0,LM 21 5,LO 22 (.iaddr 1 (LT 20) (LT 21)),LO 23 (LL 22),LO 24 (.cvt .u64 (LT 23)),LO 25 (.bin .add (LT 19) (LT 24)),LM 4 25])) (.dH [LM 16 5,LO 17 (.bin .sub (LT 16) (LI 1)),LM 5 17])))
def xF:aD:=(LS [LO 2 (.mv (.const (.int .u64 0))),LO 3 (.mv LF)] (LS [LO 4 (.mv (.const (.int .u64 0)))] (.seq (LS [LM 6 0,LO 7 (.len (LT 6)),LO 8 (.bin .sub (LT 7) (LI 1)),LM 5 8] (.block 0 (.loop kP))) (LS [LM 26 4,LM 27 0,LO 28 (.len (LT 27)),LO 29 (.bin .leq (LT 28) (LI 2)),LM 2 26,LM 3 29] .ret))))
def AA:aR:=⟨30,[(.tmp 2),(.tmp 3)],xF⟩
theorem Fq:gD 193=some AA:=by kernel_rfl
def lO:aD:=(.seq (LS [LM 15 8,LO 16 (.bin .geq (LT 15) (LI 0))] (.cond (LT 16) .skip (.exit 0))) (.seq (.block 1 (LS [LM 19 7,LO 20 (.bin .shl (LT 19) (.const (.int .u64 32))),LM 21 0,LM 22 8,LO 23 (.iaddr 1 (LT 21) (LT 22)),LO 24 (LL 23),LO 25 (.cvt .u64 (LT 24)),LO 26 (.bin .add (LT 20) (LT 25)),LM 7 26] (LS [LM 27 6,LM 28 8,LM 29 7,LM 30 1,LO 31 (.cvt .u64 (LT 30)),LO 32 (.bin .quo (LT 29) (LT 31)),LO 33 (.cvt .u32 (LT 32)),LO 34 (.iaddr 1 (LT 27) (LT 28)),LN (.store 1 (LT 34) (LT 33))] (.dH [LM 35 7,LM 36 1,LO 37 (.cvt .u64 (LT 36)),LO 38 (.bin .rem (LT 35) (LT 37)),LM 7 38])))) (.dH [LM 17 8,LO 18 (.bin .sub (LT 17) (LI 1)),LM 8 18])))
def sR:aD:=(LS [LO 4 (.mv (.const (.slice none 0 0))),LO 5 (.mv (.const (.int .u32 0)))] (LS [LM 9 0,LO 10 (.len (LT 9)),LO 11 (.make [(.int .u32 0)] 4 (LT 10) (LT 10)),LM 6 11,LO 7 (.mv (.const (.int .u64 0)))] (.seq (LS [LM 12 0,LO 13 (.len (LT 12)),LO 14 (.bin .sub (LT 13) (LI 1)),LM 8 14] (.block 0 (.loop lO))) (LS [LM 39 6,LO 40 (.call 182 [(LT 39)]),LM 41 7,LO 42 (.cvt .u32 (LT 41)),LM 4 40,LM 5 42] .ret))))
def vG:aR:=⟨43,[(.tmp 4),(.tmp 5)],sR⟩
theorem Cm:gD 197=some vG:=by kernel_rfl
def mY:aD:=(LS [LO 16 (.bin .lss (LT 15) (LT 14))] (.seq (.cond (LT 16) .skip (.exit 0)) (.seq (.block 1 (LS [LM 17 15,LO 18 (.iaddr 1 (LT 13) (LT 15)),LO 19 (LL 18),LM 6 17,LM 7 19] (LS [LM 20 7,LO 21 (.cvt .u64 (LT 20)),LM 22 1,LO 23 (.bin .shl (LT 21) (LT 22)),LM 8 23] (LS [LM 24 5,LM 25 6,LO 26 (.iaddr 1 (LT 24) (LT 25)),LO 27 (LL 26),LM 28 8,LO 29 (.cvt .u32 (LT 28)),LO 30 (.bin .or (LT 27) (LT 29)),LO 31 (.iaddr 1 (LT 24) (LT 25)),LN (.store 1 (LT 31) (LT 30))] (.dH [LM 32 5,LM 33 6,LO 34 (.bin .add (LT 33) (LI 1)),LM 35 8,LO 36 (.bin .shr (LT 35) (.const (.int .u64 32))),LO 37 (.cvt .u32 (LT 36)),LO 38 (.iaddr 1 (LT 32) (LT 34)),LN (.store 1 (LT 38) (LT 37))]))))) (.dH [LO 39 (.bin .add (LT 15) (LI 1)),LM 15 39]))))
def uB:aD:=(LS [LO 4 (.mv (.const (.slice none 0 0)))] (LS [LM 9 0,LO 10 (.len (LT 9)),LO 11 (.bin .add (LT 10) (LI 1)),LO 12 (.make [(.int .u32 0)] 4 (LT 11) (LT 11)),LM 5 12] (.seq (LS [LM 13 0,LO 14 (.len (LT 13)),LO 15 (.mv (LI 0))] (.block 0 (.loop mY))) (LS [LM 40 5,LM 4 40] .ret))))
def xC:aR:=⟨41,[(.tmp 4)],uB⟩
theorem CQ:gD 199=some xC:=by kernel_rfl
def fL:aD:=(LS [LO 15 (.bin .lss (LT 14) (LT 13))] (.seq (.cond (LT 15) .skip (.exit 0)) (.seq (.block 1 (LS [LM 16 14,LM 9 16] (.seq (LS [LM 17 9,LM 18 1,LO 19 (.len (LT 18)),LO 20 (.bin .lss (LT 17) (LT 19))] (.cond (LT 20) (.dH [LM 21 7,LM 22 2,LM 23 1,LM 24 9,LO 25 (.iaddr 1 (LT 23) (LT 24)),LO 26 (LL 25),LO 27 (.cvt .u64 (LT 26)),LO 28 (.bin .mul (LT 22) (LT 27)),LO 29 (.bin .add (LT 21) (LT 28)),LM 7 29]) .skip)) (LS [LM 30 0,LM 31 9,LO 32 (.iaddr 1 (LT 30) (LT 31)),LO 33 (LL 32),LO 34 (.cvt .i64 (LT 33)),LM 35 7,LO 36 (.cvt .u32 (LT 35)),LO 37 (.cvt .i64 (LT 36)),LO 38 (.bin .sub (LT 34) (LT 37)),LM 39 8,LO 40 (.bin .sub (LT 38) (LT 39)),LM 10 40] (LS [LM 41 7,LO 42 (.bin .shr (LT 41) (.const (.int .u64 32))),LM 7 42] (LS [LO 8 (.mv (LI 0))] (.seq (LS [LM 43 10,LO 44 (.bin .lss (LT 43) (LI 0))] (.cond (LT 44) (.dH [LO 8 (.mv (LI 1))]) .skip)) (.dH [LM 45 0,LM 46 9,LM 47 10,LO 48 (.cvt .u32 (LT 47)),LO 49 (.iaddr 1 (LT 45) (LT 46)),LN (.store 1 (LT 49) (LT 48))])))))))) (.dH [LO 50 (.bin .add (LT 14) (LI 1)),LM 14 50]))))
def kX:aD:=(LS [LO 60 (.bin .lss (LT 59) (LT 58))] (.seq (.cond (LT 60) .skip (.exit 2)) (.seq (.block 3 (LS [LM 61 59,LM 11 61] (LS [LM 62 7,LM 63 0,LM 64 11,LO 65 (.iaddr 1 (LT 63) (LT 64)),LO 66 (LL 65),LO 67 (.cvt .u64 (LT 66)),LO 68 (.bin .add (LT 62) (LT 67)),LM 7 68] (.seq (LS [LM 69 11,LM 70 1,LO 71 (.len (LT 70)),LO 72 (.bin .lss (LT 69) (LT 71))] (.cond (LT 72) (.dH [LM 73 7,LM 74 1,LM 75 11,LO 76 (.iaddr 1 (LT 74) (LT 75)),LO 77 (LL 76),LO 78 (.cvt .u64 (LT 77)),LO 79 (.bin .add (LT 73) (LT 78)),LM 7 79]) .skip)) (LS [LM 80 0,LM 81 11,LM 82 7,LO 83 (.cvt .u32 (LT 82)),LO 84 (.iaddr 1 (LT 80) (LT 81)),LN (.store 1 (LT 84) (LT 83))] (.dH [LM 85 7,LO 86 (.bin .shr (LT 85) (.const (.int .u64 32))),LM 7 86])))))) (.dH [LO 87 (.bin .add (LT 59) (LI 1)),LM 59 87]))))
def BY:aD:=(LS [LO 6 (.mv LF)] (LS [LO 7 (.mv (.const (.int .u64 0))),LO 8 (.mv (LI 0))] (.seq (LS [LM 12 0,LO 13 (.len (LT 12)),LO 14 (.mv (LI 0))] (.block 0 (.loop fL))) (.seq (LS [LM 51 8,LO 52 (.bin .eql (LT 51) (LI 0)),LM 53 52,LY 53 54 (.mv (LT 7)),LY 53 55 (.bin .eql (LT 54) (.const (.int .u64 0))),LO 56 (.pick (LT 53) (LT 55) LF)] (.cond (LT 56) (LS [LO 6 (.mv LF)] .ret) .skip)) (LS [LO 7 (.mv (.const (.int .u64 0)))] (.seq (LS [LM 57 0,LO 58 (.len (LT 57)),LO 59 (.mv (LI 0))] (.block 2 (.loop kX))) (LS [LO 6 (.mv LG)] .ret)))))))
def Ev:aR:=⟨88,[(.tmp 6)],BY⟩
theorem Jw:gD 200=some Ev:=by kernel_rfl
end Go.PM
namespace Go.PM
end Go.PM
namespace Go.PM
def Gd:aD:=(LS [LO 6 (.mv LF)] (LS [LM 7 0,LM 8 1,LO 9 (.bin .geq (LT 7) (LT 8)),LM 10 9,LY 10 11 (.mv (LT 0)),LY 10 12 (.mv (LT 2)),LY 10 13 (.bin .leq (LT 11) (LT 12)),LO 14 (.pick (LT 10) (LT 13) LF),LM 6 14] .ret))
def Kn:aR:=⟨15,[(.tmp 6)],Gd⟩
theorem O0:gD 88=some Kn:=by kernel_rfl
def zW:aD:=(LS [LO 4 (.mv (LI 0))] (.seq (LS [LM 5 0,LM 6 1,LO 7 (.bin .gtr (LT 5) (LT 6))] (.cond (LT 7) (LS [LM 8 0,LM 4 8] .ret) .skip)) (LS [LM 9 1,LM 4 9] .ret)))
def Dm:aR:=⟨10,[(.tmp 4)],zW⟩
theorem Mw:gD 97=some Dm:=by kernel_rfl
def Ab:aD:=(LS [LO 4 (.mv (LI 0))] (.seq (LS [LM 5 0,LM 6 1,LO 7 (.bin .lss (LT 5) (LT 6))] (.cond (LT 7) (LS [LM 8 0,LM 4 8] .ret) .skip)) (LS [LM 9 1,LM 4 9] .ret)))
def C5:aR:=⟨10,[(.tmp 4)],Ab⟩
theorem MQ:gD 91=some C5:=by kernel_rfl
end Go.PM
namespace Go.PM
theorem Xs (x a b:Int):TC 93 [VI x,VI a,VI b] (.sc (.bool (decide (a≤x∧x≤b)))):=by
 refine TC.walk ⟨true,false⟩ Xf rfl (Nat.le_of_ble_eq_true rfl) rfl rfl ?_
 by_cases h1:a≤x<;>by_cases h2:x≤b<;>simp only[UL,Ot,h1,h2,VX,Nat.reduceEqDiff,Nat.reduceAdd]<;>exact aF rfl
theorem O8 (x a b:Int):TC 88 [VI x,VI a,VI b] (.sc (.bool (decide (a≤x∧x≤b)))):=by
 refine TC.walk ⟨true,false⟩ O0 rfl (Nat.le_of_ble_eq_true rfl) rfl rfl ?_
 by_cases h1:a≤x<;>by_cases h2:x≤b<;>simp only[Kn,Gd,h1,h2,VX,Nat.reduceEqDiff,Nat.reduceAdd]<;>exact aF rfl
end Go.PM
namespace Go.PM
theorem MS (x y:Int):TC 97 [VI x,VI y] (VI (max x y)):=by
 refine TC.walk ⟨true,false⟩ Mw rfl (Nat.le_of_ble_eq_true rfl) rfl rfl ?_
 by_cases h:y<x
 ·simp only[Dm,zW,h,VX,Nat.reduceEqDiff,Nat.reduceAdd]
  rw[Int.max_eq_left (by omega)]
  exact aF rfl
 ·simp only[Dm,zW,h,VX,Nat.reduceEqDiff,Nat.reduceAdd]
  rw[Int.max_eq_right (by omega)]
  exact aF rfl
end Go.PM
namespace Go.PM
theorem NT {α:Type} {f:α→VV} {e b:Nat} {fill:α} {xs:List α} {H:aA} (hp:∀x,aN (f x)=true) (h:aH H b 0=some ((gB fill xs).map f,e,true)):fz depth H (.ref b 0 0 xs.length (xs.length+room xs.length))=some (aO f xs):=by
 rw[PN h (by simp[gB]) (Nat.le_add_right _ _) (eR hp),←List.map_take,FW]
theorem afX {α:Type} {f:α→VV} {e b g c:Nat} {xs:List α} {H:aA} (hp:∀x,aN (f x)=true) (h:aH H b g=some (xs.map f,e,true)) (hc:xs.length≤c):fz depth H (.ref b g 0 xs.length c)=some (aO f xs):=by
 rw[Fb h (by simp) hc (eR hp)]
theorem cC {H H':aA} {b g:Nat} {x:List VV×Nat×Bool} (hh:H <+: H') (h:aH H b g=some x):aH H' b g=some x:=by
 obtain⟨L,rfl⟩:=hh
 exact fW h
def Seen {α:Type} (f:α→VV) (xs:List α) (H:aA) (r:VV):Prop:=∀H',H <+: H'→fz depth H' r=some (aO f xs)
theorem Seen.now {α:Type} {f:α→VV} {xs:List α} {H:aA} {r:VV} (h:Seen f xs H r):fz depth H r=some (aO f xs):=h H (List.prefix_refl _)
theorem Seen.pre {α:Type} {f:α→VV} {xs:List α} {H H':aA} {r:VV} (h:Seen f xs H r) (hh:H <+: H'):Seen f xs H' r:=fun H'' h'=>h H'' (hh.trans h')
theorem abU {α:Type} {f:α→VV} {e F lo:Nat} {fill:α} {xs:List α} {bare:Bool} {H:aA} {K:VV→aA→Prop} (h:FC F [aO f xs,.sc (.bool bare)] (ToR f e fill xs bare)) (sT:AN.contains F=true) (hl:∀x,(aB (f x)).length=e) (hp:∀x,aN (f x)=true)
  (hk:∀r H',H <+: H'→Seen f xs H' r→K r H'):cT F [aO f xs,.sc (.bool bare)] lo H K:=by
 refine h.call sT (mapM_pure (n:=7) (by simp[aL,jT hl hp];rfl)) ?_
 rintro r L (⟨_,rfl,rfl,rfl⟩ | ⟨rfl,rfl⟩)
 ·exact hk _ _ (List.prefix_append _ _) fun H' _=>LU
 ·refine hk _ _ (List.prefix_append _ _) fun H' hh=>NT (e:=e) (fill:=fill) hp (cC hh ?_)
  exact CA (i:=0) rfl
theorem aaL {α:Type} {f:α→VV} {e F lo:Nat} {fill:α} {xs:List α} {H:aA} {K:VV→aA→Prop} (h:FC F [aO f xs,.sc (.bool false)] (ToR f e fill xs false)) (sT:AN.contains F=true) (hl:∀x,(aB (f x)).length=e) (hp:∀x,aN (f x)=true)
  (hk:∀b H',H <+: H'→H.length≤b→aH H' b 0=some ((gB fill xs).map f,e,true)→K (.ref b 0 0 xs.length (xs.length+room xs.length)) H'):cT F [aO f xs,.sc (.bool false)] lo H K:=by
 refine h.call sT (mapM_pure (n:=7) (by simp[aL,jT hl hp];rfl)) ?_
 intro r L hL
 obtain⟨rfl,rfl⟩:=hL.no
 exact hk _ _ (List.prefix_append _ _) (Nat.le_refl _) (CA (i:=0) rfl)
def LV (lo hi:Nat) (bB:List Int) (H:aA) (v:VV):Prop :=
 (v = .tree [] .nil∧bB=[])∨∃b g c,lo≤b∧b<hi∧v = .ref b g 0 bB.length c∧bB.length≤c∧aH H b g=some (bB.map nV,1,true)
theorem LV.cB {lo hi:Nat} {bB:List Int} {H H':aA} {v:VV} (h:LV lo hi bB H v) (hk:∀b g x,lo≤b→b<hi→aH H b g=some x→aH H' b g=some x):LV lo hi bB H' v:=by
 rcases h with h | ⟨b,g,c,h1,h2,h3,h4,h5⟩
 ·exact .inl h
 ·exact .inr ⟨b,g,c,h1,h2,h3,h4,hk _ _ _ h1 h2 h5⟩
theorem LV.pre {lo hi:Nat} {bB:List Int} {H H':aA} {v:VV} (h:LV lo hi bB H v) (hh:H <+: H'):LV lo hi bB H' v:=h.cB fun _ _ _ _ _=>cC hh
theorem LV.set {lo hi b':Nat} {x:bT} {bB:List Int} {H:aA} {v:VV} (h:LV lo hi bB H v) (hb:b'<lo∨hi≤b'):LV lo hi bB (H.set b' x) v:=h.cB fun _ _ _ h1 h2=>cG (by omega)
theorem LV.fz {lo hi:Nat} {bB:List Int} {H:aA} {v:VV} (h:LV lo hi bB H v):fz depth H v=some (aqZ bB):=by
 rcases h with⟨rfl,rfl⟩ | ⟨b,g,c,h1,h2,rfl,h4,h5⟩
 ·exact LU
 ·exact afX (fun _=>rfl) h5 h4
theorem acD (b:Bool):MO true (Value.bool b) (Value.bool b)=some (.bool false):=by cases b<;>rfl
end Go.PM
namespace Go.PM
theorem iZ {H:aA} {g e:Nat} {es:List VV} {w:Bool}:aH (H++[.row g es e w]) H.length g=some (es,e,w):=CA (i:=0) rfl
theorem GD {H:aA} {x y:bT}:(H++[x]).set H.length y=H++[y]:=by
 rw[List.set_append_right _ _ (Nat.le_refl _),Nat.sub_self,List.set_cons_zero]
theorem Bh {H K:aA} {g:Nat}:aH (H++K) H.length g=aH K 0 g:=by
 unfold aH
 rw[List.getElem?_append_right (Nat.le_refl _),Nat.sub_self]
theorem OC {H K:aA} {g k:Nat}:aH (H++K) (H.length+k) g=aH K k g:=by
 unfold aH
 rw[List.getElem?_append_right (Nat.le_add_right _ _),Nat.add_sub_cancel_left]
theorem Un {H K:aA} {y:bT}:(H++K).set H.length y=H++K.set 0 y:=by
 rw[List.set_append_right _ _ (Nat.le_refl _),Nat.sub_self]
def BA (n:Nat) (H:aA):Prop:=∃L,H=List.replicate n .dead++L∧dL n L=true
theorem BA.app {n g e:Nat} {es:List VV} {w:Bool} {H:aA} (h:BA n H) (ho:nP n es=true):BA n (H++[.row g es e w]):=by
 obtain⟨L,rfl,hL⟩:=h
 exact⟨L++[.row g es e w],by rw[List.append_assoc],by simp only[dL,List.all_append,Bool.and_eq_true,List.all_cons,List.all_nil,and_true];exact⟨hL,ho⟩⟩
theorem BA.set {n b g e:Nat} {es:List VV} {w:Bool} {H:aA} (h:BA n H) (hb:n≤b) (ho:nP n es=true):BA n (H.set b (.row g es e w)):=by
 obtain⟨L,rfl,hL⟩:=h
 refine⟨L.set (b-n) (.row g es e w),by rw[List.set_append_right _ _ (by simpa using hb),List.length_replicate],?_⟩
 unfold dL at hL ⊢
 rw[List.all_eq_true] at hL ⊢
 intro x hx
 rcases List.mem_or_eq_of_mem_set hx with h | rfl
 ·exact hL x h
 ·exact ho
theorem BA.len {n:Nat} {H:aA} (h:BA n H):n≤H.length:=by
 obtain⟨L,rfl,_⟩:=h
 simp
def axK (r:Nat×List Int):VV := .ref r.1 0 0 r.2.length r.2.length
structure aoF (lo hi b:Nat) (H:aA) (rs:List (Nat×List Int)):Prop where
 nd:(rs.map (·.1)).Nodup
 row:∀r∈rs,lo≤r.1∧r.1<hi∧r.1≠b∧aH H r.1 0=some (r.2.map nV,1,true)
def RR (lo hi:Nat) (bB:List (List Int)) (H:aA) (v:VV):Prop :=
 (v = .tree [] .nil∧bB=[])∨∃b g c rs,lo≤b∧b<hi∧v = .ref b g 0 bB.length c∧bB.length≤c∧aH H b g=some (rs.map axK,1,true)∧rs.map (·.2)=bB∧aoF lo hi b H rs
theorem RR.cB {lo hi:Nat} {bB:List (List Int)} {H H':aA} {v:VV} (h:RR lo hi bB H v) (hk:∀b g x,lo≤b→b<hi→aH H b g=some x→aH H' b g=some x):RR lo hi bB H' v:=by
 rcases h with h | ⟨b,g,c,rs,h1,h2,h3,h4,h5,h6,h7⟩
 ·exact .inl h
 ·exact .inr ⟨b,g,c,rs,h1,h2,h3,h4,hk _ _ _ h1 h2 h5,h6,h7.nd,fun r hr=>by
   obtain⟨k1,k2,k3,k4⟩:=h7.row r hr
   exact⟨k1,k2,k3,hk _ _ _ k1 k2 k4⟩⟩
theorem RR.pre {lo hi:Nat} {bB:List (List Int)} {H H':aA} {v:VV} (h:RR lo hi bB H v) (hh:H <+: H'):RR lo hi bB H' v:=h.cB fun _ _ _ _ _=>cC hh
theorem RR.set {lo hi b':Nat} {x:bT} {bB:List (List Int)} {H:aA} {v:VV} (h:RR lo hi bB H v) (hb:b'<lo∨hi≤b'):RR lo hi bB (H.set b' x) v:=h.cB fun _ _ _ h1 h2=>cG (by omega)
theorem mapM_map {α:Type} {g:VV→Option VV} {f f':α→VV}:∀ {xs:List α},(∀x∈xs,g (f x)=some (f' x))→(xs.map f).mapM g=some (xs.map f')
 | [],_=>rfl
 |
  x::xs,h=>by
  rw[List.map_cons,List.mapM_cons,h x List.mem_cons_self,mapM_map fun y hy=>h y (List.mem_cons_of_mem _ hy)]
  rfl
theorem WN {H L:aA} {b g:Nat} {x:List VV×Nat×Bool} (hb:H.length≤b) (h:aH (List.replicate H.length .dead++L) b g=some x):aH (H++L) b g=some x:=by
 obtain⟨es,e,w⟩:=x
 rw[cL] at h ⊢
 rw[List.getElem?_append_right (by simpa using hb),List.length_replicate] at h
 rw[List.getElem?_append_right hb]
 exact h
end Go.PM
namespace Go.PM
abbrev rX (xs:List (List ByteArray)):VV:=aO fM xs
theorem Bc (xs:List (List ByteArray)):aN (rX xs)=true:=jT (size:=1) (fun _=>rfl) gO
theorem Gx (xs ys:List (List ByteArray)) (hn:xs.length≤1000000000) (Pa:∀x∈xs,x.length≤1000000000):TC 73 [rX xs,rX ys] (.sc (.bool (decide (xs=ys)))):=by
 refine TC.walk ⟨true,false⟩ Gu rfl (Nat.le_of_ble_eq_true rfl) (by simp[aL,Bc]) rfl ?_
 by_cases hl:(xs.length:Int)=(ys.length:Int)
 ·simp only[uU,rW,hl,VX,Nat.reduceEqDiff,Nat.reduceAdd]
  refine aQ (fun(i:Nat) ρ H=>i≤xs.length∧H=[]∧xs.take i=ys.take i∧ρ 0=rX xs∧ρ 1=rX ys∧ρ 5=VI i) (fun i=>xs.length-i) 0 ⟨Nat.zero_le _,rfl,by simp,rfl,rfl,rfl⟩ ?_
  rintro i ρ H ⟨hi,rfl,ht,h0,h1,h5⟩
  by_cases cP:(i:Int)<(xs.length:Int)
  ·obtain⟨x,hx⟩:∃x,xs[i]? = some x:=⟨_,List.getElem?_eq_getElem (by omega)⟩
   obtain⟨y,hy⟩:∃y,ys[i]? = some y:=⟨_,List.getElem?_eq_getElem (by omega)⟩
   have e1:=aI (f:=fM) (t := .op) (H:=[]) (size:=1) (k := .i64) hx rfl
   have e2:=aI (f:=fM) (t := .op) (H:=[]) (size:=1) (k := .i64) hy rfl
   have e3:=AE x y (Pa x (List.mem_of_getElem? hx))
   have wi:IntKind.i64.wrap ((i:Int)+1)=((i+1:Nat):Int):=wrapN (i+1) (by omega) (by omega)
   by_cases Ag:x=y
   ·subst Ag
    rw[decide_eq_true rfl] at e3
    simp only[lW,e3,h0,h1,h5,cP,e1,e2,wi,VX,Nat.reduceEqDiff,Nat.reduceAdd]
    refine⟨i+1,by omega,by omega,?_⟩
    rw[List.take_add_one,List.take_add_one,hx,hy,ht]
    (repeat' apply And.intro)<;>first | rfl | trivial
   ·rw[decide_eq_false Ag] at e3
    simp only[lW,e3,h0,h1,h5,cP,e1,e2,VX,Nat.reduceEqDiff,Nat.reduceAdd]
    have:¬xs=ys:=fun h=>Ag (by rw[h,hy] at hx;injection hx with hx;exact hx.symm)
    simp only[this,decide_false]
    exact aF rfl
  ·simp only[lW,h0,h1,h5,cP,VX,Nat.reduceEqDiff,Nat.reduceAdd]
   have:xs=ys:=by
    rw[List.take_of_length_le (by omega),List.take_of_length_le (by omega)] at ht
    exact ht
   simp only[this,decide_true]
   exact aF rfl
 ·simp only[uU,rW,hl,VX,Nat.reduceEqDiff,Nat.reduceAdd]
  have:¬xs=ys:=fun h=>hl (by rw[h])
  simp only[this,decide_false]
  exact aF rfl
def Yz:List ByteArray→Int→Int
 | [],l=>l
 | x::xs,l=>if l-x.size<0 then -1 else Yz xs (l-x.size)
def szS (xs:List ByteArray) (left:Int):Int:=if left-xs.length<0 then -1 else Yz xs (left-xs.length)
theorem acC:∀(xs:List ByteArray) (l:Int),0≤Yz xs l→Yz xs l≤l∧∀x∈xs,(x.size:Int)≤l
 | [],l,_=>⟨Int.le_refl _,fun x hx=>(by cases hx)⟩
 |
  x::xs,l,h=>by
  unfold Yz at h ⊢
  split at h
  ·omega
  ·rename_i hc
   rw[if_neg hc]
   obtain⟨h1,h2⟩:=acC xs _ h
   refine⟨by omega,fun y hy => ?_⟩
   rcases List.mem_cons.1 hy with rfl | hy
   ·omega
   ·have:=h2 y hy;omega
theorem amB {xs:List ByteArray} {l:Int} (h:0≤szS xs l):szS xs l≤l∧(xs.length:Int)≤l∧∀x∈xs,(x.size:Int)≤l:=by
 unfold szS at h ⊢
 split at h
 ·omega
 ·rename_i hc
  rw[if_neg hc]
  obtain⟨h1,h2⟩:=acC _ _ h
  exact⟨by omega,by omega,fun x hx=>by have:=h2 x hx;omega⟩
def okS (xs:List ByteArray):Prop:=xs.length≤9223372036854775807∧∀x∈xs,x.size≤9223372036854775807
theorem akS {xs:List ByteArray} {l:Int} (h:szS xs l<0) (hl:0≤l):szS xs l = -1:=by
 have key:∀(xs:List ByteArray) (l:Int),0≤l→Yz xs l<0→Yz xs l = -1:=by
  intro xs
  induction xs with
  | nil=>intro l h1 h2;unfold Yz at h2;omega
  |
   cons x xs ih =>
   intro l h1 h2
   unfold Yz at h2 ⊢
   split
   ·rfl
   ·rename_i hc
    rw[if_neg hc] at h2
    exact ih _ (by omega) h2
 unfold szS at h ⊢
 split
 ·rfl
 ·rename_i hc
  rw[if_neg hc] at h
  exact key _ _ (by omega) h
theorem Y8 {α:Type} {l:List α} {i:Nat} {x:α} (h:l[i]? = some x):l.drop i=x::l.drop (i+1):=by
 have bA:=List.getElem?_eq_some_iff.1 h
 rw[List.drop_eq_getElem_cons bA.1,bA.2]
theorem Hz (xs:List ByteArray) (left:Int) (hx:okS xs) (hl:0≤left∧left≤1000000):TC 32 [fM xs,VI left] (VI (szS xs left)):=by
 refine TC.walk ⟨true,false⟩ HU rfl (Nat.le_of_ble_eq_true rfl) (by simp[aL,gO];rfl) rfl ?_
 have hn:=hx.1
 have w:IntKind.i64.wrap (left-(xs.length:Int))=left-(xs.length:Int):=wrap64 (by omega) (by omega)
 by_cases h:left-(xs.length:Int)<0
 ·simp only[xS,tK,w,h,VX,Nat.reduceEqDiff,Nat.reduceAdd]
  unfold szS
  rw[if_pos h]
  exact aF rfl
 simp only[xS,tK,w,h,VX,Nat.reduceEqDiff,Nat.reduceAdd]
 refine aQ (fun(s:Nat×Int) ρ H=>s.1≤xs.length∧H=[]∧0≤s.2∧s.2≤left∧Yz (xs.drop s.1) s.2=szS xs left∧ρ 0=fM xs∧ρ 1=VI s.2∧ρ 5=VI s.1) (fun s=>xs.length-s.1) (0,left-xs.length) ⟨Nat.zero_le _,rfl,by simp only;omega,by simp only;omega,by unfold szS;rw[if_neg h];rfl,rfl,rfl,rfl⟩ ?_
 rintro⟨i,l⟩ ρ H ⟨hi,rfl,Af,Ds,hs,h0,h1,h5⟩
 simp only at hi Af Ds hs h1 h5
 by_cases cP:(i:Int)<(xs.length:Int)
 ·obtain⟨x,Pa⟩:∃x,xs[i]? = some x:=⟨_,List.getElem?_eq_getElem (by omega)⟩
  have Ck:=hx.2 x (List.mem_of_getElem? Pa)
  have e1:=aI (f:=sV) (t := .op) (H:=[]) (size:=1) (k := .i64) Pa rfl
  have e2:AU (.string x)=some (.int .i64 (x.size:Int)):=rfl
  have wi:IntKind.i64.wrap ((i:Int)+1)=((i+1:Nat):Int):=wrapN (i+1) (by omega) (by omega)
  have w1:IntKind.i64.wrap (l-(x.size:Int))=l-(x.size:Int):=wrap64 (by omega) (by omega)
  rw[Y8 Pa,Yz] at hs
  by_cases lU:l-(x.size:Int)<0
  ·rw[if_pos lU] at hs
   simp only[nI,h0,h1,h5,cP,e1,e2,w1,lU,VX,Nat.reduceEqDiff,Nat.reduceAdd]
   rw[←hs]
   exact aF rfl
  ·rw[if_neg lU] at hs
   simp only[nI,h0,h1,h5,cP,e1,e2,w1,lU,wi,VX,Nat.reduceEqDiff,Nat.reduceAdd]
   exact⟨(i+1,l-x.size),by simp only;omega,by simp only;omega,by simp only;omega,by simp only;omega,hs,by (repeat' apply And.intro)<;>first | rfl | trivial⟩
 ·have nS:i=xs.length:=by omega
  subst nS
  rw[List.drop_of_length_le (Nat.le_refl _),Yz] at hs
  simp only[nI,h0,h1,h5,cP,VX,Nat.reduceEqDiff,Nat.reduceAdd]
  rw[hs]
  exact aF rfl
end Go.PM
namespace Go.PM
def A0 (n:Nat) (H:aA) (bare:Bool) (x:List ByteArray) (c:VV):Prop :=
 (bare=true∧x=[]∧c = .tree [] .nil)∨∃b,n<b∧c = .ref b 0 0 x.length (x.length+room x.length)∧aH H b 0=some ((gB kJ x).map sV,1,true)
def I8 (n:Nat) (H:aA) (c:VV):Prop:=∃b,n<b∧c = .ref b 0 0 1 1∧aH H b 0=some ([sV kJ],1,true)
theorem A0.cB {n:Nat} {H H':aA} {bare:Bool} {x:List ByteArray} {c:VV} (h:A0 n H bare x c) (hk:∀b g x,n<b→aH H b g=some x→aH H' b g=some x):A0 n H' bare x c:=by
 rcases h with h | ⟨b,h1,h2,h3⟩
 ·exact .inl h
 ·exact .inr ⟨b,h1,h2,hk _ _ _ h1 h3⟩
theorem I8.cB {n:Nat} {H H':aA} {c:VV} (h:I8 n H c) (hk:∀b g x,n<b→aH H b g=some x→aH H' b g=some x):I8 n H' c:=by
 obtain⟨b,h1,h2,h3⟩:=h
 exact⟨b,h1,h2,hk _ _ _ h1 h3⟩
theorem A0.cell {n:Nat} {H:aA} {bare:Bool} {x:List ByteArray} {c:VV} (h:A0 n H bare x c):aB c=[c]∧bP c=true∧∀k,k≤n→eT k c=true:=by
 rcases h with⟨_,_,rfl⟩ | ⟨b,h1,rfl,_⟩
 ·exact⟨rfl,rfl,fun _ _=>rfl⟩
 ·exact⟨rfl,rfl,fun k hk=>by simp[eT];omega⟩
theorem I8.cell {n:Nat} {H:aA} {c:VV} (h:I8 n H c):aB c=[c]∧bP c=true∧∀k,k≤n→eT k c=true:=by
 obtain⟨b,h1,rfl,_⟩:=h
 exact⟨rfl,rfl,fun k hk=>by simp[eT];omega⟩
theorem A0.fz {n d:Nat} {H:aA} {bare:Bool} {x:List ByteArray} {c:VV} (h:A0 n H bare x c):PM.fz (d+2) H c=some (fM x):=by
 rcases h with⟨_,rfl,rfl⟩ | ⟨b,h1,rfl,h3⟩
 ·show PM.fz ((d+1)+1) H _=_
  unfold PM.fz
  have:aN (.tree [] .nil)=false:=rfl
  simp only[this,Bool.false_eq_true,if_false]
  rfl
 ·show PM.fz ((d+1)+1) H _=_
  unfold PM.fz
  have:aN (.ref b 0 0 x.length (x.length+room x.length))=false:=rfl
  simp only[this,h3,Bool.false_eq_true,if_false]
  rw[if_pos ⟨by simp[gB],Nat.le_add_right _ _⟩,List.drop_zero,←List.map_take,FW,mapM_pure (n:=d) (eR fun _=>rfl)]
  rfl
theorem I8.fz {n d:Nat} {H:aA} {c:VV} (h:I8 n H c):PM.fz (d+2) H c=some (fM [kJ]):=by
 obtain⟨b,h1,rfl,h3⟩:=h
 show PM.fz ((d+1)+1) H _=_
 unfold PM.fz
 have:aN (.ref b 0 0 1 1)=false:=rfl
 simp only[this,h3,Bool.false_eq_true,if_false]
 rw[if_pos ⟨by simp,Nat.le_refl _⟩,List.drop_zero,List.take_of_length_le (by simp),mapM_pure (n:=d) (by rfl)]
 rfl
def Ca (H:aA) (bare:Bool) (xs:List (List ByteArray)) (b:Nat):Prop :=
 ∃cells jM,aH H b 0=some (cells++jM,1,true)∧cells.length=xs.length∧jM.length=room xs.length∧(∀(i:Nat) x,xs[i]? = some x→∃c,cells[i]? = some c∧A0 b H bare x c)∧∀c∈jM,I8 b H c
theorem Ca.cB {H H':aA} {bare:Bool} {xs:List (List ByteArray)} {b:Nat} (h:Ca H bare xs b) (hk:∀b' g x,b≤b'→aH H b' g=some x→aH H' b' g=some x):Ca H' bare xs b:=by
 obtain⟨cells,jM,h1,h2,h3,h4,h5⟩:=h
 exact⟨cells,jM,hk _ _ _ (Nat.le_refl _) h1,h2,h3,fun i x hx=>by
  obtain⟨c,k1,k2⟩:=h4 i x hx
  exact⟨c,k1,k2.cB fun b' g x hb=>hk b' g x (Nat.le_of_lt hb)⟩,fun c hc=>(h5 c hc).cB fun b' g x hb=>hk b' g x (Nat.le_of_lt hb)⟩
theorem Ca.pre {H H':aA} {bare:Bool} {xs:List (List ByteArray)} {b:Nat} (h:Ca H bare xs b) (hh:H <+: H'):Ca H' bare xs b:=h.cB fun _ _ _ _=>cC hh
theorem BA.pre {n:Nat} {H L:aA} (h:BA n H) (hL:dL n L=true):BA n (H++L):=by
 obtain⟨L0,rfl,h0⟩:=h
 refine⟨L0++L,by rw[List.append_assoc],?_⟩
 unfold dL at *
 rw[List.all_append,h0,hL]
 rfl
end Go.PM
namespace Go.PM
structure JY where
 b:List ByteArray
 g:List (List ByteArray)
 e:List ByteArray
def svV (s:JY):VV := .agg [fM s.b,rX s.g,fM s.e]
theorem abR (s:JY):aN (svV s)=true:=by
 show aL [fM s.b,rX s.g,fM s.e]=true
 simp only[aL,gO,Bc,Bool.and_self]
mutual
theorem NQ {n n':Nat} (h:n≤n') (v:VV) (hv:eT n' v=true):eT n v=true:=by
 cases v with
 | any=>cases hv
 | sc v=>exact hv
 | agg cs=>exact AK h cs hv
 | eY cs=>exact AK h cs hv
 | tree es k=>exact hv
 | cV=>cases hv
 | ref b g o n c=>simp only[eT,decide_eq_true_eq] at hv ⊢;omega
 | ptr b g j o=>simp only[eT,decide_eq_true_eq] at hv ⊢;omega
 | tY=>cases hv
theorem AK {n n':Nat} (h:n≤n') (vs:List VV) (hv:nP n' vs=true):nP n vs=true:=by
 cases vs with
 | nil=>rfl
 |
  cons x xs =>
  simp only[nP,Bool.and_eq_true] at hv ⊢
  exact⟨NQ h x hv.1,AK h xs hv.2⟩
end
def BK (n k:Nat) (H:aA):Prop:=∀(b g:Nat) (es:List VV) (e:Nat) (w:Bool),k≤b→H[b]? = some (.row g es e w)→nP n es=true
theorem BK.app {n k:Nat} {H L:aA} (h:BK n k H) (hn:n≤H.length) (hL:dL H.length L=true):BK n k (H++L):=by
 intro b g es e w hb hr
 rcases Nat.lt_or_ge b H.length with bA | Ch
 ·rw[List.getElem?_append_left bA] at hr
  exact h b g es e w hb hr
 ·rw[List.getElem?_append_right Ch] at hr
  exact AK hn _ (List.all_eq_true.1 hL _ (List.mem_of_getElem? hr))
theorem BK.set {n k b:Nat} {H:aA} {x:bT} (h:BK n k H) (hb:b<k):BK n k (H.set b x):=by
 intro b' g es e w vJ hr
 rw[List.getElem?_set_ne (by omega)] at hr
 exact h b' g es e w vJ hr
theorem Sj {n k:Nat} {H:aA} (hk:n≤k) (hl:k≤H.length) (hO:BK n k H):∃L,Gm H (List.replicate n .dead++L)∧dL n L=true∧∀b g x,k≤b→aH H b g=some x→aH (List.replicate n .dead++L) b g=some x:=by
 have e:List.replicate n bT.dead++(List.replicate (k-n) .dead++H.drop k)=List.replicate k .dead++H.drop k:=by
  rw[←List.append_assoc,List.replicate_append_replicate,Nat.add_sub_cancel' hk]
 have get:∀b,k≤b→(List.replicate k bT.dead++H.drop k)[b]? = H[b]? := fun b hb=>by
  rw[List.getElem?_append_right (by simpa using hb),List.length_replicate,List.getElem?_drop]
  congr 1
  omega
 refine⟨List.replicate (k-n) .dead++H.drop k,⟨?_,?_⟩,?_,?_⟩
 ·rw[e];simp;omega
 ·intro b g es e' w hb
  rw[e] at hb
  rcases Nat.lt_or_ge b k with h | h
  ·rw[List.getElem?_append_left (by simpa using h)] at hb
   have:=List.eq_of_mem_replicate (List.mem_of_getElem? hb)
   cases this
  ·rw[get b h] at hb
   exact hb
 ·unfold dL
  rw[List.all_append,Bool.and_eq_true]
  constructor
  ·rw[List.all_eq_true]
   intro x hx
   rw[List.eq_of_mem_replicate hx]
  ·rw[List.all_eq_true]
   intro x hx
   obtain⟨j,hj⟩:=List.getElem?_of_mem hx
   rw[List.getElem?_drop] at hj
   cases x with
   | dead=>rfl
   | row g es e' w=>exact hO _ _ _ _ _ (Nat.le_add_right _ _) hj
 ·intro b g x hb h
  obtain⟨es,e',w⟩:=x
  rw[cL] at h ⊢
  rw[e,get b hb]
  exact h
def xJ (n:Nat) (H:aA) (bare:Bool) (xs:List (List ByteArray)) (c:VV):Prop :=
 (bare=true∧xs=[]∧c = .tree [] .nil)∨∃b,n<b∧c = .ref b 0 0 xs.length (xs.length+room xs.length)∧Ca H bare xs b
theorem xJ.cB {n:Nat} {H H':aA} {bare:Bool} {xs:List (List ByteArray)} {c:VV} (h:xJ n H bare xs c) (hk:∀b g x,n<b→aH H b g=some x→aH H' b g=some x):xJ n H' bare xs c:=by
 rcases h with h | ⟨b,h1,h2,h3⟩
 ·exact .inl h
 ·exact .inr ⟨b,h1,h2,h3.cB fun b' g x hb=>hk b' g x (by omega)⟩
theorem xJ.cell {n:Nat} {H:aA} {bare:Bool} {x:List (List ByteArray)} {c:VV} (h:xJ n H bare x c):aB c=[c]∧bP c=true:=by
 rcases h with⟨_,_,rfl⟩ | ⟨b,h1,rfl,_⟩
 ·exact⟨rfl,rfl⟩
 ·exact⟨rfl,rfl⟩
theorem Ca.fz {d b:Nat} {H:aA} {bare:Bool} {xs:List (List ByteArray)} (h:Ca H bare xs b):PM.fz (d+3) H (.ref b 0 0 xs.length (xs.length+room xs.length))=some (rX xs):=by
 obtain⟨cells,jM,h1,h2,h3,h4,h5⟩:=h
 show PM.fz ((d+2)+1) H _=_
 unfold PM.fz
 have:aN (.ref b 0 0 xs.length (xs.length+room xs.length))=false:=rfl
 simp only[this,h1,Bool.false_eq_true,if_false]
 rw[if_pos ⟨by simp;omega,Nat.le_add_right _ _⟩,List.drop_zero,List.take_left' h2]
 have:∀(xs:List (List ByteArray)) (cells:List VV),cells.length=xs.length→(∀(i:Nat) x,xs[i]? = some x→∃c,cells[i]? = some c∧A0 b H bare x c)→cells.mapM (PM.fz (d+2) H)=some (xs.map fM):=by
  intro xs
  induction xs with
  |
   nil=>intro cells hl _;cases cells with
   | nil=>rfl
   | cons=>cases hl
  |
   cons x xs ih =>
   intro cells hl hc
   cases cells with
   | nil=>cases hl
   |
    cons c cells =>
    obtain⟨c',k1,k2⟩:=hc 0 x rfl
    injection k1 with k1
    subst k1
    rw[List.mapM_cons,k2.fz,ih cells (by simpa using hl) fun i x hx=>hc (i+1) x hx]
    rfl
 rw[this xs cells h2 h4]
 rfl
theorem Kj {d:Nat} {H:aA}:PM.fz (d+1) H (.tree [] .nil)=some (.tree [] .op):=by
 unfold PM.fz
 have:aN (.tree [] .nil)=false:=rfl
 simp only[this,Bool.false_eq_true,if_false]
 rfl
theorem xJ.fz {n d:Nat} {H:aA} {bare:Bool} {xs:List (List ByteArray)} {c:VV} (h:xJ n H bare xs c):PM.fz (d+3) H c=some (rX xs):=by
 rcases h with⟨_,rfl,rfl⟩ | ⟨b,h1,rfl,h3⟩
 ·exact Kj
 ·exact h3.fz
def CF (n:Nat) (H:aA) (bare:Bool) (s:JY) (r:VV):Prop:=∃c0 c1 c2,r = .agg [c0,c1,c2]∧A0 n H bare s.b c0∧xJ n H bare s.g c1∧A0 n H bare s.e c2
theorem CF.cB {n:Nat} {H H':aA} {bare:Bool} {s:JY} {c:VV} (h:CF n H bare s c) (hk:∀b g x,n<b→aH H b g=some x→aH H' b g=some x):CF n H' bare s c:=by
 obtain⟨c0,c1,c2,rfl,h0,h1,h2⟩:=h
 exact⟨c0,c1,c2,rfl,h0.cB hk,h1.cB hk,h2.cB hk⟩
theorem CF.pre {n:Nat} {H H':aA} {bare:Bool} {s:JY} {c:VV} (h:CF n H bare s c) (hh:H <+: H'):CF n H' bare s c:=h.cB fun _ _ _ _=>cC hh
theorem CF.fz {n:Nat} {H:aA} {bare:Bool} {s:JY} {c:VV} (h:CF n H bare s c):PM.fz depth H c=some (svV s):=by
 obtain⟨c0,c1,c2,rfl,h0,h1,h2⟩:=h
 cases hp:aN (.agg [c0,c1,c2]) with
 |
  true =>
  simp only[aN,aL,Bool.and_eq_true] at hp
  have f0:=h0.fz (d:=0)
  have f1:=h1.fz (d:=0)
  have f2:=h2.fz (d:=0)
  rw[aJ hp.1] at f0
  rw[aJ hp.2.1] at f1
  rw[aJ hp.2.2.1] at f2
  injection f0 with f0
  injection f1 with f1
  injection f2 with f2
  subst f0 f1 f2
  exact aF (abR s)
 |
  false =>
  show PM.fz (7+1) H _=_
  unfold PM.fz
  simp only[hp,Bool.false_eq_true,if_false]
  rw[List.mapM_cons,h0.fz (d:=5),List.mapM_cons,h1.fz (d:=4),List.mapM_cons,h2.fz (d:=5)]
  rfl
end Go.PM
namespace Go.Proofs.YtjmflicajplclaaGreatDoor
open Go.ChangeShapes Go.WideShapes Go.ChangeAt Go.RowKit Go.PM
theorem SK {P:Program} {W:World} {base:Nat} {u e:TypeId} {v:Value} (ht:P.underlying u=some (.slice e)) (h:Cell.okWide P W .any base u v) (hB:¬Bm W):v = .slice none 0 0:=by
 simp only[Cell.okWide,ht,Cell.ok] at h
 split at h
 case h_7=>rfl
 case h_9 =>
  obtain⟨_,_,_,_,row,n,hs,_⟩:=h
  exfalso
  apply hB
  unfold World.shape? at hs
  split at hs
  ·rename_i arr e' fz hb
   exact⟨_,arr,e',fz,hb⟩
  ·cases hs
 all_goals first | exact h.elim | (rename_i hx;cases hx) | (rename_i hx _;cases hx)
theorem S4 {T:Type} {Bo:TypeId×Value→T} {W:World} (hB:Bm W):Oq Bo Tryz.prog W 33 1 fun vs=>∃s:List ByteArray,s.length≤maxLen∧(∀x∈s,x.size≤maxLen)∧vs=[fM s] :=
 Qa (f:=sV) (aeH:=fun x=>x.size≤maxLen) Tryz.underlying33 (by kernel_rfl) (by decide) hB Hi (OP Tryz.underlying9)
end Go.Proofs.YtjmflicajplclaaGreatDoor
namespace Go.Proofs.YtjmflicajplclaaGreatDoor
open Go.ChangeShapes Go.WideShapes Go.ChangeAt Go.RowKit Go.PM
theorem XR {T:Type} {Bo:TypeId×Value→T} {P:Program} {W:World} {t:TypeId} {v:Value} {d:DataW T} {ps:List MemPlace} {m:dE} {H:aE} {S:VV→Prop} (ho:Bm W→Oq Bo P W t 1 fun vs=>∃x,S x∧vs=[x]) (hno:¬Bm W→v = .slice none 0 0) (h0:S (.tree [] .op)) (hc:v.cells.toList=[v])
  (h:DataW.Trod Bo P W 0 (fun _=>true) true t v d ps) (hI:In m H W):∃m' L pv x,In m' (H++L) W∧(∀b l,m b=some l→m' b=some l)∧RV m' pv v∧VR (bare (· < (H++L).length) (H++L)) x pv∧S x:=by
 by_cases hB:Bm W
 ·obtain⟨fuel,hf⟩:=h
  rw[hc] at hf
  obtain⟨hl,m',L,JC,vs,hop,x,hx,rfl⟩:=ho hB fuel _ _ hf m H hI
  have hlen:=hop.len
  match JC,hlen with
  |
   [p],_ =>
   have hr:=hop.rv 0 (by simp)
   have ht:=hop.tree
   cases ht with
   | cons _ _ _ _ h1 h2=>exact⟨m',L,p,x,hop.inn,hop.ext,hr,h1,hx⟩
 ·have:=hno hB
  subst this
  exact⟨m,[],.slice none 0 0,.tree [] .op,by rw[List.append_nil];exact hI,fun _ _ h=>h,.MK,.nR _ (.inl rfl),h0⟩
theorem R5 {P:Program} {W:World} {base:Nat} {u e:TypeId} {v:Value} (ht:P.underlying u=some (.slice e)) (h:Value.okWide P W .any base u v) (hB:¬Bm W):v = .slice none 0 0:=by
 obtain⟨a,n,c,rfl⟩:=okWide_slice ht h
 simp only[Value.okWide,ht] at h
 exact SK ht h hB
theorem Q5 {P:Program} {W:World} {base:Nat} {u e:TypeId} {v:Value} (ht:P.underlying u=some (.slice e)) (h:Value.okWide P W .any base u v):v.cells.toList=[v]:=by
 obtain⟨a,n,c,rfl⟩:=okWide_slice ht h
 rfl
set_option maxRecDepth 100000 in
theorem WO {T:Type} {Bo:TypeId×Value→T} {W:World} {v:Value} {d:DataW T} {ps:List MemPlace} {base:Nat} {m:dE} {H:aE} (h:DataW.Trod Bo Tryz.prog W 0 (fun _=>true) true 33 v d ps) (hv:Value.okWide Tryz.prog W .any base 33 v) (hI:In m H W) :
  ∃m' L pv s,In m' (H++L) W∧(∀b l,m b=some l→m' b=some l)∧RV m' pv v∧VR (bare (· < (H++L).length) (H++L)) (fM s) pv∧okS s:=by
 obtain⟨m',L,pv,x,h1,h2,h3,h4,s,hs,rfl⟩:=XR (S:=fun x=>∃s:List ByteArray,okS s∧x=fM s) (fun hB fuel cs y h m H hI=>by
  obtain⟨hl,m',L,JC,vs,ho,s,h1,h2,rfl⟩:=S4 hB fuel cs y h m H hI
  exact⟨hl,m',L,JC,_,ho,_,⟨s,⟨h1,h2⟩,rfl⟩,rfl⟩) (R5 Tryz.underlying33 hv) ⟨[],⟨Nat.zero_le _,fun x hx=>(by cases hx)⟩,rfl⟩ (Q5 Tryz.underlying33 hv) h hI
 exact⟨m',L,pv,s,h1,h2,h3,h4,hs⟩
end Go.Proofs.YtjmflicajplclaaGreatDoor
namespace Go.PM
def Sg (f:Nat→Rat):Nat→Rat
 | 0=>0
 | n+1=>Sg f n+f n
theorem QL {f g:Nat→Rat}:∀ {n:Nat},(∀i,i<n→f i=g i)→Sg f n=Sg g n
 | 0,_=>rfl
 | n+1,h=>by rw[Sg,Sg,QL fun i hi=>h i (by omega),h n (by omega)]
theorem afY {f:Nat→Rat} {n:Nat} (h:∀i,i<n→f i=0):Sg f n=0:=by
 induction n with
 | zero=>rfl
 | succ n ih=>rw[Sg,ih fun i hi=>h i (by omega),h n (by omega)];grind
theorem alC (f g:Nat→Rat) (n:Nat):Sg (fun i=>f i-g i) n=Sg f n-Sg g n:=by
 induction n with
 | zero=>simp only[Sg];grind
 | succ n ih=>simp only[Sg,ih];grind
theorem aaD {f:Nat→Rat} {n k:Nat} (hk:k<n) (h:∀i,i<n→i≠k→f i=0):Sg f n=f k:=by
 induction n with
 | zero=>omega
 |
  succ n ih =>
  rw[Sg]
  by_cases SF:k=n
  ·subst SF
   rw[afY fun i hi=>h i (by omega) (by omega)]
   grind
  ·rw[ih (by omega) fun i hi=>h i (by omega),h n (by omega) (by omega)]
   grind
def L7 (n:Nat) (A:Nat→Nat→Rat) (b x:Nat→Rat):Prop:=∀i,i<n→Sg (fun j=>A i j*x j) n=b i
def aoS (n:Nat) (A:Nat→Nat→Rat):Prop:=∀x,L7 n A (fun _=>0) x→∀j,j<n→x j=0
theorem aoS.uniq {n:Nat} {A:Nat→Nat→Rat} {b x y:Nat→Rat} (h:aoS n A) (hx:L7 n A b x) (hy:L7 n A b y):∀j,j<n→x j=y j:=by
 intro j hj
 have:=h (fun j=>x j-y j) (fun i hi=>by
  have e:Sg (fun j=>A i j*(x j-y j)) n=Sg (fun j=>A i j*x j) n-Sg (fun j=>A i j*y j) n:=by
   rw[←alC]
   exact QL fun j _=>by grind
  rw[e,hx i hi,hy i hi]
  grind) j hj
 grind
def elm (c:Nat→Rat) (k:Nat) (A:Nat→Nat→Rat):Nat→Nat→Rat:=fun i j=>A i j-c i*A k j
def Ox (n k:Nat) (A:Nat→Nat→Rat):Prop:=(∀i j,i<n→j<k→j<i→A i j=0)∧∀j,j<k→A j j≠0
theorem Ox.step {n k:Nat} {A:Nat→Nat→Rat} (hU:Ox n k A) (hkk:A k k≠0) (hk:k<n):Ox n (k+1) (elm (fun i=>if k<i then A i k / A k k else 0) k A):=by
 refine⟨fun i j hi hj Ec => ?_,fun j hj => ?_⟩
 ·unfold elm
  by_cases Yl:j=k
  ·subst Yl
   simp only[]
   rw[if_pos Ec]
   grind
  ·rw[hU.1 i j hi (by omega) Ec,hU.1 k j hk (by omega) (by omega)]
   grind
 ·unfold elm
  by_cases Yl:j=k
  ·subst Yl
   simp only[]
   rw[if_neg (by omega)]
   grind
  ·simp only[]
   rw[if_neg (by omega)]
   have:=hU.2 j (by omega)
   grind
def Tz (n k:Nat) (A:Nat→Nat→Rat):Prop:=(∀i j,i<n→j<k→i≠j→A i j=0)∧∀j,j<k→A j j≠0
theorem Tz.upper {n k:Nat} {A:Nat→Nat→Rat} (h:Tz n k A):Ox n k A:=⟨fun i j hi hj Ec=>h.1 i j hi hj (by omega),h.2⟩
theorem Tz.step {n k:Nat} {A:Nat→Nat→Rat} (hU:Tz n k A) (hkk:A k k≠0) (hk:k<n):Tz n (k+1) (elm (fun i=>if i=k then 0 else A i k / A k k) k A):=by
 refine⟨fun i j hi hj Ec => ?_,fun j hj => ?_⟩
 ·unfold elm
  by_cases Yl:j=k
  ·subst Yl
   simp only[]
   rw[if_neg Ec]
   grind
  ·rw[hU.1 i j hi (by omega) Ec,hU.1 k j hk (by omega) (by omega)]
   grind
 ·unfold elm
  by_cases Yl:j=k
  ·subst Yl
   simp only[]
   rw[if_pos trivial]
   grind
  ·simp only[]
   rw[if_neg Yl,hU.1 k j hk (by omega) (by omega)]
   have:=hU.2 j (by omega)
   grind
theorem Tz.axU {n:Nat} {A:Nat→Nat→Rat} (hU:Tz n n A) (b:Nat→Rat):L7 n A b fun i=>b i / A i i:=by
 intro i hi
 rw[aaD hi fun j hj Ec=>by rw[hU.1 i j hi hj (Ne.symm Ec)];grind]
 have:=hU.2 i hi
 grind
theorem Ox.back {n k:Nat} {A:Nat→Nat→Rat} {b x:Nat→Rat} (hU:Ox n n A) (hx:L7 n A b x) (hk:k<n):x k=(b k-(Sg (fun j=>A k j*x j) n-Sg (fun j=>A k j*x j) (k+1))) / A k k:=by
 have h1:=hx k hk
 have h2:Sg (fun j=>A k j*x j) (k+1)=A k k*x k:=by
  rw[aaD (k:=k) (by omega) fun j hj Yl=>by rw[hU.1 k j hk (by omega) (by omega)];grind]
 have:=hU.2 k hk
 rw[h1,h2]
 grind
end Go.PM
namespace Go.PM
end Go.PM
namespace Go.PM
theorem Ca.get {b i:Nat} {H:aA} {xs:List (List ByteArray)} {x:List ByteArray} (h:Ca H false xs b) (hx:xs[i]? = some x) :
  ∃b',cI false 1 (.ptr b 0 i 0) H=some (.ref b' 0 0 x.length (x.length+room x.length))∧aH H b' 0=some ((gB kJ x).map sV,1,true):=by
 obtain⟨cells,jM,h1,h2,h3,h4,h5⟩:=h
 obtain⟨c,k1,k2⟩:=h4 i x hx
 rcases k2 with⟨k,_⟩ | ⟨b',_,rfl,k3⟩
 ·cases k
 ·refine⟨b',?_,k3⟩
  rw[cD,h1]
  simp only[List.getElem?_append_left (List.getElem?_eq_some_iff.1 k1).1,k1]
  rfl
theorem A0.ref {n:Nat} {H:aA} {x:List ByteArray} {c:VV} (h:A0 n H false x c):∃b,c = .ref b 0 0 x.length (x.length+room x.length)∧aH H b 0=some ((gB kJ x).map sV,1,true):=by
 rcases h with⟨k,_⟩ | ⟨b',_,rfl,k3⟩
 ·cases k
 ·exact⟨b',rfl,k3⟩
theorem xJ.ref {n:Nat} {H:aA} {x:List (List ByteArray)} {c:VV} (h:xJ n H false x c):∃b,c = .ref b 0 0 x.length (x.length+room x.length)∧Ca H false x b:=by
 rcases h with⟨k,_⟩ | ⟨b',_,rfl,k3⟩
 ·cases k
 ·exact⟨b',rfl,k3⟩
end Go.PM