/- Texts of a claim, in one: part 6. -/
import Derived.Laws.Strings
import Derived.KernelRfl
import Derived.Test.YtodamlihdkalfaaGreatDoorKSe
set_option linter.unusedSimpArgs false
set_option linter.unusedVariables false
namespace Go.PM
def room (n:Nat):Nat:=if n % 6=5 then 0 else if n % 3=0 then 1 else n
theorem room_le (n:Nat):room n≤n+1:=by unfold room;split<;>(try split)<;>omega
theorem iV (n:Nat):TC 118 [VI n] (VI (room n)):=by
 refine TC.walk ⟨true,false⟩ FK rfl (Nat.le_of_ble_eq_true rfl) rfl rfl ?_
 have e1:dF .rem (.int .i64 (n:Int)) (.int .i64 6)=some (.int .i64 (n % 6:Nat)):=by rw[O9 (by decide)];rfl
 have e2:dF .rem (.int .i64 (n:Int)) (.int .i64 3)=some (.int .i64 (n % 3:Nat)):=by rw[O9 (by decide)];rfl
 by_cases h1:((n % 6:Nat):Int)=5
 ·simp only[qB,nR,e1,h1,VX,Nat.reduceEqDiff,Nat.reduceAdd]
  unfold room
  rw[if_pos (by omega)]
  exact aG rfl
 ·by_cases h2:((n % 3:Nat):Int)=0
  ·simp only[qB,nR,e1,e2,h1,h2,VX,Nat.reduceEqDiff,Nat.reduceAdd]
   unfold room
   rw[if_neg (by omega),if_pos (by omega)]
   exact aG rfl
  ·simp only[qB,nR,e1,e2,h1,h2,VX,Nat.reduceEqDiff,Nat.reduceAdd]
   unfold room
   rw[if_neg (by omega),if_neg (by omega)]
   exact aG rfl
abbrev nV (n:Int):VV := .sc (.int .i64 n)
abbrev aeD (xs:List Int):VV:=aL nV xs
theorem Ht {n g e:Nat} {es:List VV} {w:Bool} {K:aA}:aP (List.replicate n fU.dead ++ .row g es e w::K) n g=some (es,e,w):=Rk (by simp)
theorem aeQ {n:Nat} {x y:fU} {K:aA}:(List.replicate n fU.dead++x::K).set n y=List.replicate n fU.dead++y::K:=by
 rw[List.set_append_right _ _ (by simp)]
 simp
theorem Fo {α:Type} (ys:List α) (k:Nat) (z x:α):(ys++List.replicate (k+1) z).set ys.length x=(ys++[x])++List.replicate k z:=by
 rw[List.set_append_right _ _ (Nat.le_refl _),Nat.sub_self,List.replicate_succ,List.set_cons_zero,List.append_assoc]
 rfl
def iI {α:Type} (fill:α) (xs:List α):List α:=xs++List.replicate (room xs.length) fill
theorem QO {α:Type} (fill:α) (xs:List α):(iI fill xs).length=xs.length+room xs.length:=by simp[iI]
theorem F4 {α:Type} (fill:α) (xs:List α):(iI fill xs).take xs.length=xs:=by simp[iI]
def ToR {α:Type} (f:α→VV) (e:Nat) (fill:α) (xs:List α) (bare:Bool) (n:Nat) (r:VV) (L:aA):Prop :=
 (bare=true∧xs=[]∧r = .tree [] .nil∧L=[])∨(r = .ref n 0 0 xs.length (xs.length+room xs.length)∧L=[.row 0 ((iI fill xs).map f) e true])
theorem ToR.no {α:Type} {f:α→VV} {e:Nat} {fill:α} {xs:List α} {n:Nat} {r:VV} {L:aA} (h:ToR f e fill xs false n r L):r = .ref n 0 0 xs.length (xs.length+room xs.length)∧L=[.row 0 ((iI fill xs).map f) e true]:=by
 rcases h with h | h
 ·cases h.1
 ·exact h
theorem JP {α:Type} {f:α→VV} {n:Nat} (hf:∀x,qQ n (f x)=true) (xs:List α):yF n (xs.map f)=true:=by
 rw[wX]
 intro x hx
 obtain⟨y,_,rfl⟩:=List.mem_map.1 hx
 exact hf y
end Go.PM
namespace Go.PM
abbrev sV (s:ByteArray):VV := .sc (.string s)
theorem Hv:∀s:ByteArray,(aB (sV s)).length=1:=fun _=>rfl
abbrev dI (xs:List ByteArray):VV:=aL sV xs
theorem dG (xs:List ByteArray):aM (dI xs)=true:=gW Hv fun _=>rfl
def jF:ByteArray:=⟨#[126,115,112,97,114,101,126]⟩
instance:Inhabited ByteArray:=⟨ByteArray.empty⟩
theorem ZE {a b:ByteArray}:(a.toList == b.toList)=decide (a=b):=by
 by_cases h:a=b
 ·subst h;simp
 ·rw[decide_eq_false h,beq_eq_false_iff_ne]
  intro he
  apply h
  obtain⟨⟨x⟩⟩:=a
  obtain⟨⟨y⟩⟩:=b
  rw[ByteArray.toList_eq,ByteArray.toList_eq] at he
  simp at he
  rw[he]
theorem F5 {a b:ByteArray}:dF .neq (.string a) (.string b)=some (.bool (!decide (a=b))):=by
 rw[←ZE];rfl
end Go.PM
namespace Go.PM
set_option maxHeartbeats 1000000 in
theorem As (xs:List ByteArray) (bare:Bool) (hn:xs.length≤1000000000):FC 43 [dI xs,.sc (.bool bare)] (ToR sV 1 jF xs bare):=by
 refine FC.walk ⟨true,false⟩ G4 (Nat.le_of_ble_eq_true rfl) fun n => ?_
 have hr:=room_le xs.length
 by_cases hb:bare=true∧(xs.length:Int)=0
 ·obtain⟨rfl,h0⟩:=hb
  simp only[sO,oR,h0,VX,Nat.reduceEqDiff,Nat.reduceAdd]
  refine⟨[],by simp,rfl,rfl,.inl ⟨rfl,?_,rfl,rfl⟩⟩
  cases xs with
  | nil=>rfl
  | cons x xs=>simp at h0;omega
 have yY:bare=true→¬(xs.length:Int)=0:=fun h h'=>hb ⟨h,h'⟩
 clear hb
 have w1:IntKind.i64.wrap ((xs.length:Int)+(room xs.length:Int))=((xs.length+room xs.length:Nat):Int):=wrapN _ (by omega) (by omega)
 have em:=tJ (H:=List.replicate n fU.dead) (z:=[.string ⟨#[]⟩]) (bytes:=16) (n:=xs.length+room xs.length) (f:=sV) (x:=⟨#[]⟩) rfl (by omega) (by omega)
 rw[List.length_replicate] at em
 have main:∀ρ:cP,ρ 0=dI xs→ρ 5 = .ref n 0 0 (xs.length+room xs.length) (xs.length+room xs.length)→ρ 6=VI 0→∀Q:VQ,
   (∀aZ:cP,aZ 0=dI xs→aZ 5 = .ref n 0 0 (xs.length+room xs.length) (xs.length+room xs.length)→Q (.exit 0) aZ (List.replicate n fU.dead++[.row 0 ((xs++List.replicate (room xs.length) (⟨#[]⟩:ByteArray)).map sV) 1 true])) →
   VW ⟨true,false⟩ n (.loop nJ) Q ρ (List.replicate n fU.dead++[.row 0 ((List.replicate (xs.length+room xs.length) (⟨#[]⟩:ByteArray)).map sV) 1 true]):=by
  intro ρ h0 h5 h6 Q hQ
  refine bC (fun(i:Nat) ρ H=>i≤xs.length∧H=List.replicate n fU.dead++[.row 0 ((xs.take i++List.replicate (xs.length+room xs.length-i) (⟨#[]⟩:ByteArray)).map sV) 1 true]∧ρ 0=dI xs∧ρ 5 = .ref n 0 0 (xs.length+room xs.length) (xs.length+room xs.length)∧ρ 6=VI i) (fun i=>xs.length-i) 0 ⟨Nat.zero_le _,by simp,h0,h5,h6⟩ ?_
  rintro i ρ H ⟨hi,rfl,h0,h5,h6⟩
  by_cases cQ:(i:Int)<(xs.length:Int)
  ·obtain⟨x,hx⟩:∃x,xs[i]? = some x:=⟨_,List.getElem?_eq_getElem (by omega)⟩
   have e1:=aI (f:=sV) (t := .op) (H:=List.replicate n fU.dead++[.row 0 ((xs.take i++List.replicate (xs.length+room xs.length-i) (⟨#[]⟩:ByteArray)).map sV) 1 true]) (size:=1) (k := .i64) hx rfl
   have e3:=bB (H:=List.replicate n fU.dead++[.row 0 ((xs.take i++List.replicate (xs.length+room xs.length-i) (⟨#[]⟩:ByteArray)).map sV) 1 true]) (b:=n) (g:=0) (o:=0) (n:=xs.length+room xs.length) (c:=xs.length+room xs.length) (i:=i) (k := .i64) Ht (by omega)
   have bD:(xs.take i).length=i:=by simp;omega
   have e4:=gI (H:=List.replicate n fU.dead++[.row 0 ((xs.take i++List.replicate (xs.length+room xs.length-i) (⟨#[]⟩:ByteArray)).map sV) 1 true]) (f:=sV) (e:=1) (x:=x) (j:=i) (lo:=n) (b:=n) (g:=0) Ht (by simp;omega) (Nat.le_refl _) rfl rfl
   have DN:=Fo (xs.take i) (xs.length+room xs.length-(i+1)) (⟨#[]⟩:ByteArray) x
   rw[bD,show xs.length+room xs.length-(i+1)+1=xs.length+room xs.length-i by omega] at DN
   have htk:xs.take i++[x]=xs.take (i+1):=by rw[List.take_add_one,hx];rfl
   rw[aeQ,DN,htk] at e4
   have wi:IntKind.i64.wrap ((i:Int)+1)=((i+1:Nat):Int):=wrapN (i+1) (by omega) (by omega)
   simp only[nJ,h0,h5,h6,cQ,e1,e3,e4,wi,VX,Nat.reduceEqDiff,Nat.reduceAdd]
   exact⟨i+1,by omega,by omega,by (repeat' apply And.intro)<;>first | rfl | trivial⟩
  ·have qR:i=xs.length:=by omega
   subst qR
   simp only[nJ,h0,h5,h6,cQ,VX,Nat.reduceEqDiff,Nat.reduceAdd]
   rw[List.take_length,Nat.add_sub_cancel_left]
   exact hQ _ h0 h5
 have Re:∀ρ:cP,ρ 0=dI xs→ρ 5 = .ref n 0 0 (xs.length+room xs.length) (xs.length+room xs.length)→ρ 7=VI xs.length→∀Q:VQ,
   (∀aZ:cP,aZ 0=dI xs→aZ 5 = .ref n 0 0 (xs.length+room xs.length) (xs.length+room xs.length)→Q (.exit 2) aZ (List.replicate n fU.dead++[.row 0 ((iI jF xs).map sV) 1 true])) →
   VW ⟨true,false⟩ n (.loop nK) Q ρ (List.replicate n fU.dead++[.row 0 ((xs++List.replicate (room xs.length) (⟨#[]⟩:ByteArray)).map sV) 1 true]):=by
  intro ρ h0 h5 h6 Q hQ
  refine bC (fun(j:Nat) ρ H=>j≤room xs.length∧H=List.replicate n fU.dead++[.row 0 ((xs++List.replicate j jF++List.replicate (room xs.length-j) (⟨#[]⟩:ByteArray)).map sV) 1 true]∧ρ 0=dI xs∧ρ 5 = .ref n 0 0 (xs.length+room xs.length) (xs.length+room xs.length)∧ρ 7=VI (xs.length+j:Nat)) (fun j=>room xs.length-j) 0 ⟨Nat.zero_le _,by simp,h0,h5,h6⟩ ?_
  rintro j ρ H ⟨hi,rfl,h0,h5,h6⟩
  have el:=fM (H:=List.replicate n fU.dead++[.row 0 ((xs++List.replicate j jF++List.replicate (room xs.length-j) (⟨#[]⟩:ByteArray)).map sV) 1 true]) (b:=n) (g:=0) (o:=0) (n:=xs.length+room xs.length) (c:=xs.length+room xs.length) Ht
  by_cases cQ:((xs.length+j:Nat):Int)<((xs.length+room xs.length:Nat):Int)
  ·have e3:=bB (H:=List.replicate n fU.dead++[.row 0 ((xs++List.replicate j jF++List.replicate (room xs.length-j) (⟨#[]⟩:ByteArray)).map sV) 1 true]) (b:=n) (g:=0) (o:=0) (n:=xs.length+room xs.length) (c:=xs.length+room xs.length) (i:=xs.length+j) (k := .i64) Ht (by omega)
   have e4:=gI (H:=List.replicate n fU.dead++[.row 0 ((xs++List.replicate j jF++List.replicate (room xs.length-j) (⟨#[]⟩:ByteArray)).map sV) 1 true]) (f:=sV) (e:=1) (x:=jF) (j:=xs.length+j) (lo:=n) (b:=n) (g:=0) Ht (by simp;omega) (Nat.le_refl _) rfl rfl
   have DN:=Fo (xs++List.replicate j jF) (room xs.length-(j+1)) (⟨#[]⟩:ByteArray) jF
   rw[show (xs++List.replicate j jF).length=xs.length+j by simp,show room xs.length-(j+1)+1=room xs.length-j by omega,show xs++List.replicate j jF++[jF]=xs++List.replicate (j+1) jF by rw[List.append_assoc,←List.replicate_succ']] at DN
   rw[aeQ,DN] at e4
   have e4:cR n 1 (.ptr n 0 (xs.length+j) 0) (.sc (.string ⟨#[126,115,112,97,114,101,126]⟩)) _=_:=e4
   have wi:IntKind.i64.wrap (((xs.length+j:Nat):Int)+1)=((xs.length+(j+1):Nat):Int):=wrapN _ (by omega) (by omega)
   simp only[nK,h0,h5,h6,cQ,el,e3,e4,wi,VX,Nat.reduceEqDiff,Nat.reduceAdd]
   exact⟨j+1,by omega,by omega,by (repeat' apply And.intro)<;>first | rfl | trivial⟩
  ·have qR:j=room xs.length:=by omega
   subst qR
   simp only[nK,h0,h5,h6,cQ,el,VX,Nat.reduceEqDiff,Nat.reduceAdd]
   rw[Nat.sub_self,List.replicate_zero,List.append_nil]
   exact hQ _ h0 h5
 have fin:∀aZ:cP,Fs 1 (.ref n 0 0 (xs.length+room xs.length) (xs.length+room xs.length)) none (some (VI xs.length)) none (List.replicate n fU.dead++[.row 0 ((iI jF xs).map sV) 1 true])=some (.ref n 0 0 xs.length (xs.length+room xs.length)):=by
  intro _
  rw[qV Ht (by omega)]
 cases bare with
 |
  true =>
  have KR:=yY rfl
  simp only[sO,oR,KR,w1,em,iV,VX,Nat.reduceEqDiff,Nat.reduceAdd]
  refine main _ rfl rfl rfl _ fun aZ h0 h5 => ?_
  simp only[h0,h5,VX,Nat.reduceEqDiff,Nat.reduceAdd]
  refine Re _ (by exact h0) (by exact h5) rfl _ fun zC h0 h5 => ?_
  simp only[h0,h5,fin zC,VX,Nat.reduceEqDiff,Nat.reduceAdd]
  refine⟨_,rfl,by simp[qQ],by simp[kQ,JP (f:=sV) (fun _=>rfl)],.inr ⟨rfl,rfl⟩⟩
 |
  false =>
  simp only[sO,oR,w1,em,iV,VX,Nat.reduceEqDiff,Nat.reduceAdd]
  refine main _ rfl rfl rfl _ fun aZ h0 h5 => ?_
  simp only[h0,h5,VX,Nat.reduceEqDiff,Nat.reduceAdd]
  refine Re _ (by exact h0) (by exact h5) rfl _ fun zC h0 h5 => ?_
  simp only[h0,h5,fin zC,VX,Nat.reduceEqDiff,Nat.reduceAdd]
  refine⟨_,rfl,by simp[qQ],by simp[kQ,JP (f:=sV) (fun _=>rfl)],.inr ⟨rfl,rfl⟩⟩
theorem AD (xs ys:List ByteArray) (hn:xs.length≤1000000000):TC 54 [dI xs,dI ys] (.sc (.bool (decide (xs=ys)))):=by
 refine TC.walk ⟨true,false⟩ Gz rfl (Nat.le_of_ble_eq_true rfl) (by simp[aJ,dG]) rfl ?_
 by_cases hl:(xs.length:Int)=(ys.length:Int)
 ·simp only[xX,tR,hl,VX,Nat.reduceEqDiff,Nat.reduceAdd]
  refine bC (fun(i:Nat) ρ H=>i≤xs.length∧H=[]∧xs.take i=ys.take i∧ρ 0=dI xs∧ρ 1=dI ys∧ρ 5=VI i) (fun i=>xs.length-i) 0 ⟨Nat.zero_le _,rfl,by simp,rfl,rfl,rfl⟩ ?_
  rintro i ρ H ⟨hi,rfl,ht,h0,h1,h5⟩
  by_cases cQ:(i:Int)<(xs.length:Int)
  ·obtain⟨x,hx⟩:∃x,xs[i]? = some x:=⟨_,List.getElem?_eq_getElem (by omega)⟩
   obtain⟨y,hy⟩:∃y,ys[i]? = some y:=⟨_,List.getElem?_eq_getElem (by omega)⟩
   have e1:=aI (f:=sV) (t := .op) (H:=[]) (size:=1) (k := .i64) hx rfl
   have e2:=aI (f:=sV) (t := .op) (H:=[]) (size:=1) (k := .i64) hy rfl
   have wi:IntKind.i64.wrap ((i:Int)+1)=((i+1:Nat):Int):=wrapN (i+1) (by omega) (by omega)
   by_cases Ap:x=y
   ·simp only[nL,F5,h0,h1,h5,cQ,e1,e2,Ap,wi,VX,Nat.reduceEqDiff,Nat.reduceAdd]
    refine⟨i+1,by omega,by omega,?_⟩
    rw[List.take_add_one,List.take_add_one,hx,hy,ht,Ap]
    (repeat' apply And.intro)<;>first | rfl | trivial
   ·simp only[nL,F5,h0,h1,h5,cQ,e1,e2,Ap,VX,Nat.reduceEqDiff,Nat.reduceAdd]
    have:¬xs=ys:=fun h=>Ap (by rw[h,hy] at hx;injection hx with hx;exact hx.symm)
    simp only[this,decide_false]
    exact aG rfl
  ·simp only[nL,h0,h1,h5,cQ,VX,Nat.reduceEqDiff,Nat.reduceAdd]
   have:xs=ys:=by
    rw[List.take_of_length_le (by omega),List.take_of_length_le (by omega)] at ht
    exact ht
   simp only[this,decide_true]
   exact aG rfl
 ·simp only[xX,tR,hl,VX,Nat.reduceEqDiff,Nat.reduceAdd]
  have:¬xs=ys:=fun h=>hl (by rw[h])
  simp only[this,decide_false]
  exact aG rfl
theorem uO {lo b b':Nat} {H:aA} (xs:List ByteArray) (hn:xs.length≤400000000) (hX:aP H b 0=some ((iI jF xs).map sV,1,true)) (hY:aP H b' 0=some ((iI jF xs).map sV,1,true)) {K:VV→aA→Prop} (hk:K (.sc (.bool true)) H) :
  cT 45 [.ref b 0 0 xs.length (xs.length+room xs.length),.ref b' 0 0 xs.length (xs.length+room xs.length)] lo H K:=by
 refine kI rfl (oO.walk ⟨true,false⟩ Di (Nat.le_of_ble_eq_true rfl) ?_)
 have hr:=room_le xs.length
 have hf:=QO jF xs
 have w1:IntKind.i64.wrap ((xs.length:Int)+(room xs.length:Int))=((xs.length+room xs.length:Nat):Int):=wrapN _ (by omega) (by omega)
 have l1:=fM (o:=0) (n:=xs.length) (c:=xs.length+room xs.length) hX
 have l2:=fM (o:=0) (n:=xs.length) (c:=xs.length+room xs.length) hY
 have e1:=qV (o:=0) (n:=xs.length) (c:=xs.length+room xs.length) (h:=xs.length+room xs.length) (k2 := .i64) hX (Nat.le_refl _)
 have e2:=qV (o:=0) (n:=xs.length) (c:=xs.length+room xs.length) (h:=xs.length+room xs.length) (k2 := .i64) hY (Nat.le_refl _)
 have f1:fz depth H (.ref b 0 0 (xs.length+room xs.length) (xs.length+room xs.length))=some (dI (iI jF xs)):=EB hX (by simp[hf]) (Nat.le_refl _) (eO fun _=>rfl)
 have f2:fz depth H (.ref b' 0 0 (xs.length+room xs.length) (xs.length+room xs.length))=some (dI (iI jF xs)):=EB hY (by simp[hf]) (Nat.le_refl _) (eO fun _=>rfl)
 have e3:=(AD (iI jF xs) (iI jF xs) (by omega)).flat (H:=H) rfl (by simp[aJ,dG]) (fz2 f1 f2) rfl
 simp only[yG,uU,iV,l1,l2,w1,e1,e2,e3,eq_self,VX,Nat.reduceEqDiff,Nat.reduceAdd]
 exact hk
end Go.PM
namespace Go.PM
def cV (c:fO):VV := .agg [nV c.t,nV c.w,nV c.k]
theorem aiN:∀c:fO,(aB (cV c)).length=3:=fun _=>rfl
abbrev Y7 (xs:List fO):VV:=aL cV xs
theorem PU (xs:List fO):aM (Y7 xs)=true:=gW aiN fun _=>rfl
end Go.PM
namespace Go.PM
end Go.PM
namespace Go.PM
end Go.PM
namespace Go.PM
theorem yE {H L:aA} {b g:Nat} {x:List VV×Nat×Bool} (h:aP H b g=some x):aP (H++L) b g=some x:=by
 obtain⟨es,e,w⟩:=x
 rw[cN] at h ⊢
 rw[List.getElem?_append_left (List.getElem?_eq_some_iff.1 h).1]
 exact h
theorem zZ {H L:aA} {i g e:Nat} {es:List VV} {w:Bool} (h:L[i]? = some (.row g es e w)):aP (H++L) (H.length+i) g=some (es,e,w):=by
 rw[cN,List.getElem?_append_right (Nat.le_add_right _ _),Nat.add_sub_cancel_left]
 exact h
theorem dQ {H:aA} {b b' g:Nat} {x:fU} {y:List VV×Nat×Bool} (hn:b'≠b) (h:aP H b g=some y):aP (H.set b' x) b g=some y:=by
 obtain⟨es,e,w⟩:=y
 rw[cN] at h ⊢
 rw[List.getElem?_set_ne hn]
 exact h
theorem kM {H:aA} {b g e:Nat} {es:List VV} {w:Bool} {y:List VV×Nat×Bool} {g':Nat} (h:aP H b g'=some y):aP (H.set b (.row g es e w)) b g=some (es,e,w):=by
 obtain⟨mO,e',w'⟩:=y
 rw[cN] at h ⊢
 rw[List.getElem?_set_self (List.getElem?_eq_some_iff.1 h).1]
theorem F7 {H:aA} {b g:Nat} {x:List VV×Nat×Bool} (h:aP H b g=some x):b<H.length:=by
 obtain⟨es,e,w⟩:=x
 exact(List.getElem?_eq_some_iff.1 (cN.1 h)).1
end Go.PM
namespace Go.PM
def gC:aD:=(LS [LO 4 (.mv LF)] (LS [LM 5 0,LM 6 1,LO 7 (.call 205 [(LT 5),(LT 6)]),LO 8 (.bin .geq (LT 7) (LI 0)),LM 4 8] .ret))
def gQ:aV:=⟨9,[(.tmp 4)],gC⟩
theorem mJ:gT 146=some gQ:=by kernel_rfl
def cG:aD:=(LS [LO 9 (.bin .lss (LT 8) (LT 7))] (.seq (.cond (LT 9) .skip (.exit 0)) (.seq (.block 1 (LS [LM 10 8,LM 5 10] (LS [LM 11 1,LM 12 0,LM 13 5,LO 14 (.iaddr 3 (LT 12) (LT 13)),LO 15 (LK 14),LO 16 (.callv (LT 11) [(LT 15)])] (.cond (LT 16) (LS [LM 17 5,LM 4 17] .ret) .skip)))) (.dT [LO 18 (.bin .add (LT 8) (LI 1)),LM 8 18]))))
def iF:aD:=(LS [LO 4 (.mv (LI 0))] (.seq (LS [LM 6 0,LO 7 (.len (LT 6)),LO 8 (.mv (LI 0))] (.block 0 (.loop cG))) (LS [LO 4 (.mv (LI (-1)))] .ret)))
def iU:aV:=⟨19,[(.tmp 4)],iF⟩
theorem nW:gT 205=some iU:=by kernel_rfl
def Ep:aD:=(LS [LO 4 (.mv (.const (.string ⟨#[]⟩))),LO 5 (.mv (.const (.string ⟨#[]⟩))),LO 6 (.mv LF)] (LS [LM 7 0,LM 8 1,LO 9 (.call 215 [(LT 7),(LT 8)]),LO 10 (LX 9 0),LO 11 (LX 9 1),LO 12 (LX 9 2),LM 4 10,LM 5 11,LM 6 12] .ret))
def Ig:aV:=⟨13,[(.tmp 4),(.tmp 5),(.tmp 6)],Ep⟩
theorem L6:gT 167=some Ig:=by kernel_rfl
def vU:aD:=(LS [LO 4 (.mv (.const (.string ⟨#[]⟩))),LO 5 (.mv LF)] (LS [LM 6 0,LM 7 1,LO 8 (.call 216 [(LT 6),(LT 7)]),LO 9 (LX 8 0),LO 10 (LX 8 1),LM 4 9,LM 5 10] .ret))
def Ac:aV:=⟨11,[(.tmp 4),(.tmp 5)],vU⟩
theorem DW:gT 168=some Ac:=by kernel_rfl
def fI:aD:=(.seq (LS [LM 7 2,LM 8 3,LO 9 (.bin .lss (LT 7) (LT 8))] (.cond (LT 9) .skip (.exit 0))) (.seq (.block 1 (.dT [LM 14 0,LM 15 2,LM 16 0,LM 17 3,LM 18 0,LM 19 3,LO 20 (.iaddr 1 (LT 18) (LT 19)),LO 21 (LL 20),LM 22 0,LM 23 2,LO 24 (.iaddr 1 (LT 22) (LT 23)),LO 25 (LL 24),LO 26 (.iaddr 1 (LT 14) (LT 15)),LN (.store 1 (LT 26) (LT 21)),LO 27 (.iaddr 1 (LT 16) (LT 17)),LN (.store 1 (LT 27) (LT 25))])) (.dT [LM 10 2,LO 11 (.bin .add (LT 10) (LI 1)),LM 12 3,LO 13 (.bin .sub (LT 12) (LI 1)),LM 2 11,LM 3 13])))
def kD:aD:=(LS [LM 4 0,LO 5 (.len (LT 4)),LO 6 (.bin .sub (LT 5) (LI 1)),LO 2 (.mv (LI 0)),LM 3 6] (.block 0 (.loop fI)))
def lB:aV:=⟨28,[],kD⟩
theorem rB:gT 185=some lB:=by kernel_rfl
def kB:aD:=(LS [LO 4 (.mv (.const (.string ⟨#[]⟩))),LO 5 (.mv (.const (.string ⟨#[]⟩))),LO 6 (.mv LF)] (.seq (LS [LM 8 0,LM 9 1,LO 10 (.call 241 [(LT 8),(LT 9)]),LM 7 10] (LS [LM 11 7,LO 12 (.bin .geq (LT 11) (LI 0))] (.cond (LT 12) (LS [LM 13 0,LM 14 7,LO 15 (.ssub (LT 13) none (some (LT 14))),LM 16 0,LM 17 7,LM 18 1,LO 19 (.slen (LT 18)),LO 20 (.bin .add (LT 17) (LT 19)),LO 21 (.ssub (LT 16) (some (LT 20)) none),LM 4 15,LM 5 21,LO 6 (.mv LG)] .ret) .skip))) (LS [LM 22 0,LM 4 22,LO 5 (.mv (.const (.string ⟨#[]⟩))),LO 6 (.mv LF)] .ret)))
def kY:aV:=⟨23,[(.tmp 4),(.tmp 5),(.tmp 6)],kB⟩
theorem yD:gT 215=some kY:=by kernel_rfl
def gF:aD:=(LS [LO 4 (.mv (.const (.string ⟨#[]⟩))),LO 5 (.mv LF)] (.seq (LS [LM 6 0,LM 7 1,LO 8 (.call 229 [(LT 6),(LT 7)]),LO 9 (.un .not (LT 8))] (.cond (LT 9) (LS [LM 10 0,LM 4 10,LO 5 (.mv LF)] .ret) .skip)) (LS [LM 11 0,LM 12 1,LO 13 (.slen (LT 12)),LO 14 (.ssub (LT 11) (some (LT 13)) none),LM 4 14,LO 5 (.mv LG)] .ret)))
def iA:aV:=⟨15,[(.tmp 4),(.tmp 5)],gF⟩
theorem sA:gT 216=some iA:=by kernel_rfl
def fW:aD:=(LS [LO 4 (.mv LF)] (LS [LM 5 0,LO 6 (.slen (LT 5)),LM 7 1,LO 8 (.slen (LT 7)),LO 9 (.bin .geq (LT 6) (LT 8)),LM 10 9,LY 10 11 (.mv (LT 0)),LY 10 12 (.mv (LT 1)),LY 10 13 (.slen (LT 12)),LY 10 14 (.ssub (LT 11) none (some (LT 13))),LY 10 15 (.mv (LT 1)),LY 10 16 (.bin .eql (LT 14) (LT 15)),LO 17 (.pick (LT 10) (LT 16) LF),LM 4 17] .ret))
def hJ:aV:=⟨18,[(.tmp 4)],fW⟩
theorem sK:gT 229=some hJ:=by kernel_rfl
def Ah:aD:=(LS [LO 2 (.mv (.const (.string ⟨#[]⟩)))] (.seq (LS [LM 3 0,LO 4 (.bin .lss (LT 3) (LI 10))] (.cond (LT 4) (LS [LM 5 0,LM 6 0,LO 7 (.bin .add (LT 6) (LI 1)),LO 8 (.ssub (.const (.string ⟨#[48,49,50,51,52,53,54,55,56,57,97,98,99,100,101,102,103,104,105,106,107,108,109,110,111,112,113,114,115,116,117,118,119,120,121,122]⟩)) (some (LT 5)) (some (LT 7))),LM 2 8] .ret) .skip)) (LS [LM 9 0,LO 10 (.bin .mul (LT 9) (LI 2)),LM 11 0,LO 12 (.bin .mul (LT 11) (LI 2)),LO 13 (.bin .add (LT 12) (LI 2)),LO 14 (.ssub (.const (.string ⟨#[48,48,48,49,48,50,48,51,48,52,48,53,48,54,48,55,48,56,48,57,49,48,49,49,49,50,49,51,49,52,49,53,49,54,49,55,49,56,49,57,50,48,50,49,50,50,50,51,50,52,50,53,50,54,50,55,50,56,50,57,51,48,51,49,51,50,51,51,51,52,51,53,51,54,51,55,51,56,51,57,52,48,52,49,52,50,52,51,52,52,52,53,52,54,52,55,52,56,52,57,53,48,53,49,53,50,53,51,53,52,53,53,53,54,53,55,53,56,53,57,54,48,54,49,54,50,54,51,54,52,54,53,54,54,54,55,54,56,54,57,55,48,55,49,55,50,55,51,55,52,55,53,55,54,55,55,55,56,55,57,56,48,56,49,56,50,56,51,56,52,56,53,56,54,56,55,56,56,56,57,57,48,57,49,57,50,57,51,57,52,57,53,57,54,57,55,57,56,57,57]⟩)) (some (LT 10)) (some (LT 13))),LM 2 14] .ret)))
def internal_strconv_small:aV:=⟨15,[(.tmp 2)],Ah⟩
def sH:aD:=(.seq (LS [LM 19 4,LO 20 (.bin .geq (LT 19) (LI 8))] (.cond (LT 20) .skip (.exit 0))) (.block 1 (LS [LM 21 1,LO 22 (.bin .rem (LT 21) (.const (.int .u64 100000000))),LO 23 (.cvt .u32 (LT 22)),LM 5 23] (LS [LM 24 1,LO 25 (.bin .quo (LT 24) (.const (.int .u64 100000000))),LM 1 25] (LS [LM 26 5,LO 27 (.bin .quo (LT 26) (.const (.int .u32 10000))),LM 28 5,LO 29 (.bin .rem (LT 28) (.const (.int .u32 10000))),LM 6 27,LM 7 29] (LS [LM 30 7,LO 31 (.bin .quo (LT 30) (.const (.int .u32 100))),LO 32 (.bin .mul (LT 31) (.const (.int .u32 2))),LM 33 7,LO 34 (.bin .rem (LT 33) (.const (.int .u32 100))),LO 35 (.bin .mul (LT 34) (.const (.int .u32 2))),LM 8 32,LM 9 35] (LS [LM 36 6,LO 37 (.bin .quo (LT 36) (.const (.int .u32 100))),LO 38 (.bin .mul (LT 37) (.const (.int .u32 2))),LM 39 6,LO 40 (.bin .rem (LT 39) (.const (.int .u32 100))),LO 41 (.bin .mul (LT 40) (.const (.int .u32 2))),LM 10 38,LM 11 41] (LS [LM 42 0,LM 43 4,LO 44 (.bin .sub (LT 43) (LI 1)),LM 45 0,LM 46 4,LO 47 (.bin .sub (LT 46) (LI 2)),LM 48 9,LO 49 (.bin .add (LT 48) (.const (.int .u32 1))),LO 50 (.sidx (.const (.string ⟨#[48,48,48,49,48,50,48,51,48,52,48,53,48,54,48,55,48,56,48,57,49,48,49,49,49,50,49,51,49,52,49,53,49,54,49,55,49,56,49,57,50,48,50,49,50,50,50,51,50,52,50,53,50,54,50,55,50,56,50,57,51,48,51,49,51,50,51,51,51,52,51,53,51,54,51,55,51,56,51,57,52,48,52,49,52,50,52,51,52,52,52,53,52,54,52,55,52,56,52,57,53,48,53,49,53,50,53,51,53,52,53,53,53,54,53,55,53,56,53,57,54,48,54,49,54,50,54,51,54,52,54,53,54,54,54,55,54,56,54,57,55,48,55,49,55,50,55,51,55,52,55,53,55,54,55,55,55,56,55,57,56,48,56,49,56,50,56,51,56,52,56,53,56,54,56,55,56,56,56,57,57,48,57,49,57,50,57,51,57,52,57,53,57,54,57,55,57,56,57,57]⟩)) (LT 49)),LM 51 9,LO 52 (.sidx (.const (.string ⟨#[48,48,48,49,48,50,48,51,48,52,48,53,48,54,48,55,48,56,48,57,49,48,49,49,49,50,49,51,49,52,49,53,49,54,49,55,49,56,49,57,50,48,50,49,50,50,50,51,50,52,50,53,50,54,50,55,50,56,50,57,51,48,51,49,51,50,51,51,51,52,51,53,51,54,51,55,51,56,51,57,52,48,52,49,52,50,52,51,52,52,52,53,52,54,52,55,52,56,52,57,53,48,53,49,53,50,53,51,53,52,53,53,53,54,53,55,53,56,53,57,54,48,54,49,54,50,54,51,54,52,54,53,54,54,54,55,54,56,54,57,55,48,55,49,55,50,55,51,55,52,55,53,55,54,55,55,55,56,55,57,56,48,56,49,56,50,56,51,56,52,56,53,56,54,56,55,56,56,56,57,57,48,57,49,57,50,57,51,57,52,57,53,57,54,57,55,57,56,57,57]⟩)) (LT 51)),LO 53 (.iaddr 1 (LT 42) (LT 44)),LN (.store 1 (LT 53) (LT 50)),LO 54 (.iaddr 1 (LT 45) (LT 47)),LN (.store 1 (LT 54) (LT 52))] (LS [LM 55 0,LM 56 4,LO 57 (.bin .sub (LT 56) (LI 3)),LM 58 0,LM 59 4,LO 60 (.bin .sub (LT 59) (LI 4)),LM 61 8,LO 62 (.bin .add (LT 61) (.const (.int .u32 1))),LO 63 (.sidx (.const (.string ⟨#[48,48,48,49,48,50,48,51,48,52,48,53,48,54,48,55,48,56,48,57,49,48,49,49,49,50,49,51,49,52,49,53,49,54,49,55,49,56,49,57,50,48,50,49,50,50,50,51,50,52,50,53,50,54,50,55,50,56,50,57,51,48,51,49,51,50,51,51,51,52,51,53,51,54,51,55,51,56,51,57,52,48,52,49,52,50,52,51,52,52,52,53,52,54,52,55,52,56,52,57,53,48,53,49,53,50,53,51,53,52,53,53,53,54,53,55,53,56,53,57,54,48,54,49,54,50,54,51,54,52,54,53,54,54,54,55,54,56,54,57,55,48,55,49,55,50,55,51,55,52,55,53,55,54,55,55,55,56,55,57,56,48,56,49,56,50,56,51,56,52,56,53,56,54,56,55,56,56,56,57,57,48,57,49,57,50,57,51,57,52,57,53,57,54,57,55,57,56,57,57]⟩)) (LT 62)),LM 64 8,LO 65 (.sidx (.const (.string ⟨#[48,48,48,49,48,50,48,51,48,52,48,53,48,54,48,55,48,56,48,57,49,48,49,49,49,50,49,51,49,52,49,53,49,54,49,55,49,56,49,57,50,48,50,49,50,50,50,51,50,52,50,53,50,54,50,55,50,56,50,57,51,48,51,49,51,50,51,51,51,52,51,53,51,54,51,55,51,56,51,57,52,48,52,49,52,50,52,51,52,52,52,53,52,54,52,55,52,56,52,57,53,48,53,49,53,50,53,51,53,52,53,53,53,54,53,55,53,56,53,57,54,48,54,49,54,50,54,51,54,52,54,53,54,54,54,55,54,56,54,57,55,48,55,49,55,50,55,51,55,52,55,53,55,54,55,55,55,56,55,57,56,48,56,49,56,50,56,51,56,52,56,53,56,54,56,55,56,56,56,57,57,48,57,49,57,50,57,51,57,52,57,53,57,54,57,55,57,56,57,57]⟩)) (LT 64)),LO 66 (.iaddr 1 (LT 55) (LT 57)),LN (.store 1 (LT 66) (LT 63)),LO 67 (.iaddr 1 (LT 58) (LT 60)),LN (.store 1 (LT 67) (LT 65))] (LS [LM 68 0,LM 69 4,LO 70 (.bin .sub (LT 69) (LI 5)),LM 71 0,LM 72 4,LO 73 (.bin .sub (LT 72) (LI 6)),LM 74 11,LO 75 (.bin .add (LT 74) (.const (.int .u32 1))),LO 76 (.sidx (.const (.string ⟨#[48,48,48,49,48,50,48,51,48,52,48,53,48,54,48,55,48,56,48,57,49,48,49,49,49,50,49,51,49,52,49,53,49,54,49,55,49,56,49,57,50,48,50,49,50,50,50,51,50,52,50,53,50,54,50,55,50,56,50,57,51,48,51,49,51,50,51,51,51,52,51,53,51,54,51,55,51,56,51,57,52,48,52,49,52,50,52,51,52,52,52,53,52,54,52,55,52,56,52,57,53,48,53,49,53,50,53,51,53,52,53,53,53,54,53,55,53,56,53,57,54,48,54,49,54,50,54,51,54,52,54,53,54,54,54,55,54,56,54,57,55,48,55,49,55,50,55,51,55,52,55,53,55,54,55,55,55,56,55,57,56,48,56,49,56,50,56,51,56,52,56,53,56,54,56,55,56,56,56,57,57,48,57,49,57,50,57,51,57,52,57,53,57,54,57,55,57,56,57,57]⟩)) (LT 75)),LM 77 11,LO 78 (.sidx (.const (.string ⟨#[48,48,48,49,48,50,48,51,48,52,48,53,48,54,48,55,48,56,48,57,49,48,49,49,49,50,49,51,49,52,49,53,49,54,49,55,49,56,49,57,50,48,50,49,50,50,50,51,50,52,50,53,50,54,50,55,50,56,50,57,51,48,51,49,51,50,51,51,51,52,51,53,51,54,51,55,51,56,51,57,52,48,52,49,52,50,52,51,52,52,52,53,52,54,52,55,52,56,52,57,53,48,53,49,53,50,53,51,53,52,53,53,53,54,53,55,53,56,53,57,54,48,54,49,54,50,54,51,54,52,54,53,54,54,54,55,54,56,54,57,55,48,55,49,55,50,55,51,55,52,55,53,55,54,55,55,55,56,55,57,56,48,56,49,56,50,56,51,56,52,56,53,56,54,56,55,56,56,56,57,57,48,57,49,57,50,57,51,57,52,57,53,57,54,57,55,57,56,57,57]⟩)) (LT 77)),LO 79 (.iaddr 1 (LT 68) (LT 70)),LN (.store 1 (LT 79) (LT 76)),LO 80 (.iaddr 1 (LT 71) (LT 73)),LN (.store 1 (LT 80) (LT 78))] (LS [LM 81 0,LM 82 4,LO 83 (.bin .sub (LT 82) (LI 7)),LM 84 0,LM 85 4,LO 86 (.bin .sub (LT 85) (LI 8)),LM 87 10,LO 88 (.bin .add (LT 87) (.const (.int .u32 1))),LO 89 (.sidx (.const (.string ⟨#[48,48,48,49,48,50,48,51,48,52,48,53,48,54,48,55,48,56,48,57,49,48,49,49,49,50,49,51,49,52,49,53,49,54,49,55,49,56,49,57,50,48,50,49,50,50,50,51,50,52,50,53,50,54,50,55,50,56,50,57,51,48,51,49,51,50,51,51,51,52,51,53,51,54,51,55,51,56,51,57,52,48,52,49,52,50,52,51,52,52,52,53,52,54,52,55,52,56,52,57,53,48,53,49,53,50,53,51,53,52,53,53,53,54,53,55,53,56,53,57,54,48,54,49,54,50,54,51,54,52,54,53,54,54,54,55,54,56,54,57,55,48,55,49,55,50,55,51,55,52,55,53,55,54,55,55,55,56,55,57,56,48,56,49,56,50,56,51,56,52,56,53,56,54,56,55,56,56,56,57,57,48,57,49,57,50,57,51,57,52,57,53,57,54,57,55,57,56,57,57]⟩)) (LT 88)),LM 90 10,LO 91 (.sidx (.const (.string ⟨#[48,48,48,49,48,50,48,51,48,52,48,53,48,54,48,55,48,56,48,57,49,48,49,49,49,50,49,51,49,52,49,53,49,54,49,55,49,56,49,57,50,48,50,49,50,50,50,51,50,52,50,53,50,54,50,55,50,56,50,57,51,48,51,49,51,50,51,51,51,52,51,53,51,54,51,55,51,56,51,57,52,48,52,49,52,50,52,51,52,52,52,53,52,54,52,55,52,56,52,57,53,48,53,49,53,50,53,51,53,52,53,53,53,54,53,55,53,56,53,57,54,48,54,49,54,50,54,51,54,52,54,53,54,54,54,55,54,56,54,57,55,48,55,49,55,50,55,51,55,52,55,53,55,54,55,55,55,56,55,57,56,48,56,49,56,50,56,51,56,52,56,53,56,54,56,55,56,56,56,57,57,48,57,49,57,50,57,51,57,52,57,53,57,54,57,55,57,56,57,57]⟩)) (LT 90)),LO 92 (.iaddr 1 (LT 81) (LT 83)),LN (.store 1 (LT 92) (LT 89)),LO 93 (.iaddr 1 (LT 84) (LT 86)),LN (.store 1 (LT 93) (LT 91))] (.dT [LM 94 4,LO 95 (.bin .sub (LT 94) (LI 8)),LM 4 95]))))))))))))
def sS:aD:=(LS [LM 17 0,LO 18 (.len (LT 17)),LM 4 18] (.seq (.block 0 (.loop sH)) (LS [LM 96 1,LO 97 (.cvt .u32 (LT 96)),LM 12 97] (.seq (LS [LM 98 4,LO 99 (.bin .geq (LT 98) (LI 4))] (.cond (LT 99) (LS [LM 100 12,LO 101 (.bin .rem (LT 100) (.const (.int .u32 10000))),LM 13 101] (LS [LM 102 12,LO 103 (.bin .quo (LT 102) (.const (.int .u32 10000))),LM 12 103] (LS [LM 104 13,LO 105 (.bin .quo (LT 104) (.const (.int .u32 100))),LO 106 (.bin .mul (LT 105) (.const (.int .u32 2))),LM 107 13,LO 108 (.bin .rem (LT 107) (.const (.int .u32 100))),LO 109 (.bin .mul (LT 108) (.const (.int .u32 2))),LM 14 106,LM 15 109] (LS [LM 110 0,LM 111 4,LO 112 (.bin .sub (LT 111) (LI 1)),LM 113 0,LM 114 4,LO 115 (.bin .sub (LT 114) (LI 2)),LM 116 15,LO 117 (.bin .add (LT 116) (.const (.int .u32 1))),LO 118 (.sidx (.const (.string ⟨#[48,48,48,49,48,50,48,51,48,52,48,53,48,54,48,55,48,56,48,57,49,48,49,49,49,50,49,51,49,52,49,53,49,54,49,55,49,56,49,57,50,48,50,49,50,50,50,51,50,52,50,53,50,54,50,55,50,56,50,57,51,48,51,49,51,50,51,51,51,52,51,53,51,54,51,55,51,56,51,57,52,48,52,49,52,50,52,51,52,52,52,53,52,54,52,55,52,56,52,57,53,48,53,49,53,50,53,51,53,52,53,53,53,54,53,55,53,56,53,57,54,48,54,49,54,50,54,51,54,52,54,53,54,54,54,55,54,56,54,57,55,48,55,49,55,50,55,51,55,52,55,53,55,54,55,55,55,56,55,57,56,48,56,49,56,50,56,51,56,52,56,53,56,54,56,55,56,56,56,57,57,48,57,49,57,50,57,51,57,52,57,53,57,54,57,55,57,56,57,57]⟩)) (LT 117)),LM 119 15,LO 120 (.sidx (.const (.string ⟨#[48,48,48,49,48,50,48,51,48,52,48,53,48,54,48,55,48,56,48,57,49,48,49,49,49,50,49,51,49,52,49,53,49,54,49,55,49,56,49,57,50,48,50,49,50,50,50,51,50,52,50,53,50,54,50,55,50,56,50,57,51,48,51,49,51,50,51,51,51,52,51,53,51,54,51,55,51,56,51,57,52,48,52,49,52,50,52,51,52,52,52,53,52,54,52,55,52,56,52,57,53,48,53,49,53,50,53,51,53,52,53,53,53,54,53,55,53,56,53,57,54,48,54,49,54,50,54,51,54,52,54,53,54,54,54,55,54,56,54,57,55,48,55,49,55,50,55,51,55,52,55,53,55,54,55,55,55,56,55,57,56,48,56,49,56,50,56,51,56,52,56,53,56,54,56,55,56,56,56,57,57,48,57,49,57,50,57,51,57,52,57,53,57,54,57,55,57,56,57,57]⟩)) (LT 119)),LO 121 (.iaddr 1 (LT 110) (LT 112)),LN (.store 1 (LT 121) (LT 118)),LO 122 (.iaddr 1 (LT 113) (LT 115)),LN (.store 1 (LT 122) (LT 120))] (LS [LM 123 0,LM 124 4,LO 125 (.bin .sub (LT 124) (LI 3)),LM 126 0,LM 127 4,LO 128 (.bin .sub (LT 127) (LI 4)),LM 129 14,LO 130 (.bin .add (LT 129) (.const (.int .u32 1))),LO 131 (.sidx (.const (.string ⟨#[48,48,48,49,48,50,48,51,48,52,48,53,48,54,48,55,48,56,48,57,49,48,49,49,49,50,49,51,49,52,49,53,49,54,49,55,49,56,49,57,50,48,50,49,50,50,50,51,50,52,50,53,50,54,50,55,50,56,50,57,51,48,51,49,51,50,51,51,51,52,51,53,51,54,51,55,51,56,51,57,52,48,52,49,52,50,52,51,52,52,52,53,52,54,52,55,52,56,52,57,53,48,53,49,53,50,53,51,53,52,53,53,53,54,53,55,53,56,53,57,54,48,54,49,54,50,54,51,54,52,54,53,54,54,54,55,54,56,54,57,55,48,55,49,55,50,55,51,55,52,55,53,55,54,55,55,55,56,55,57,56,48,56,49,56,50,56,51,56,52,56,53,56,54,56,55,56,56,56,57,57,48,57,49,57,50,57,51,57,52,57,53,57,54,57,55,57,56,57,57]⟩)) (LT 130)),LM 132 14,LO 133 (.sidx (.const (.string ⟨#[48,48,48,49,48,50,48,51,48,52,48,53,48,54,48,55,48,56,48,57,49,48,49,49,49,50,49,51,49,52,49,53,49,54,49,55,49,56,49,57,50,48,50,49,50,50,50,51,50,52,50,53,50,54,50,55,50,56,50,57,51,48,51,49,51,50,51,51,51,52,51,53,51,54,51,55,51,56,51,57,52,48,52,49,52,50,52,51,52,52,52,53,52,54,52,55,52,56,52,57,53,48,53,49,53,50,53,51,53,52,53,53,53,54,53,55,53,56,53,57,54,48,54,49,54,50,54,51,54,52,54,53,54,54,54,55,54,56,54,57,55,48,55,49,55,50,55,51,55,52,55,53,55,54,55,55,55,56,55,57,56,48,56,49,56,50,56,51,56,52,56,53,56,54,56,55,56,56,56,57,57,48,57,49,57,50,57,51,57,52,57,53,57,54,57,55,57,56,57,57]⟩)) (LT 132)),LO 134 (.iaddr 1 (LT 123) (LT 125)),LN (.store 1 (LT 134) (LT 131)),LO 135 (.iaddr 1 (LT 126) (LT 128)),LN (.store 1 (LT 135) (LT 133))] (.dT [LM 136 4,LO 137 (.bin .sub (LT 136) (LI 4)),LM 4 137])))))) .skip)) (.seq (LS [LM 138 4,LO 139 (.bin .geq (LT 138) (LI 2))] (.cond (LT 139) (LS [LM 140 12,LO 141 (.bin .rem (LT 140) (.const (.int .u32 100))),LO 142 (.bin .mul (LT 141) (.const (.int .u32 2))),LM 16 142] (LS [LM 143 12,LO 144 (.bin .quo (LT 143) (.const (.int .u32 100))),LM 12 144] (LS [LM 145 0,LM 146 4,LO 147 (.bin .sub (LT 146) (LI 1)),LM 148 0,LM 149 4,LO 150 (.bin .sub (LT 149) (LI 2)),LM 151 16,LO 152 (.bin .add (LT 151) (.const (.int .u32 1))),LO 153 (.sidx (.const (.string ⟨#[48,48,48,49,48,50,48,51,48,52,48,53,48,54,48,55,48,56,48,57,49,48,49,49,49,50,49,51,49,52,49,53,49,54,49,55,49,56,49,57,50,48,50,49,50,50,50,51,50,52,50,53,50,54,50,55,50,56,50,57,51,48,51,49,51,50,51,51,51,52,51,53,51,54,51,55,51,56,51,57,52,48,52,49,52,50,52,51,52,52,52,53,52,54,52,55,52,56,52,57,53,48,53,49,53,50,53,51,53,52,53,53,53,54,53,55,53,56,53,57,54,48,54,49,54,50,54,51,54,52,54,53,54,54,54,55,54,56,54,57,55,48,55,49,55,50,55,51,55,52,55,53,55,54,55,55,55,56,55,57,56,48,56,49,56,50,56,51,56,52,56,53,56,54,56,55,56,56,56,57,57,48,57,49,57,50,57,51,57,52,57,53,57,54,57,55,57,56,57,57]⟩)) (LT 152)),LM 154 16,LO 155 (.sidx (.const (.string ⟨#[48,48,48,49,48,50,48,51,48,52,48,53,48,54,48,55,48,56,48,57,49,48,49,49,49,50,49,51,49,52,49,53,49,54,49,55,49,56,49,57,50,48,50,49,50,50,50,51,50,52,50,53,50,54,50,55,50,56,50,57,51,48,51,49,51,50,51,51,51,52,51,53,51,54,51,55,51,56,51,57,52,48,52,49,52,50,52,51,52,52,52,53,52,54,52,55,52,56,52,57,53,48,53,49,53,50,53,51,53,52,53,53,53,54,53,55,53,56,53,57,54,48,54,49,54,50,54,51,54,52,54,53,54,54,54,55,54,56,54,57,55,48,55,49,55,50,55,51,55,52,55,53,55,54,55,55,55,56,55,57,56,48,56,49,56,50,56,51,56,52,56,53,56,54,56,55,56,56,56,57,57,48,57,49,57,50,57,51,57,52,57,53,57,54,57,55,57,56,57,57]⟩)) (LT 154)),LO 156 (.iaddr 1 (LT 145) (LT 147)),LN (.store 1 (LT 156) (LT 153)),LO 157 (.iaddr 1 (LT 148) (LT 150)),LN (.store 1 (LT 157) (LT 155))] (.dT [LM 158 4,LO 159 (.bin .sub (LT 158) (LI 2)),LM 4 159])))) .skip)) (LS [LM 160 4,LO 161 (.bin .gtr (LT 160) (LI 0))] (.cond (LT 161) (.dT [LM 162 0,LM 163 12,LO 164 (.bin .add (.const (.int .u32 48)) (LT 163)),LO 165 (.cvt .u8 (LT 164)),LO 166 (.iaddr 1 (LT 162) (LI 0)),LN (.store 1 (LT 166) (LT 165))]) .skip)))))))
def internal_strconv_formatBase10:aV:=⟨167,[],sS⟩
end Go.PM
namespace Go.PM
end Go.PM
namespace Go.PM
def FQ:aD:=(LS [LO 2 (.new [(.bool false),(.slice none 0 0),(.slice none 0 0)])] (LS [LM 3 0,LO 4 (.bin .lss (LT 3) (LI 0)),LM 5 0,LO 6 (.call 107 [(LT 5)]),LO 7 (.call 101 [(LT 6)]),LO 8 (.call 101 [(.const (.int .u64 1))]),LO 9 (.build [(.bool false),(.slice none 0 0),(.slice none 0 0)] [(0,1),(1,1),(2,1)] [(0,(LT 4)),(1,(LT 7)),(2,(LT 8))]),LN (.store 3 (LT 2) (LT 9))] .ret))
def JC:aV:=⟨10,[(.cell 2 true 3)],FQ⟩
theorem ND:gT 97=some JC:=by kernel_rfl
def oV:aD:=(LS [LO 2 (.box (LT 0)),LO 3 (.box (LT 1)),LO 4 (.mv (LI 0))] (.seq (LS [LO 6 (LK 2),LQ 7 (.call 104 [(LT 6)]),LO 8 (LK 3),LQ 9 (.call 104 [(LT 8)]),LO 10 (.bin .neq (LT 7) (LT 9))] (.cond (LT 10) (LS [LO 11 (LK 2),LQ 12 (.call 104 [(LT 11)]),LO 13 (LK 3),LQ 14 (.call 104 [(LT 13)]),LO 15 (.bin .sub (LT 12) (LT 14)),LM 4 15] .ret) .skip)) (LS [LO 16 (LA 1 2),LO 17 (LL 16),LO 18 (LA 2 3),LO 19 (LL 18),LQ 20 (.call 180 [(LT 17),(LT 19)]),LO 21 (LA 1 3),LO 22 (LL 21),LO 23 (LA 2 2),LO 24 (LL 23),LQ 25 (.call 180 [(LT 22),(LT 24)]),LQ 26 (.call 170 [(LT 20),(LT 25)]),LM 5 26] (.seq (LS [LO 27 (LA 0 2),LO 28 (LL 27)] (.cond (LT 28) (LS [LM 29 5,LO 30 (.un .neg (LT 29)),LM 4 30] .ret) .skip)) (LS [LM 31 5,LM 4 31] .ret)))))
def sN:aV:=⟨32,[(.tmp 4)],oV⟩
theorem GD:gT 206=some sN:=by kernel_rfl
def dZ:aD:=(LS [LO 2 (.box (LT 0)),LO 3 (.box (LT 1)),LO 4 (.new [(.bool false),(.slice none 0 0),(.slice none 0 0)])] (.seq (LS [LO 8 (LK 2),LO 9 (.call 104 [(LT 8)]),LO 10 (.bin .eql (LT 9) (LI 0))] (.cond (LT 10) (LS [LO 11 (LK 3),LN (.store 3 (LT 4) (LT 11))] .ret) .skip)) (.seq (LS [LO 12 (LK 3),LO 13 (.call 104 [(LT 12)]),LO 14 (.bin .eql (LT 13) (LI 0))] (.cond (LT 14) (LS [LO 15 (LK 2),LN (.store 3 (LT 4) (LT 15))] .ret) .skip)) (LS [LO 16 (LA 1 2),LO 17 (LL 16),LO 18 (LA 1 3),LO 19 (LL 18),LO 20 (LA 2 2),LO 21 (LL 20),LM 5 17,LM 6 19,LM 7 21] (.seq (LS [LO 22 (LA 2 2),LO 23 (LL 22),LO 24 (LA 2 3),LO 25 (LL 24),LO 26 (.call 170 [(LT 23),(LT 25)]),LO 27 (.bin .neq (LT 26) (LI 0))] (.cond (LT 27) (.dT [LO 28 (LA 1 2),LO 29 (LL 28),LO 30 (LA 2 3),LO 31 (LL 30),LQ 32 (.call 180 [(LT 29),(LT 31)]),LO 33 (LA 1 3),LO 34 (LL 33),LO 35 (LA 2 2),LO 36 (LL 35),LQ 37 (.call 180 [(LT 34),(LT 36)]),LO 38 (LA 2 2),LO 39 (LL 38),LO 40 (LA 2 3),LO 41 (LL 40),LQ 42 (.call 180 [(LT 39),(LT 41)]),LM 5 32,LM 6 37,LM 7 42]) .skip)) (.seq (.block 0 (LS [LO 44 (LA 0 2),LO 45 (LL 44),LO 46 (LA 0 3),LO 47 (LL 46),LO 48 (.eqb false (LT 45) (LT 47)),LM 43 48] (.cond (LT 43) (LS [LO 49 (LA 0 2),LO 50 (LL 49),LM 51 5,LM 52 6,LQ 53 (.call 174 [(LT 51),(LT 52)]),LM 54 7,LQ 55 (.call 100 [(LT 50),(LT 53),(LT 54)]),LN (.store 3 (LT 4) (LT 55))] .ret) (LS [LM 57 5,LM 58 6,LO 59 (.call 170 [(LT 57),(LT 58)]),LO 60 (.bin .geq (LT 59) (LI 0)),LM 56 60] (.cond (LT 56) (LS [LO 61 (LA 0 2),LO 62 (LL 61),LM 63 5,LM 64 6,LQ 65 (.call 181 [(LT 63),(LT 64)]),LM 66 7,LQ 67 (.call 100 [(LT 62),(LT 65),(LT 66)]),LN (.store 3 (LT 4) (LT 67))] .ret) .skip))))) (LS [LO 68 (LA 0 3),LO 69 (LL 68),LM 70 6,LM 71 5,LQ 72 (.call 181 [(LT 70),(LT 71)]),LM 73 7,LQ 74 (.call 100 [(LT 69),(LT 72),(LT 73)]),LN (.store 3 (LT 4) (LT 74))] .ret)))))))
def gH:aV:=⟨75,[(.cell 4 true 3)],dZ⟩
theorem He:gT 99=some gH:=by kernel_rfl
def oZ:aD:=(LS [LO 2 (.box (LT 0)),LO 3 (.box (LT 1)),LO 4 (.new [(.bool false),(.slice none 0 0),(.slice none 0 0)])] (.seq (LS [LO 7 (LK 2),LO 8 (.call 104 [(LT 7)]),LO 9 (.bin .eql (LT 8) (LI 0)),LM 10 9,LZ 10 11 (LK 3),LZ 10 12 (.call 104 [(LT 11)]),LZ 10 13 (.bin .eql (LT 12) (LI 0)),LO 14 (.pick (LT 10) LG (LT 13))] (.cond (LT 14) (LS [LO 15 (.call 97 [(LI 0)]),LN (.store 3 (LT 4) (LT 15))] .ret) .skip)) (LS [LO 16 (LA 1 2),LO 17 (LL 16),LO 18 (LA 2 3),LO 19 (LL 18),LQ 20 (.call 100 [LF,(LT 17),(LT 19)]),LO 21 (LA 1 3),LO 22 (LL 21),LO 23 (LA 2 2),LO 24 (LL 23),LQ 25 (.call 100 [LF,(LT 22),(LT 24)]),LQ 5 (.new [(.bool false),(.slice none 0 0),(.slice none 0 0)]),LQ 6 (.new [(.bool false),(.slice none 0 0),(.slice none 0 0)]),LN (.store 3 (LT 5) (LT 20)),LN (.store 3 (LT 6) (LT 25))] (LS [LO 26 (LA 0 2),LO 27 (LL 26),LO 28 (LA 0 3),LO 29 (LL 28),LO 30 (.eqb true (LT 27) (LT 29)),LO 31 (LA 1 5),LO 32 (LL 31),LO 33 (LA 1 6),LO 34 (LL 33),LQ 35 (.call 180 [(LT 32),(LT 34)]),LO 36 (LA 2 5),LO 37 (LL 36),LO 38 (LA 2 6),LO 39 (LL 38),LQ 40 (.call 180 [(LT 37),(LT 39)]),LO 41 (.build [(.bool false),(.slice none 0 0),(.slice none 0 0)] [(0,1),(1,1),(2,1)] [(0,(LT 30)),(1,(LT 35)),(2,(LT 40))]),LN (.store 3 (LT 4) (LT 41))] .ret))))
def sE:aV:=⟨42,[(.cell 4 true 3)],oZ⟩
theorem GG:gT 96=some sE:=by kernel_rfl
def nU:aD:=(LS [LO 1 (.box (LT 0)),LO 2 (.mv (LI 0))] (.seq (.block 0 (LS [LO 4 (LA 1 1),LO 5 (LL 4),LO 6 (.len (LT 5)),LO 7 (.bin .eql (LT 6) (LI 0)),LM 3 7] (.cond (LT 3) (LS [LO 2 (.mv (LI 0))] .ret) (LS [LO 9 (LA 0 1),LO 10 (LL 9),LM 8 10] (.cond (LT 8) (LS [LO 2 (.mv (LI (-1)))] .ret) .skip))))) (LS [LO 2 (.mv (LI 1))] .ret)))
def pY:aV:=⟨11,[(.tmp 2)],nU⟩
theorem FH:gT 104=some pY:=by kernel_rfl
def lL:aD:=(LS [LO 2 (.mv (.const (.slice none 0 0))),LO 3 (.mv LF)] (LS [LM 7 0,LO 8 (.call 145 [(LT 7)]),LM 6 8,LO 9 (LX 6 0),LO 10 (LX 6 1),LM 4 9,LM 5 10] (.seq (LS [LM 11 5,LO 12 (.un .not (LT 11)),LM 13 12,LZ 13 14 (.mv (LT 4)),LZ 13 15 (.call 146 [(LT 14),(.func 147)]),LO 16 (.pick (LT 13) LG (LT 15)),LM 17 16,LZ 17 18 (.mv (LT 4)),LZ 17 19 (.call 148 [(LT 18)]),LZ 17 20 (.call 196 [(LT 19)]),LZ 17 21 (.un .not (LT 20)),LO 22 (.pick (LT 17) LG (LT 21))] (.cond (LT 22) (LS [LO 2 (.mv (.const (.slice none 0 0))),LO 3 (.mv LF)] .ret) .skip)) (LS [LM 23 4,LM 2 23,LO 3 (.mv LG)] .ret))))
def nY:aV:=⟨24,[(.tmp 2),(.tmp 3)],lL⟩
theorem Gt:gT 114=some nY:=by kernel_rfl
def MZ:aD:=(LS [LO 6 (.mv LF)] (LS [LM 7 0,LM 8 1,LO 9 (.bin .geq (LT 7) (LT 8)),LM 10 9,LY 10 11 (.mv (LT 0)),LY 10 12 (.mv (LT 2)),LY 10 13 (.bin .leq (LT 11) (LT 12)),LO 14 (.pick (LT 10) (LT 13) LF),LM 6 14] .ret))
def Un:aV:=⟨15,[(.tmp 6)],MZ⟩
theorem Wl:gT 95=some Un:=by kernel_rfl
def C9:aD:=(LS [LO 1 (.box (LT 0)),LO 2 (.mv (.const (.string ⟨#[]⟩))),LO 3 (.mv LF)] (LS [LO 7 (LK 1),LO 8 (.call 172 [(LT 7)]),LM 6 8,LO 9 (LX 6 0),LO 10 (LX 6 1),LM 4 9,LM 5 10] (.seq (LS [LM 11 5,LO 12 (.un .not (LT 11))] (.cond (LT 12) (LS [LO 2 (.mv (.const (.string ⟨#[]⟩))),LO 3 (.mv LF)] .ret) .skip)) (LS [LM 13 4,LM 2 13,LO 3 (.mv LG)] .ret))))
def Hp:aV:=⟨14,[(.tmp 2),(.tmp 3)],C9⟩
theorem Pk:gT 90=some Hp:=by kernel_rfl
def wD:aD:=(LS [LO 16 (.bin .lss (LT 15) (LT 14))] (.seq (.cond (LT 16) .skip (.exit 0)) (.seq (.block 1 (LS [LO 17 (.iaddr 1 (LT 13) (LT 15)),LO 18 (LL 17),LM 6 18] (LS [LM 20 6,LO 21 (.call 89 [(LT 20)]),LM 19 21,LO 22 (LX 19 0),LO 23 (LX 19 1),LO 7 (.new [(.bool false),(.slice none 0 0),(.slice none 0 0)]),LN (.store 3 (LT 7) (LT 22)),LM 8 23] (.seq (LS [LM 24 8,LO 25 (.un .not (LT 24))] (.cond (LT 25) (LS [LO 2 (.mv (.const (.slice none 0 0))),LO 3 (.mv LF)] .ret) .skip)) (.dT [LM 26 4,LO 27 (LK 7),LO 28 (.lit [(.bool false),(.slice none 0 0),(.slice none 0 0)] 1 [(0,(LT 27))]),LO 29 (.app 3 56 (LT 26) (LT 28)),LM 4 29]))))) (.dT [LO 30 (.bin .add (LT 15) (LI 1)),LM 15 30]))))
def CB:aD:=(LS [LO 2 (.mv (.const (.slice none 0 0))),LO 3 (.mv LF)] (.seq (LS [LM 9 0,LO 10 (.len (LT 9)),LO 11 (.bin .gtr (LT 10) (LI 300))] (.cond (LT 11) (LS [LO 2 (.mv (.const (.slice none 0 0))),LO 3 (.mv LF)] .ret) .skip)) (LS [LO 12 (.lit [(.bool false),(.slice none 0 0),(.slice none 0 0)] 0 []),LM 4 12] (.seq (LS [LM 13 0,LO 14 (.len (LT 13)),LO 15 (.mv (LI 0))] (.block 0 (.loop wD))) (LS [LM 31 4,LM 2 31,LO 3 (.mv LG)] .ret)))))
def GR:aV:=⟨32,[(.tmp 2),(.tmp 3)],CB⟩
theorem Q9:gT 145=some GR:=by kernel_rfl
def yO:aD:=(LS [LO 1 (.box (LT 0)),LO 2 (.mv LF)] (LS [LO 3 (LK 1),LO 4 (.call 104 [(LT 3)]),LO 5 (.bin .lss (LT 4) (LI 0)),LM 2 5] .ret))
def Bw:aV:=⟨6,[(.tmp 2)],yO⟩
theorem J8:gT 147=some Bw:=by kernel_rfl
def CI:aD:=(LS [LO 10 (.bin .lss (LT 9) (LT 8))] (.seq (.cond (LT 10) .skip (.exit 0)) (.seq (.block 1 (LS [LO 11 (.iaddr 3 (LT 7) (LT 9)),LO 12 (LK 11),LO 5 (.new [(.bool false),(.slice none 0 0),(.slice none 0 0)]),LN (.store 3 (LT 5) (LT 12))] (.dT [LO 13 (LK 3),LO 14 (LK 5),LO 15 (.call 99 [(LT 13),(LT 14)]),LN (.store 3 (LT 3) (LT 15))]))) (.dT [LO 16 (.bin .add (LT 9) (LI 1)),LM 9 16]))))
def Kk:aD:=(LS [LO 2 (.new [(.bool false),(.slice none 0 0),(.slice none 0 0)])] (LS [LO 6 (.call 97 [(LI 0)]),LO 3 (.new [(.bool false),(.slice none 0 0),(.slice none 0 0)]),LN (.store 3 (LT 3) (LT 6))] (.seq (LS [LM 7 0,LO 8 (.len (LT 7)),LO 9 (.mv (LI 0))] (.block 0 (.loop CI))) (LS [LO 17 (LK 3),LN (.store 3 (LT 2) (LT 17))] .ret))))
def Qf:aV:=⟨18,[(.cell 2 true 3)],Kk⟩
theorem R6:gT 148=some Qf:=by kernel_rfl
def pM:aD:=(LS [LO 6 (.new [(.bool false),(.slice none 0 0),(.slice none 0 0)])] (.seq (LS [LM 8 1,LO 9 (.len (LT 8)),LO 10 (.bin .eql (LT 9) (LI 0))] (.cond (LT 10) (LS [LO 11 (.call 101 [(.const (.int .u64 1))]),LO 12 (.build [(.bool false),(.slice none 0 0),(.slice none 0 0)] [(0,1),(1,1),(2,1)] [(2,(LT 11))]),LN (.store 3 (LT 6) (LT 12))] .ret) .skip)) (LS [LM 13 1,LM 14 2,LO 15 (.call 171 [(LT 13),(LT 14)]),LM 7 15] (.seq (LS [LM 16 7,LO 17 (.len (LT 16)),LO 18 (.bin .eql (LT 17) (LI 1)),LM 19 18,LY 19 20 (.mv (LT 7)),LY 19 21 (.iaddr 1 (LT 20) (LI 0)),LY 19 22 (LL 21),LY 19 23 (.bin .eql (LT 22) (.const (.int .u32 1))),LO 24 (.pick (LT 19) (LT 23) LF)] (.cond (LT 24) (LS [LM 25 0,LM 26 1,LM 27 2,LO 28 (.build [(.bool false),(.slice none 0 0),(.slice none 0 0)] [(0,1),(1,1),(2,1)] [(0,(LT 25)),(1,(LT 26)),(2,(LT 27))]),LN (.store 3 (LT 6) (LT 28))] .ret) .skip)) (LS [LM 30 1,LM 31 7,LO 32 (.call 173 [(LT 30),(LT 31)]),LM 29 32,LO 33 (LX 29 0),LO 34 (LX 29 1),LM 1 33] (LS [LM 36 2,LM 37 7,LO 38 (.call 173 [(LT 36),(LT 37)]),LM 35 38,LO 39 (LX 35 0),LO 40 (LX 35 1),LM 2 39] (LS [LM 41 0,LM 42 1,LM 43 2,LO 44 (.build [(.bool false),(.slice none 0 0),(.slice none 0 0)] [(0,1),(1,1),(2,1)] [(0,(LT 41)),(1,(LT 42)),(2,(LT 43))]),LN (.store 3 (LT 6) (LT 44))] .ret)))))))
def uT:aV:=⟨45,[(.cell 6 true 3)],pM⟩
theorem L4:gT 100=some uT:=by kernel_rfl
def Fv:aD:=(LS [LO 2 (.mv (.const (.slice none 0 0)))] (LS [LM 3 0,LO 4 (.cvt .u32 (LT 3)),LM 5 0,LO 6 (.bin .shr (LT 5) (.const (.int .u64 32))),LO 7 (.cvt .u32 (LT 6)),LO 8 (.lit [(.int .u32 0)] 2 [(0,(LT 4)),(1,(LT 7))]),LO 9 (.call 182 [(LT 8)]),LM 2 9] .ret))
def JX:aV:=⟨10,[(.tmp 2)],Fv⟩
theorem NR:gT 101=some JX:=by kernel_rfl
def tB:aD:=(LS [LO 2 (.mv (.const (.int .u64 0)))] (.seq (LS [LM 3 0,LO 4 (.bin .lss (LT 3) (LI 0))] (.cond (LT 4) (LS [LM 5 0,LO 6 (.cvt .u64 (LT 5)),LO 7 (.un .neg (LT 6)),LM 2 7] .ret) .skip)) (LS [LM 8 0,LO 9 (.cvt .u64 (LT 8)),LM 2 9] .ret)))
def wY:aV:=⟨10,[(.tmp 2)],tB⟩
theorem Ho:gT 107=some wY:=by kernel_rfl
def rS:aD:=(LS [LO 27 (.bin .lss (LT 26) (LT 25))] (.seq (.cond (LT 27) .skip (.exit 2)) (.seq (.block 3 (LS [LM 28 26,LO 29 (.iaddr 1 (LT 24) (LT 26)),LO 30 (LL 29),LM 9 28,LM 10 30] (LS [LM 31 8,LM 32 7,LO 33 (.cvt .u64 (LT 32)),LM 34 10,LO 35 (.cvt .u64 (LT 34)),LO 36 (.bin .mul (LT 33) (LT 35)),LM 37 5,LM 38 6,LM 39 9,LO 40 (.bin .add (LT 38) (LT 39)),LO 41 (.iaddr 1 (LT 37) (LT 40)),LO 42 (LL 41),LO 43 (.cvt .u64 (LT 42)),LO 44 (.bin .add (LT 36) (LT 43)),LO 45 (.bin .add (LT 31) (LT 44)),LM 8 45] (LS [LM 46 5,LM 47 6,LM 48 9,LO 49 (.bin .add (LT 47) (LT 48)),LM 50 8,LO 51 (.cvt .u32 (LT 50)),LO 52 (.iaddr 1 (LT 46) (LT 49)),LN (.store 1 (LT 52) (LT 51))] (.dT [LM 53 8,LO 54 (.bin .shr (LT 53) (.const (.int .u64 32))),LM 8 54]))))) (.dT [LO 55 (.bin .add (LT 26) (LI 1)),LM 26 55]))))
def sC:aD:=(LS [LO 20 (.bin .lss (LT 19) (LT 18))] (.seq (.cond (LT 20) .skip (.exit 0)) (.seq (.block 1 (LS [LM 21 19,LO 22 (.iaddr 1 (LT 17) (LT 19)),LO 23 (LL 22),LM 6 21,LM 7 23] (LS [LO 8 (.mv (.const (.int .u64 0)))] (.seq (LS [LM 24 1,LO 25 (.len (LT 24)),LO 26 (.mv (LI 0))] (.block 2 (.loop rS))) (.dT [LM 56 5,LM 57 6,LM 58 1,LO 59 (.len (LT 58)),LO 60 (.bin .add (LT 57) (LT 59)),LM 61 8,LO 62 (.cvt .u32 (LT 61)),LO 63 (.iaddr 1 (LT 56) (LT 60)),LN (.store 1 (LT 63) (LT 62))]))))) (.dT [LO 64 (.bin .add (LT 19) (LI 1)),LM 19 64]))))
def A9:aD:=(LS [LO 4 (.mv (.const (.slice none 0 0)))] (LS [LM 11 0,LO 12 (.len (LT 11)),LM 13 1,LO 14 (.len (LT 13)),LO 15 (.bin .add (LT 12) (LT 14)),LO 16 (.make [(.int .u32 0)] 4 (LT 15) (LT 15)),LM 5 16] (.seq (LS [LM 17 0,LO 18 (.len (LT 17)),LO 19 (.mv (LI 0))] (.block 0 (.loop sC))) (LS [LM 65 5,LO 66 (.call 182 [(LT 65)]),LM 4 66] .ret))))
def Dk:aV:=⟨67,[(.tmp 4)],A9⟩
theorem Ha:gT 180=some Dk:=by kernel_rfl
def kK:aD:=(.seq (LS [LM 19 5,LO 20 (.bin .geq (LT 19) (LI 0))] (.cond (LT 20) .skip (.exit 0))) (.seq (.block 1 (LS [LM 23 0,LM 24 5,LO 25 (.iaddr 1 (LT 23) (LT 24)),LO 26 (LL 25),LM 27 1,LM 28 5,LO 29 (.iaddr 1 (LT 27) (LT 28)),LO 30 (LL 29),LO 31 (.bin .neq (LT 26) (LT 30))] (.cond (LT 31) (.seq (LS [LM 32 0,LM 33 5,LO 34 (.iaddr 1 (LT 32) (LT 33)),LO 35 (LL 34),LM 36 1,LM 37 5,LO 38 (.iaddr 1 (LT 36) (LT 37)),LO 39 (LL 38),LO 40 (.bin .lss (LT 35) (LT 39))] (.cond (LT 40) (LS [LO 4 (.mv (LI (-1)))] .ret) .skip)) (LS [LO 4 (.mv (LI 1))] .ret)) .skip))) (.dT [LM 21 5,LO 22 (.bin .sub (LT 21) (LI 1)),LM 5 22])))
def oX:aD:=(LS [LO 4 (.mv (LI 0))] (.seq (LS [LM 6 0,LO 7 (.len (LT 6)),LM 8 1,LO 9 (.len (LT 8)),LO 10 (.bin .neq (LT 7) (LT 9))] (.cond (LT 10) (.seq (LS [LM 11 0,LO 12 (.len (LT 11)),LM 13 1,LO 14 (.len (LT 13)),LO 15 (.bin .lss (LT 12) (LT 14))] (.cond (LT 15) (LS [LO 4 (.mv (LI (-1)))] .ret) .skip)) (LS [LO 4 (.mv (LI 1))] .ret)) .skip)) (.seq (LS [LM 16 0,LO 17 (.len (LT 16)),LO 18 (.bin .sub (LT 17) (LI 1)),LM 5 18] (.block 0 (.loop kK))) (LS [LO 4 (.mv (LI 0))] .ret))))
def rZ:aV:=⟨41,[(.tmp 4)],oX⟩
theorem HB:gT 170=some rZ:=by kernel_rfl
def kP:aD:=(LS [LO 22 (.bin .lss (LT 21) (LT 20))] (.seq (.cond (LT 22) .skip (.exit 0)) (.seq (.block 1 (LS [LM 23 21,LM 7 23] (LS [LM 24 6,LM 25 0,LM 26 7,LO 27 (.iaddr 1 (LT 25) (LT 26)),LO 28 (LL 27),LO 29 (.cvt .u64 (LT 28)),LO 30 (.bin .add (LT 24) (LT 29)),LM 6 30] (.seq (LS [LM 31 7,LM 32 1,LO 33 (.len (LT 32)),LO 34 (.bin .lss (LT 31) (LT 33))] (.cond (LT 34) (.dT [LM 35 6,LM 36 1,LM 37 7,LO 38 (.iaddr 1 (LT 36) (LT 37)),LO 39 (LL 38),LO 40 (.cvt .u64 (LT 39)),LO 41 (.bin .add (LT 35) (LT 40)),LM 6 41]) .skip)) (LS [LM 42 5,LM 43 7,LM 44 6,LO 45 (.cvt .u32 (LT 44)),LO 46 (.iaddr 1 (LT 42) (LT 43)),LN (.store 1 (LT 46) (LT 45))] (.dT [LM 47 6,LO 48 (.bin .shr (LT 47) (.const (.int .u64 32))),LM 6 48])))))) (.dT [LO 49 (.bin .add (LT 21) (LI 1)),LM 21 49]))))
def tP:aD:=(LS [LO 4 (.mv (.const (.slice none 0 0)))] (.seq (LS [LM 8 0,LO 9 (.len (LT 8)),LM 10 1,LO 11 (.len (LT 10)),LO 12 (.bin .lss (LT 9) (LT 11))] (.cond (LT 12) (.dT [LM 13 1,LM 14 0,LM 0 13,LM 1 14]) .skip)) (LS [LM 15 0,LO 16 (.len (LT 15)),LO 17 (.bin .add (LT 16) (LI 1)),LO 18 (.make [(.int .u32 0)] 4 (LT 17) (LT 17)),LM 5 18,LO 6 (.mv (.const (.int .u64 0)))] (.seq (LS [LM 19 0,LO 20 (.len (LT 19)),LO 21 (.mv (LI 0))] (.block 0 (.loop kP))) (LS [LM 50 5,LM 51 0,LO 52 (.len (LT 51)),LM 53 6,LO 54 (.cvt .u32 (LT 53)),LO 55 (.iaddr 1 (LT 50) (LT 52)),LN (.store 1 (LT 55) (LT 54))] (LS [LM 56 5,LO 57 (.call 182 [(LT 56)]),LM 4 57] .ret))))))
def xN:aV:=⟨58,[(.tmp 4)],tP⟩
theorem GY:gT 174=some xN:=by kernel_rfl
def iT:aD:=(LS [LO 15 (.bin .lss (LT 14) (LT 13))] (.seq (.cond (LT 15) .skip (.exit 0)) (.seq (.block 1 (LS [LM 16 14,LM 7 16] (LS [LM 17 0,LM 18 7,LO 19 (.iaddr 1 (LT 17) (LT 18)),LO 20 (LL 19),LO 21 (.cvt .i64 (LT 20)),LM 22 6,LO 23 (.bin .sub (LT 21) (LT 22)),LM 8 23] (.seq (LS [LM 24 7,LM 25 1,LO 26 (.len (LT 25)),LO 27 (.bin .lss (LT 24) (LT 26))] (.cond (LT 27) (.dT [LM 28 8,LM 29 1,LM 30 7,LO 31 (.iaddr 1 (LT 29) (LT 30)),LO 32 (LL 31),LO 33 (.cvt .i64 (LT 32)),LO 34 (.bin .sub (LT 28) (LT 33)),LM 8 34]) .skip)) (LS [LO 6 (.mv (LI 0))] (.seq (LS [LM 35 8,LO 36 (.bin .lss (LT 35) (LI 0))] (.cond (LT 36) (.dT [LO 6 (.mv (LI 1))]) .skip)) (.dT [LM 37 5,LM 38 7,LM 39 8,LO 40 (.cvt .u32 (LT 39)),LO 41 (.iaddr 1 (LT 37) (LT 38)),LN (.store 1 (LT 41) (LT 40))]))))))) (.dT [LO 42 (.bin .add (LT 14) (LI 1)),LM 14 42]))))
def AB:aD:=(LS [LO 4 (.mv (.const (.slice none 0 0)))] (LS [LM 9 0,LO 10 (.len (LT 9)),LO 11 (.make [(.int .u32 0)] 4 (LT 10) (LT 10)),LM 5 11,LO 6 (.mv (LI 0))] (.seq (LS [LM 12 0,LO 13 (.len (LT 12)),LO 14 (.mv (LI 0))] (.block 0 (.loop iT))) (LS [LM 43 5,LO 44 (.call 182 [(LT 43)]),LM 4 44] .ret))))
def CR:aV:=⟨45,[(.tmp 4)],AB⟩
theorem Hy:gT 181=some CR:=by kernel_rfl
def sP:aD:=(LS [LO 1 (.box (LT 0)),LO 2 (.mv (.const (.string ⟨#[]⟩))),LO 3 (.mv LF)] (LS [LO 7 (LA 1 1),LO 8 (LL 7),LQ 9 (.call 102 [(LT 8)]),LO 10 (LA 2 1),LO 11 (LL 10),LQ 12 (.call 102 [(LT 11)]),LM 4 9,LM 5 12] (LS [LM 13 4,LM 6 13] (.seq (LS [LO 14 (LA 0 1),LO 15 (LL 14)] (.cond (LT 15) (.dT [LM 16 6,LO 17 (.bin .add (.const (.string ⟨#[45]⟩)) (LT 16)),LM 6 17]) .skip)) (.seq (LS [LM 18 5,LO 19 (.bin .neq (LT 18) (.const (.string ⟨#[49]⟩)))] (.cond (LT 19) (.dT [LM 20 6,LM 21 5,LO 22 (.bin .add (.const (.string ⟨#[47]⟩)) (LT 21)),LO 23 (.bin .add (LT 20) (LT 22)),LM 6 23]) .skip)) (LS [LM 24 6,LM 25 4,LO 26 (.slen (LT 25)),LO 27 (.bin .leq (LT 26) (LI 200)),LM 28 27,LY 28 29 (.mv (LT 5)),LY 28 30 (.slen (LT 29)),LY 28 31 (.bin .leq (LT 30) (LI 200)),LO 32 (.pick (LT 28) (LT 31) LF),LM 2 24,LM 3 32] .ret))))))
def vJ:aV:=⟨33,[(.tmp 2),(.tmp 3)],sP⟩
theorem E9:gT 172=some vJ:=by kernel_rfl
def qO:aD:=(LS [LO 1 (.box (LT 0)),LO 2 (.mv LF)] (LS [LO 3 (LK 1),LQ 4 (.call 97 [(LI 1)]),LQ 5 (.call 206 [(LT 3),(LT 4)]),LO 6 (.bin .eql (LT 5) (LI 0)),LM 2 6] .ret))
def tM:aV:=⟨7,[(.tmp 2)],qO⟩
theorem ES:gT 196=some tM:=by kernel_rfl
def cU:aD:=(LS [LO 2 (.new [(.bool false),(.slice none 0 0),(.slice none 0 0)]),LO 3 (.mv LF)] (LS [LM 16 0,LO 17 (.call 167 [(LT 16),(.const (.string ⟨#[47]⟩))]),LM 15 17,LO 18 (LX 15 0),LO 19 (LX 15 1),LO 20 (LX 15 2),LM 4 18,LM 5 19,LM 6 20] (LS [LM 22 4,LO 23 (.call 168 [(LT 22),(.const (.string ⟨#[45]⟩))]),LM 21 23,LO 24 (LX 21 0),LO 25 (LX 21 1),LM 7 24,LM 8 25] (LS [LM 27 7,LO 28 (.call 169 [(LT 27)]),LM 26 28,LO 29 (LX 26 0),LO 30 (LX 26 1),LM 9 29,LM 10 30] (.seq (LS [LM 31 10,LO 32 (.un .not (LT 31)),LM 33 32,LZ 33 34 (.mv (LT 8)),LZ 33 35 (.mv (LT 34)),LY 35 36 (.mv (LT 9)),LY 35 37 (.len (LT 36)),LY 35 38 (.bin .eql (LT 37) (LI 0)),LZ 33 39 (.pick (LT 35) (LT 38) LF),LO 40 (.pick (LT 33) LG (LT 39))] (.cond (LT 40) (LS [LO 41 (.build [(.bool false),(.slice none 0 0),(.slice none 0 0)] [(0,1),(1,1),(2,1)] []),LN (.store 3 (LT 2) (LT 41)),LO 3 (.mv LF)] .ret) .skip)) (LS [LM 42 8,LM 43 9,LO 44 (.call 101 [(.const (.int .u64 1))]),LO 45 (.build [(.bool false),(.slice none 0 0),(.slice none 0 0)] [(0,1),(1,1),(2,1)] [(0,(LT 42)),(1,(LT 43)),(2,(LT 44))]),LO 11 (.new [(.bool false),(.slice none 0 0),(.slice none 0 0)]),LN (.store 3 (LT 11) (LT 45))] (.seq (LS [LM 46 6,LO 47 (.un .not (LT 46))] (.cond (LT 47) (LS [LO 48 (LK 11),LN (.store 3 (LT 2) (LT 48)),LO 3 (.mv LG)] .ret) .skip)) (LS [LM 50 5,LO 51 (.call 169 [(LT 50)]),LM 49 51,LO 52 (LX 49 0),LO 53 (LX 49 1),LM 12 52,LM 13 53] (.seq (LS [LM 54 13,LO 55 (.un .not (LT 54)),LM 56 55,LZ 56 57 (.mv (LT 12)),LZ 56 58 (.call 101 [(.const (.int .u64 1))]),LZ 56 59 (.call 170 [(LT 57),(LT 58)]),LZ 56 60 (.bin .leq (LT 59) (LI 0)),LO 61 (.pick (LT 56) LG (LT 60))] (.cond (LT 61) (LS [LO 62 (.build [(.bool false),(.slice none 0 0),(.slice none 0 0)] [(0,1),(1,1),(2,1)] []),LN (.store 3 (LT 2) (LT 62)),LO 3 (.mv LF)] .ret) .skip)) (.seq (LS [LM 63 9,LM 64 12,LO 65 (.call 171 [(LT 63),(LT 64)]),LM 14 65] (LS [LM 66 14,LO 67 (.call 101 [(.const (.int .u64 1))]),LO 68 (.call 170 [(LT 66),(LT 67)]),LO 69 (.bin .neq (LT 68) (LI 0))] (.cond (LT 69) (LS [LO 70 (.build [(.bool false),(.slice none 0 0),(.slice none 0 0)] [(0,1),(1,1),(2,1)] []),LN (.store 3 (LT 2) (LT 70)),LO 3 (.mv LF)] .ret) .skip))) (LS [LM 71 8,LM 72 9,LM 73 12,LO 74 (.build [(.bool false),(.slice none 0 0),(.slice none 0 0)] [(0,1),(1,1),(2,1)] [(0,(LT 71)),(1,(LT 72)),(2,(LT 73))]),LN (.store 3 (LT 2) (LT 74)),LO 3 (.mv LG)] .ret)))))))))))
def dX:aV:=⟨75,[(.cell 2 true 3),(.tmp 3)],cU⟩
theorem JZ:gT 89=some dX:=by kernel_rfl
def sF:aD:=(.seq (LS [LM 28 7,LO 29 (.bin .gtr (LT 28) (.const (.int .u64 0)))] (.cond (LT 29) .skip (.exit 2))) (.block 3 (.dT [LM 30 7,LM 31 5,LM 32 7,LO 33 (.bin .rem (LT 31) (LT 32)),LM 5 30,LM 7 33])))
def iS:aD:=(.seq (LS [LM 11 1,LO 12 (.len (LT 11)),LO 13 (.bin .gtr (LT 12) (LI 0))] (.cond (LT 13) .skip (.exit 0))) (.block 1 (LS [LM 15 0,LO 16 (.call 218 [(LT 15)]),LM 14 16,LO 17 (LX 14 0),LO 18 (LX 14 1),LM 5 17,LM 6 18] (LS [LM 20 1,LO 21 (.call 218 [(LT 20)]),LM 19 21,LO 22 (LX 19 0),LO 23 (LX 19 1),LM 7 22,LM 8 23] (.seq (LS [LM 24 6,LM 25 24,LY 25 26 (.mv (LT 8)),LO 27 (.pick (LT 25) (LT 26) LF)] (.cond (LT 27) (.seq (.block 2 (.loop sF)) (LS [LM 34 5,LO 35 (.call 101 [(LT 34)]),LM 4 35] .ret)) .skip)) (LS [LM 37 0,LM 38 1,LO 39 (.call 173 [(LT 37),(LT 38)]),LM 36 39,LO 40 (LX 36 0),LO 41 (LX 36 1),LM 9 40,LM 10 41] (.dT [LM 42 1,LM 43 10,LM 0 42,LM 1 43])))))))
def Au:aD:=(LS [LO 4 (.mv (.const (.slice none 0 0)))] (.seq (.block 0 (.loop iS)) (LS [LM 44 0,LM 4 44] .ret)))
def CE:aV:=⟨45,[(.tmp 4)],Au⟩
theorem Hj:gT 171=some CE:=by kernel_rfl
def gD:aD:=(.seq (LS [LM 105 17,LO 106 (.bin .geq (LT 105) (.const (.int .u64 4294967296))),LM 107 106,LZ 107 108 (.mv (LT 17)),LZ 107 109 (.mv (LT 12)),LZ 107 110 (.bin .mul (LT 108) (LT 109)),LZ 107 111 (.mv (LT 18)),LZ 107 112 (.bin .shl (LT 111) (.const (.int .u64 32))),LZ 107 113 (.mv (LT 9)),LZ 107 114 (.mv (LT 15)),LZ 107 115 (.bin .sub (LT 114) (LI 2)),LZ 107 116 (.iaddr 1 (LT 113) (LT 115)),LZ 107 117 (LL 116),LZ 107 118 (.cvt .u64 (LT 117)),LZ 107 119 (.bin .add (LT 112) (LT 118)),LZ 107 120 (.bin .gtr (LT 110) (LT 119)),LO 121 (.pick (LT 107) LG (LT 120))] (.cond (LT 121) .skip (.exit 2))) (.block 3 (LS [LM 122 17,LO 123 (.bin .sub (LT 122) (.const (.int .u64 1))),LM 17 123] (LS [LM 124 18,LM 125 11,LO 126 (.bin .add (LT 124) (LT 125)),LM 18 126] (LS [LM 127 18,LO 128 (.bin .geq (LT 127) (.const (.int .u64 4294967296)))] (.cond (LT 128) (.exit 2) .skip))))))
def nN:aD:=(.seq (LS [LM 78 14,LO 79 (.bin .geq (LT 78) (LI 0))] (.cond (LT 79) .skip (.exit 0))) (.seq (.block 1 (LS [LM 82 14,LM 83 10,LO 84 (.len (LT 83)),LO 85 (.bin .add (LT 82) (LT 84)),LM 15 85] (LS [LM 86 9,LM 87 15,LO 88 (.iaddr 1 (LT 86) (LT 87)),LO 89 (LL 88),LO 90 (.cvt .u64 (LT 89)),LO 91 (.bin .shl (LT 90) (.const (.int .u64 32))),LM 92 9,LM 93 15,LO 94 (.bin .sub (LT 93) (LI 1)),LO 95 (.iaddr 1 (LT 92) (LT 94)),LO 96 (LL 95),LO 97 (.cvt .u64 (LT 96)),LO 98 (.bin .add (LT 91) (LT 97)),LM 16 98] (LS [LM 99 16,LM 100 11,LO 101 (.bin .quo (LT 99) (LT 100)),LM 102 16,LM 103 11,LO 104 (.bin .rem (LT 102) (LT 103)),LM 17 101,LM 18 104] (.seq (.block 2 (.loop gD)) (.seq (LS [LM 129 9,LM 130 14,LM 131 15,LO 132 (.bin .add (LT 131) (LI 1)),LO 133 (.sub 1 (LT 129) (some (LT 130)) (some (LT 132)) none),LM 134 10,LM 135 17,LO 136 (.call 221 [(LT 133),(LT 134),(LT 135)])] (.cond (LT 136) (.dT [LM 137 17,LO 138 (.bin .sub (LT 137) (.const (.int .u64 1))),LM 17 138]) .skip)) (.dT [LM 139 13,LM 140 14,LM 141 17,LO 142 (.cvt .u32 (LT 141)),LO 143 (.iaddr 1 (LT 139) (LT 140)),LN (.store 1 (LT 143) (LT 142))]))))))) (.dT [LM 80 14,LO 81 (.bin .sub (LT 80) (LI 1)),LM 14 81])))
def kU:aD:=(LS [LO 149 (.bin .lss (LT 148) (LT 147))] (.seq (.cond (LT 149) .skip (.exit 4)) (.seq (.block 5 (LS [LM 150 148,LM 19 150] (LS [LO 20 (.mv (.const (.int .u64 0)))] (.seq (LS [LM 151 19,LO 152 (.bin .add (LT 151) (LI 1)),LM 153 9,LO 154 (.len (LT 153)),LO 155 (.bin .lss (LT 152) (LT 154))] (.cond (LT 155) (.dT [LM 156 9,LM 157 19,LO 158 (.bin .add (LT 157) (LI 1)),LO 159 (.iaddr 1 (LT 156) (LT 158)),LO 160 (LL 159),LO 161 (.cvt .u64 (LT 160)),LM 20 161]) .skip)) (.dT [LM 162 9,LM 163 19,LM 164 20,LO 165 (.bin .shl (LT 164) (.const (.int .u64 32))),LM 166 9,LM 167 19,LO 168 (.iaddr 1 (LT 166) (LT 167)),LO 169 (LL 168),LO 170 (.cvt .u64 (LT 169)),LO 171 (.bin .add (LT 165) (LT 170)),LM 172 8,LO 173 (.bin .shr (LT 171) (LT 172)),LO 174 (.cvt .u32 (LT 173)),LO 175 (.iaddr 1 (LT 162) (LT 163)),LN (.store 1 (LT 175) (LT 174))]))))) (.dT [LO 176 (.bin .add (LT 148) (LI 1)),LM 148 176]))))
def oU:aD:=(LS [LO 4 (.mv (.const (.slice none 0 0))),LO 5 (.mv (.const (.slice none 0 0)))] (.seq (LS [LM 21 0,LM 22 1,LO 23 (.call 170 [(LT 21),(LT 22)]),LO 24 (.bin .lss (LT 23) (LI 0))] (.cond (LT 24) (LS [LM 25 0,LO 4 (.mv (.const (.slice none 0 0))),LM 5 25] .ret) .skip)) (.seq (LS [LM 26 1,LO 27 (.len (LT 26)),LO 28 (.bin .eql (LT 27) (LI 1))] (.cond (LT 28) (LS [LM 30 0,LM 31 1,LO 32 (.iaddr 1 (LT 31) (LI 0)),LO 33 (LL 32),LO 34 (.call 183 [(LT 30),(LT 33)]),LM 29 34,LO 35 (LX 29 0),LO 36 (LX 29 1),LM 6 35,LM 7 36] (LS [LM 37 6,LM 38 7,LO 39 (.lit [(.int .u32 0)] 1 [(0,(LT 38))]),LO 40 (.call 182 [(LT 39)]),LM 4 37,LM 5 40] .ret)) .skip)) (LS [LM 41 1,LM 42 1,LO 43 (.len (LT 42)),LO 44 (.bin .sub (LT 43) (LI 1)),LO 45 (.iaddr 1 (LT 41) (LT 44)),LO 46 (LL 45),LO 47 (.call 219 [(LT 46)]),LM 8 47] (LS [LM 48 0,LM 49 8,LO 50 (.call 220 [(LT 48),(LT 49)]),LM 51 1,LM 52 8,LO 53 (.call 220 [(LT 51),(LT 52)]),LO 54 (.call 182 [(LT 53)]),LM 9 50,LM 10 54] (LS [LM 55 10,LM 56 10,LO 57 (.len (LT 56)),LO 58 (.bin .sub (LT 57) (LI 1)),LO 59 (.iaddr 1 (LT 55) (LT 58)),LO 60 (LL 59),LO 61 (.cvt .u64 (LT 60)),LM 11 61] (LS [LM 62 10,LM 63 10,LO 64 (.len (LT 63)),LO 65 (.bin .sub (LT 64) (LI 2)),LO 66 (.iaddr 1 (LT 62) (LT 65)),LO 67 (LL 66),LO 68 (.cvt .u64 (LT 67)),LM 12 68] (LS [LM 69 9,LO 70 (.len (LT 69)),LM 71 10,LO 72 (.len (LT 71)),LO 73 (.bin .sub (LT 70) (LT 72)),LO 74 (.make [(.int .u32 0)] 4 (LT 73) (LT 73)),LM 13 74] (.seq (LS [LM 75 13,LO 76 (.len (LT 75)),LO 77 (.bin .sub (LT 76) (LI 1)),LM 14 77] (.block 0 (.loop nN))) (LS [LM 144 9,LO 145 (.call 182 [(LT 144)]),LM 9 145] (.seq (LS [LM 146 9,LO 147 (.len (LT 146)),LO 148 (.mv (LI 0))] (.block 4 (.loop kU))) (LS [LM 177 13,LO 178 (.call 182 [(LT 177)]),LM 179 9,LO 180 (.call 182 [(LT 179)]),LM 4 178,LM 5 180] .ret))))))))))))
def rK:aV:=⟨181,[(.tmp 4),(.tmp 5)],oU⟩
theorem HD:gT 173=some rK:=by kernel_rfl
def fJ:aD:=(.seq (LS [LM 3 0,LO 4 (.len (LT 3)),LO 5 (.bin .gtr (LT 4) (LI 0)),LM 6 5,LY 6 7 (.mv (LT 0)),LY 6 8 (.mv (LT 0)),LY 6 9 (.len (LT 8)),LY 6 10 (.bin .sub (LT 9) (LI 1)),LY 6 11 (.iaddr 1 (LT 7) (LT 10)),LY 6 12 (LL 11),LY 6 13 (.bin .eql (LT 12) (.const (.int .u32 0))),LO 14 (.pick (LT 6) (LT 13) LF)] (.cond (LT 14) .skip (.exit 0))) (.block 1 (.dT [LM 15 0,LM 16 0,LO 17 (.len (LT 16)),LO 18 (.bin .sub (LT 17) (LI 1)),LO 19 (.sub 1 (LT 15) none (some (LT 18)) none),LM 0 19])))
def sL:aD:=(LS [LO 2 (.mv (.const (.slice none 0 0)))] (.seq (.block 0 (.loop fJ)) (LS [LM 20 0,LM 2 20] .ret)))
def vK:aV:=⟨21,[(.tmp 2)],sL⟩
theorem zU:gT 182=some vK:=by kernel_rfl
def mH:aD:=(.seq (LS [LM 11 0,LO 12 (.len (LT 11)),LO 13 (.bin .gtr (LT 12) (LI 0))] (.cond (LT 13) .skip (.exit 0))) (.block 1 (LS [LM 15 0,LO 16 (.call 183 [(LT 15),(.const (.int .u32 1000000000))]),LM 14 16,LO 17 (LX 14 0),LO 18 (LX 14 1),LM 4 17,LM 5 18] (LS [LM 19 5,LO 20 (.cvt .u64 (LT 19)),LO 21 (.call 184 [(LT 20),(LI 10)]),LM 6 21] (.seq (LS [LM 22 4,LO 23 (.len (LT 22)),LO 24 (.bin .gtr (LT 23) (LI 0))] (.cond (LT 24) (.dT [LM 25 6,LO 26 (.slen (LT 25)),LO 27 (.bin .sub (LI 9) (LT 26)),LO 28 (.call 103 [(.const (.string ⟨#[48]⟩)),(LT 27)]),LM 29 6,LO 30 (.bin .add (LT 28) (LT 29)),LM 6 30]) .skip)) (.dT [LM 31 3,LM 32 6,LO 33 (.lit [(.string ⟨#[]⟩)] 1 [(0,(LT 32))]),LO 34 (.app 1 16 (LT 31) (LT 33)),LM 35 4,LM 3 34,LM 0 35]))))))
def rW:aD:=(LS [LO 2 (.mv (.const (.string ⟨#[]⟩)))] (.seq (LS [LM 7 0,LO 8 (.len (LT 7)),LO 9 (.bin .eql (LT 8) (LI 0))] (.cond (LT 9) (LS [LO 2 (.mv (.const (.string ⟨#[48]⟩)))] .ret) .skip)) (LS [LO 10 (.lit [(.string ⟨#[]⟩)] 0 []),LM 3 10] (.seq (.block 0 (.loop mH)) (LS [LM 36 3,LO 37 (.call 185 [(LT 36)])] (LS [LM 38 3,LO 39 (.call 186 [(LT 38),(.const (.string ⟨#[]⟩))]),LM 2 39] .ret))))))
def vE:aV:=⟨40,[(.tmp 2)],rW⟩
theorem FM:gT 102=some vE:=by kernel_rfl
def kJ:aD:=(LS [LO 31 (.bin .lss (LT 30) (LT 29))] (.seq (.cond (LT 31) .skip (.exit 0)) (.seq (.block 1 (LS [LM 32 30,LM 5 32] (LS [LM 33 0,LM 34 5,LO 35 (.sidx (LT 33) (LT 34)),LO 36 (.bin .lss (LT 35) (.const (.int .u8 48))),LM 37 36,LZ 37 38 (.mv (LT 0)),LZ 37 39 (.mv (LT 5)),LZ 37 40 (.sidx (LT 38) (LT 39)),LZ 37 41 (.bin .gtr (LT 40) (.const (.int .u8 57))),LO 42 (.pick (LT 37) LG (LT 41))] (.cond (LT 42) (LS [LO 2 (.mv (.const (.slice none 0 0))),LO 3 (.mv LF)] .ret) .skip)))) (.dT [LO 43 (.bin .add (LT 30) (LI 1)),LM 30 43]))))
def qC:aD:=(LS [LO 60 (.bin .lss (LT 59) (LT 58))] (.seq (.cond (LT 60) .skip (.exit 4)) (.seq (.block 5 (.dT [LM 61 9,LO 62 (.bin .mul (LT 61) (.const (.int .u64 10))),LM 9 62])) (.dT [LO 63 (.bin .add (LT 59) (LI 1)),LM 59 63]))))
def mW:aD:=(.seq (LS [LM 44 0,LO 45 (.bin .neq (LT 44) (.const (.string ⟨#[]⟩)))] (.cond (LT 45) .skip (.exit 2))) (.block 3 (LS [LM 46 0,LO 47 (.slen (LT 46)),LO 48 (.bin .rem (LT 47) (LI 9)),LM 6 48] (.seq (LS [LM 49 6,LO 50 (.bin .eql (LT 49) (LI 0))] (.cond (LT 50) (.dT [LO 6 (.mv (LI 9))]) .skip)) (LS [LM 52 0,LM 53 6,LO 54 (.ssub (LT 52) none (some (LT 53))),LO 55 (.call 217 [(LT 54),(LI 10),(LI 64)]),LM 51 55,LO 56 (LX 51 0),LO 57 (LX 51 1),LM 7 56,LM 8 57] (LS [LO 9 (.mv (.const (.int .u64 1)))] (.seq (LS [LM 58 6,LO 59 (.mv (LI 0))] (.block 4 (.loop qC))) (.dT [LM 64 4,LM 65 9,LQ 66 (.call 101 [(LT 65)]),LQ 67 (.call 180 [(LT 64),(LT 66)]),LM 68 7,LQ 69 (.call 101 [(LT 68)]),LQ 70 (.call 174 [(LT 67),(LT 69)]),LM 71 0,LM 72 6,LO 73 (.ssub (LT 71) (some (LT 72)) none),LM 4 70,LM 0 73]))))))))
def lK:aD:=(LS [LO 2 (.mv (.const (.slice none 0 0))),LO 3 (.mv LF)] (.seq (LS [LM 10 0,LO 11 (.bin .eql (LT 10) (.const (.string ⟨#[]⟩))),LM 12 11,LZ 12 13 (.mv (LT 0)),LZ 12 14 (.slen (LT 13)),LZ 12 15 (.bin .gtr (LT 14) (LI 200)),LO 16 (.pick (LT 12) LG (LT 15)),LM 17 16,LZ 17 18 (.mv (LT 0)),LZ 17 19 (.sidx (LT 18) (LI 0)),LZ 17 20 (.bin .eql (LT 19) (.const (.int .u8 48))),LZ 17 21 (.mv (LT 20)),LY 21 22 (.mv (LT 0)),LY 21 23 (.slen (LT 22)),LY 21 24 (.bin .gtr (LT 23) (LI 1)),LZ 17 25 (.pick (LT 21) (LT 24) LF),LO 26 (.pick (LT 17) LG (LT 25))] (.cond (LT 26) (LS [LO 2 (.mv (.const (.slice none 0 0))),LO 3 (.mv LF)] .ret) .skip)) (LS [LO 27 (.lit [(.int .u32 0)] 0 []),LM 4 27] (.seq (LS [LM 28 0,LO 29 (.slen (LT 28)),LO 30 (.mv (LI 0))] (.block 0 (.loop kJ))) (.seq (.block 2 (.loop mW)) (LS [LM 74 4,LM 2 74,LO 3 (.mv LG)] .ret))))))
def pD:aV:=⟨75,[(.tmp 2),(.tmp 3)],lK⟩
theorem JB:gT 169=some pD:=by kernel_rfl
def lF:aD:=(.seq (LS [LM 9 5,LO 10 (.bin .geq (LT 9) (LI 0)),LM 11 10,LY 11 12 (.mv (LT 0)),LY 11 13 (.len (LT 12)),LY 11 14 (.bin .leq (LT 13) (LI 2)),LO 15 (.pick (LT 11) (LT 14) LF)] (.cond (LT 15) .skip (.exit 0))) (.seq (.block 1 (.dT [LM 18 4,LO 19 (.bin .shl (LT 18) (.const (.int .u64 32))),LM 20 0,LM 21 5,LO 22 (.iaddr 1 (LT 20) (LT 21)),LO 23 (LL 22),LO 24 (.cvt .u64 (LT 23)),LO 25 (.bin .add (LT 19) (LT 24)),LM 4 25])) (.dT [LM 16 5,LO 17 (.bin .sub (LT 16) (LI 1)),LM 5 17])))
def xA:aD:=(LS [LO 2 (.mv (.const (.int .u64 0))),LO 3 (.mv LF)] (LS [LO 4 (.mv (.const (.int .u64 0)))] (.seq (LS [LM 6 0,LO 7 (.len (LT 6)),LO 8 (.bin .sub (LT 7) (LI 1)),LM 5 8] (.block 0 (.loop lF))) (LS [LM 26 4,LM 27 0,LO 28 (.len (LT 27)),LO 29 (.bin .leq (LT 28) (LI 2)),LM 2 26,LM 3 29] .ret))))
def Ba:aV:=⟨30,[(.tmp 2),(.tmp 3)],xA⟩
theorem EO:gT 218=some Ba:=by kernel_rfl
def mD:aD:=(.seq (LS [LM 15 8,LO 16 (.bin .geq (LT 15) (LI 0))] (.cond (LT 16) .skip (.exit 0))) (.seq (.block 1 (LS [LM 19 7,LO 20 (.bin .shl (LT 19) (.const (.int .u64 32))),LM 21 0,LM 22 8,LO 23 (.iaddr 1 (LT 21) (LT 22)),LO 24 (LL 23),LO 25 (.cvt .u64 (LT 24)),LO 26 (.bin .add (LT 20) (LT 25)),LM 7 26] (LS [LM 27 6,LM 28 8,LM 29 7,LM 30 1,LO 31 (.cvt .u64 (LT 30)),LO 32 (.bin .quo (LT 29) (LT 31)),LO 33 (.cvt .u32 (LT 32)),LO 34 (.iaddr 1 (LT 27) (LT 28)),LN (.store 1 (LT 34) (LT 33))] (.dT [LM 35 7,LM 36 1,LO 37 (.cvt .u64 (LT 36)),LO 38 (.bin .rem (LT 35) (LT 37)),LM 7 38])))) (.dT [LM 17 8,LO 18 (.bin .sub (LT 17) (LI 1)),LM 8 18])))
def sW:aD:=(LS [LO 4 (.mv (.const (.slice none 0 0))),LO 5 (.mv (.const (.int .u32 0)))] (LS [LM 9 0,LO 10 (.len (LT 9)),LO 11 (.make [(.int .u32 0)] 4 (LT 10) (LT 10)),LM 6 11,LO 7 (.mv (.const (.int .u64 0)))] (.seq (LS [LM 12 0,LO 13 (.len (LT 12)),LO 14 (.bin .sub (LT 13) (LI 1)),LM 8 14] (.block 0 (.loop mD))) (LS [LM 39 6,LO 40 (.call 182 [(LT 39)]),LM 41 7,LO 42 (.cvt .u32 (LT 41)),LM 4 40,LM 5 42] .ret))))
def vQ:aV:=⟨43,[(.tmp 4),(.tmp 5)],sW⟩
theorem Cf:gT 183=some vQ:=by kernel_rfl
def nD:aD:=(LS [LO 16 (.bin .lss (LT 15) (LT 14))] (.seq (.cond (LT 16) .skip (.exit 0)) (.seq (.block 1 (LS [LM 17 15,LO 18 (.iaddr 1 (LT 13) (LT 15)),LO 19 (LL 18),LM 6 17,LM 7 19] (LS [LM 20 7,LO 21 (.cvt .u64 (LT 20)),LM 22 1,LO 23 (.bin .shl (LT 21) (LT 22)),LM 8 23] (LS [LM 24 5,LM 25 6,LO 26 (.iaddr 1 (LT 24) (LT 25)),LO 27 (LL 26),LM 28 8,LO 29 (.cvt .u32 (LT 28)),LO 30 (.bin .or (LT 27) (LT 29)),LO 31 (.iaddr 1 (LT 24) (LT 25)),LN (.store 1 (LT 31) (LT 30))] (.dT [LM 32 5,LM 33 6,LO 34 (.bin .add (LT 33) (LI 1)),LM 35 8,LO 36 (.bin .shr (LT 35) (.const (.int .u64 32))),LO 37 (.cvt .u32 (LT 36)),LO 38 (.iaddr 1 (LT 32) (LT 34)),LN (.store 1 (LT 38) (LT 37))]))))) (.dT [LO 39 (.bin .add (LT 15) (LI 1)),LM 15 39]))))
def uR:aD:=(LS [LO 4 (.mv (.const (.slice none 0 0)))] (LS [LM 9 0,LO 10 (.len (LT 9)),LO 11 (.bin .add (LT 10) (LI 1)),LO 12 (.make [(.int .u32 0)] 4 (LT 11) (LT 11)),LM 5 12] (.seq (LS [LM 13 0,LO 14 (.len (LT 13)),LO 15 (.mv (LI 0))] (.block 0 (.loop nD))) (LS [LM 40 5,LM 4 40] .ret))))
def yK:aV:=⟨41,[(.tmp 4)],uR⟩
theorem Cw:gT 220=some yK:=by kernel_rfl
def fQ:aD:=(LS [LO 15 (.bin .lss (LT 14) (LT 13))] (.seq (.cond (LT 15) .skip (.exit 0)) (.seq (.block 1 (LS [LM 16 14,LM 9 16] (.seq (LS [LM 17 9,LM 18 1,LO 19 (.len (LT 18)),LO 20 (.bin .lss (LT 17) (LT 19))] (.cond (LT 20) (.dT [LM 21 7,LM 22 2,LM 23 1,LM 24 9,LO 25 (.iaddr 1 (LT 23) (LT 24)),LO 26 (LL 25),LO 27 (.cvt .u64 (LT 26)),LO 28 (.bin .mul (LT 22) (LT 27)),LO 29 (.bin .add (LT 21) (LT 28)),LM 7 29]) .skip)) (LS [LM 30 0,LM 31 9,LO 32 (.iaddr 1 (LT 30) (LT 31)),LO 33 (LL 32),LO 34 (.cvt .i64 (LT 33)),LM 35 7,LO 36 (.cvt .u32 (LT 35)),LO 37 (.cvt .i64 (LT 36)),LO 38 (.bin .sub (LT 34) (LT 37)),LM 39 8,LO 40 (.bin .sub (LT 38) (LT 39)),LM 10 40] (LS [LM 41 7,LO 42 (.bin .shr (LT 41) (.const (.int .u64 32))),LM 7 42] (LS [LO 8 (.mv (LI 0))] (.seq (LS [LM 43 10,LO 44 (.bin .lss (LT 43) (LI 0))] (.cond (LT 44) (.dT [LO 8 (.mv (LI 1))]) .skip)) (.dT [LM 45 0,LM 46 9,LM 47 10,LO 48 (.cvt .u32 (LT 47)),LO 49 (.iaddr 1 (LT 45) (LT 46)),LN (.store 1 (LT 49) (LT 48))])))))))) (.dT [LO 50 (.bin .add (LT 14) (LI 1)),LM 14 50]))))
def lJ:aD:=(LS [LO 60 (.bin .lss (LT 59) (LT 58))] (.seq (.cond (LT 60) .skip (.exit 2)) (.seq (.block 3 (LS [LM 61 59,LM 11 61] (LS [LM 62 7,LM 63 0,LM 64 11,LO 65 (.iaddr 1 (LT 63) (LT 64)),LO 66 (LL 65),LO 67 (.cvt .u64 (LT 66)),LO 68 (.bin .add (LT 62) (LT 67)),LM 7 68] (.seq (LS [LM 69 11,LM 70 1,LO 71 (.len (LT 70)),LO 72 (.bin .lss (LT 69) (LT 71))] (.cond (LT 72) (.dT [LM 73 7,LM 74 1,LM 75 11,LO 76 (.iaddr 1 (LT 74) (LT 75)),LO 77 (LL 76),LO 78 (.cvt .u64 (LT 77)),LO 79 (.bin .add (LT 73) (LT 78)),LM 7 79]) .skip)) (LS [LM 80 0,LM 81 11,LM 82 7,LO 83 (.cvt .u32 (LT 82)),LO 84 (.iaddr 1 (LT 80) (LT 81)),LN (.store 1 (LT 84) (LT 83))] (.dT [LM 85 7,LO 86 (.bin .shr (LT 85) (.const (.int .u64 32))),LM 7 86])))))) (.dT [LO 87 (.bin .add (LT 59) (LI 1)),LM 59 87]))))
def BZ:aD:=(LS [LO 6 (.mv LF)] (LS [LO 7 (.mv (.const (.int .u64 0))),LO 8 (.mv (LI 0))] (.seq (LS [LM 12 0,LO 13 (.len (LT 12)),LO 14 (.mv (LI 0))] (.block 0 (.loop fQ))) (.seq (LS [LM 51 8,LO 52 (.bin .eql (LT 51) (LI 0)),LM 53 52,LY 53 54 (.mv (LT 7)),LY 53 55 (.bin .eql (LT 54) (.const (.int .u64 0))),LO 56 (.pick (LT 53) (LT 55) LF)] (.cond (LT 56) (LS [LO 6 (.mv LF)] .ret) .skip)) (LS [LO 7 (.mv (.const (.int .u64 0)))] (.seq (LS [LM 57 0,LO 58 (.len (LT 57)),LO 59 (.mv (LI 0))] (.block 2 (.loop lJ))) (LS [LO 6 (.mv LG)] .ret)))))))
def D1:aV:=⟨88,[(.tmp 6)],BZ⟩
theorem IJ:gT 221=some D1:=by kernel_rfl
end Go.PM
namespace Go.PM
end Go.PM
namespace Go.PM
def E8:aD:=(LS [LO 6 (.mv LF)] (LS [LM 7 0,LM 8 1,LO 9 (.bin .geq (LT 7) (LT 8)),LM 10 9,LY 10 11 (.mv (LT 0)),LY 10 12 (.mv (LT 2)),LY 10 13 (.bin .leq (LT 11) (LT 12)),LO 14 (.pick (LT 10) (LT 13) LF),LM 6 14] .ret))
def K9:aV:=⟨15,[(.tmp 6)],E8⟩
theorem N5:gT 119=some K9:=by kernel_rfl
end Go.PM
namespace Go.PM
theorem Wv (x a b:Int):TC 95 [VI x,VI a,VI b] (.sc (.bool (decide (a≤x∧x≤b)))):=by
 refine TC.walk ⟨true,false⟩ Wl rfl (Nat.le_of_ble_eq_true rfl) rfl rfl ?_
 by_cases h1:a≤x<;>by_cases h2:x≤b<;>simp only[Un,MZ,h1,h2,VX,Nat.reduceEqDiff,Nat.reduceAdd]<;>exact aG rfl
theorem NC (x a b:Int):TC 119 [VI x,VI a,VI b] (.sc (.bool (decide (a≤x∧x≤b)))):=by
 refine TC.walk ⟨true,false⟩ N5 rfl (Nat.le_of_ble_eq_true rfl) rfl rfl ?_
 by_cases h1:a≤x<;>by_cases h2:x≤b<;>simp only[K9,E8,h1,h2,VX,Nat.reduceEqDiff,Nat.reduceAdd]<;>exact aG rfl
end Go.PM
namespace Go.PM
def LR (cH:List Int) (ok:Bool) (n:Nat) (r:VV) (L:aA):Prop :=
 ∃v,r = .dL [v,.sc (.bool ok)]∧((v = .tree [] .nil∧cH=[])∨∃i g c,v = .ref (n+i) g 0 cH.length c∧cH.length≤c∧L[i]? = some (.row g (cH.map nV) 1 true))
end Go.PM
namespace Go.PM
theorem Mt {α:Type} {f:α→VV} {e b:Nat} {fill:α} {xs:List α} {H:aA} (hp:∀x,aM (f x)=true) (h:aP H b 0=some ((iI fill xs).map f,e,true)):fz depth H (.ref b 0 0 xs.length (xs.length+room xs.length))=some (aL f xs):=by
 rw[Jk h (by simp[iI]) (Nat.le_add_right _ _) (eO hp),←List.map_take,F4]
theorem Uf {α:Type} {f:α→VV} {e b g c:Nat} {xs:List α} {H:aA} (hp:∀x,aM (f x)=true) (h:aP H b g=some (xs.map f,e,true)) (hc:xs.length≤c):fz depth H (.ref b g 0 xs.length c)=some (aL f xs):=by
 rw[EB h (by simp) hc (eO hp)]
theorem eR {H H':aA} {b g:Nat} {x:List VV×Nat×Bool} (hh:H <+: H') (h:aP H b g=some x):aP H' b g=some x:=by
 obtain⟨L,rfl⟩:=hh
 exact yE h
def Seen {α:Type} (f:α→VV) (xs:List α) (H:aA) (r:VV):Prop:=∀H',H <+: H'→fz depth H' r=some (aL f xs)
theorem Seen.now {α:Type} {f:α→VV} {xs:List α} {H:aA} {r:VV} (h:Seen f xs H r):fz depth H r=some (aL f xs):=h H (List.prefix_refl _)
theorem Seen.pre {α:Type} {f:α→VV} {xs:List α} {H H':aA} {r:VV} (h:Seen f xs H r) (hh:H <+: H'):Seen f xs H' r:=fun H'' h'=>h H'' (hh.trans h')
theorem Zd {α:Type} {f:α→VV} {e F lo:Nat} {fill:α} {xs:List α} {bare:Bool} {H:aA} {K:VV→aA→Prop} (h:FC F [aL f xs,.sc (.bool bare)] (ToR f e fill xs bare)) (xI:C0.contains F=true) (hl:∀x,(aB (f x)).length=e) (hp:∀x,aM (f x)=true)
  (hk:∀r H',H <+: H'→Seen f xs H' r→K r H'):cT F [aL f xs,.sc (.bool bare)] lo H K:=by
 refine h.call xI (mapM_pure (n:=7) (by simp[aJ,gW hl hp];rfl)) ?_
 rintro r L (⟨_,rfl,rfl,rfl⟩ | ⟨rfl,rfl⟩)
 ·exact hk _ _ (List.prefix_append _ _) fun H' _=>EX
 ·refine hk _ _ (List.prefix_append _ _) fun H' hh=>Mt (e:=e) (fill:=fill) hp (eR hh ?_)
  exact zZ (i:=0) rfl
theorem ZL {α:Type} {f:α→VV} {e F lo:Nat} {fill:α} {xs:List α} {H:aA} {K:VV→aA→Prop} (h:FC F [aL f xs,.sc (.bool false)] (ToR f e fill xs false)) (xI:C0.contains F=true) (hl:∀x,(aB (f x)).length=e) (hp:∀x,aM (f x)=true)
  (hk:∀b H',H <+: H'→H.length≤b→aP H' b 0=some ((iI fill xs).map f,e,true)→K (.ref b 0 0 xs.length (xs.length+room xs.length)) H'):cT F [aL f xs,.sc (.bool false)] lo H K:=by
 refine h.call xI (mapM_pure (n:=7) (by simp[aJ,gW hl hp];rfl)) ?_
 intro r L hL
 obtain⟨rfl,rfl⟩:=hL.no
 exact hk _ _ (List.prefix_append _ _) (Nat.le_refl _) (zZ (i:=0) rfl)
def LV (lo hi:Nat) (cH:List Int) (H:aA) (v:VV):Prop :=
 (v = .tree [] .nil∧cH=[])∨∃b g c,lo≤b∧b<hi∧v = .ref b g 0 cH.length c∧cH.length≤c∧aP H b g=some (cH.map nV,1,true)
theorem LV.eI {lo hi:Nat} {cH:List Int} {H H':aA} {v:VV} (h:LV lo hi cH H v) (hk:∀b g x,lo≤b→b<hi→aP H b g=some x→aP H' b g=some x):LV lo hi cH H' v:=by
 rcases h with h | ⟨b,g,c,h1,h2,h3,h4,h5⟩
 ·exact .inl h
 ·exact .inr ⟨b,g,c,h1,h2,h3,h4,hk _ _ _ h1 h2 h5⟩
theorem LV.pre {lo hi:Nat} {cH:List Int} {H H':aA} {v:VV} (h:LV lo hi cH H v) (hh:H <+: H'):LV lo hi cH H' v:=h.eI fun _ _ _ _ _=>eR hh
theorem LV.set {lo hi b':Nat} {x:fU} {cH:List Int} {H:aA} {v:VV} (h:LV lo hi cH H v) (hb:b'<lo∨hi≤b'):LV lo hi cH (H.set b' x) v:=h.eI fun _ _ _ h1 h2=>dQ (by omega)
theorem LV.fz {lo hi:Nat} {cH:List Int} {H:aA} {v:VV} (h:LV lo hi cH H v):fz depth H v=some (aeD cH):=by
 rcases h with⟨rfl,rfl⟩ | ⟨b,g,c,h1,h2,rfl,h4,h5⟩
 ·exact EX
 ·exact Uf (fun _=>rfl) h5 h4
theorem Q6 (b:Bool):Oy true (Value.bool b) (Value.bool b)=some (.bool false):=by cases b<;>rfl
end Go.PM
namespace Go.PM
theorem A8 {H:aA} {g e:Nat} {es:List VV} {w:Bool}:aP (H++[.row g es e w]) H.length g=some (es,e,w):=zZ (i:=0) rfl
theorem J2 {H:aA} {x y:fU}:(H++[x]).set H.length y=H++[y]:=by
 rw[List.set_append_right _ _ (Nat.le_refl _),Nat.sub_self,List.set_cons_zero]
theorem Jp {H K:aA} {g:Nat}:aP (H++K) H.length g=aP K 0 g:=by
 unfold aP
 rw[List.getElem?_append_right (Nat.le_refl _),Nat.sub_self]
theorem N0 {H K:aA} {g k:Nat}:aP (H++K) (H.length+k) g=aP K k g:=by
 unfold aP
 rw[List.getElem?_append_right (Nat.le_add_right _ _),Nat.add_sub_cancel_left]
theorem afO {H K:aA} {y:fU}:(H++K).set H.length y=H++K.set 0 y:=by
 rw[List.set_append_right _ _ (Nat.le_refl _),Nat.sub_self]
theorem agQ {H K:aA} {y:fU} {k:Nat}:(H++K).set (H.length+k) y=H++K.set k y:=by
 rw[List.set_append_right _ _ (Nat.le_add_right _ _),Nat.add_sub_cancel_left]
theorem U0 {H:aA} {z:List Value} {v:VV} (hz:(z.map jI).all cI=true) (hv:(aB v).length=z.length) (hs:(aB v).all cI=true):pT true z 1 [(0,v)] H=some (.ref H.length 0 0 1 1,H++[.row 0 [v] z.length true]):=by
 simp[pT,uF,hz,hv,hs]
def B9 (n:Nat) (H:aA):Prop:=∃L,H=List.replicate n .dead++L∧kQ n L=true
theorem B9.app {n g e:Nat} {es:List VV} {w:Bool} {H:aA} (h:B9 n H) (ho:yF n es=true):B9 n (H++[.row g es e w]):=by
 obtain⟨L,rfl,hL⟩:=h
 exact⟨L++[.row g es e w],by rw[List.append_assoc],by simp only[kQ,List.all_append,Bool.and_eq_true,List.all_cons,List.all_nil,and_true];exact⟨hL,ho⟩⟩
theorem B9.set {n b g e:Nat} {es:List VV} {w:Bool} {H:aA} (h:B9 n H) (hb:n≤b) (ho:yF n es=true):B9 n (H.set b (.row g es e w)):=by
 obtain⟨L,rfl,hL⟩:=h
 refine⟨L.set (b-n) (.row g es e w),by rw[List.set_append_right _ _ (by simpa using hb),List.length_replicate],?_⟩
 unfold kQ at hL ⊢
 rw[List.all_eq_true] at hL ⊢
 intro x hx
 rcases List.mem_or_eq_of_mem_set hx with h | rfl
 ·exact hL x h
 ·exact ho
theorem B9.len {n:Nat} {H:aA} (h:B9 n H):n≤H.length:=by
 obtain⟨L,rfl,_⟩:=h
 simp
def arR (r:Nat×List Int):VV := .ref r.1 0 0 r.2.length r.2.length
structure amH (lo hi b:Nat) (H:aA) (rs:List (Nat×List Int)):Prop where
 nd:(rs.map (·.1)).Nodup
 row:∀r∈rs,lo≤r.1∧r.1<hi∧r.1≠b∧aP H r.1 0=some (r.2.map nV,1,true)
def RR (lo hi:Nat) (cH:List (List Int)) (H:aA) (v:VV):Prop :=
 (v = .tree [] .nil∧cH=[])∨∃b g c rs,lo≤b∧b<hi∧v = .ref b g 0 cH.length c∧cH.length≤c∧aP H b g=some (rs.map arR,1,true)∧rs.map (·.2)=cH∧amH lo hi b H rs
theorem RR.eI {lo hi:Nat} {cH:List (List Int)} {H H':aA} {v:VV} (h:RR lo hi cH H v) (hk:∀b g x,lo≤b→b<hi→aP H b g=some x→aP H' b g=some x):RR lo hi cH H' v:=by
 rcases h with h | ⟨b,g,c,rs,h1,h2,h3,h4,h5,h6,h7⟩
 ·exact .inl h
 ·exact .inr ⟨b,g,c,rs,h1,h2,h3,h4,hk _ _ _ h1 h2 h5,h6,h7.nd,fun r hr=>by
   obtain⟨k1,k2,k3,k4⟩:=h7.row r hr
   exact⟨k1,k2,k3,hk _ _ _ k1 k2 k4⟩⟩
theorem RR.pre {lo hi:Nat} {cH:List (List Int)} {H H':aA} {v:VV} (h:RR lo hi cH H v) (hh:H <+: H'):RR lo hi cH H' v:=h.eI fun _ _ _ _ _=>eR hh
theorem RR.set {lo hi b':Nat} {x:fU} {cH:List (List Int)} {H:aA} {v:VV} (h:RR lo hi cH H v) (hb:b'<lo∨hi≤b'):RR lo hi cH (H.set b' x) v:=h.eI fun _ _ _ h1 h2=>dQ (by omega)
theorem mapM_map {α:Type} {g:VV→Option VV} {f f':α→VV}:∀ {xs:List α},(∀x∈xs,g (f x)=some (f' x))→(xs.map f).mapM g=some (xs.map f')
 | [],_=>rfl
 |
  x::xs,h=>by
  rw[List.map_cons,List.mapM_cons,h x List.mem_cons_self,mapM_map fun y hy=>h y (List.mem_cons_of_mem _ hy)]
  rfl
theorem Hb {H L:aA} {b g:Nat} {x:List VV×Nat×Bool} (hb:H.length≤b) (h:aP (List.replicate H.length .dead++L) b g=some x):aP (H++L) b g=some x:=by
 obtain⟨es,e,w⟩:=x
 rw[cN] at h ⊢
 rw[List.getElem?_append_right (by simpa using hb),List.length_replicate] at h
 rw[List.getElem?_append_right hb]
 exact h
end Go.PM
namespace Go.PM
abbrev jC (xs:List (List ByteArray)):VV:=aL dI xs
theorem tS (xs:List (List ByteArray)):aM (jC xs)=true:=gW (size:=1) (fun _=>rfl) dG
theorem Fa (xs ys:List (List ByteArray)) (hn:xs.length≤1000000000) (G6:∀x∈xs,x.length≤1000000000):TC 82 [jC xs,jC ys] (.sc (.bool (decide (xs=ys)))):=by
 refine TC.walk ⟨true,false⟩ Fu rfl (Nat.le_of_ble_eq_true rfl) (by simp[aJ,tS]) rfl ?_
 by_cases hl:(xs.length:Int)=(ys.length:Int)
 ·simp only[vM,rI,hl,VX,Nat.reduceEqDiff,Nat.reduceAdd]
  refine bC (fun(i:Nat) ρ H=>i≤xs.length∧H=[]∧xs.take i=ys.take i∧ρ 0=jC xs∧ρ 1=jC ys∧ρ 5=VI i) (fun i=>xs.length-i) 0 ⟨Nat.zero_le _,rfl,by simp,rfl,rfl,rfl⟩ ?_
  rintro i ρ H ⟨hi,rfl,ht,h0,h1,h5⟩
  by_cases cQ:(i:Int)<(xs.length:Int)
  ·obtain⟨x,hx⟩:∃x,xs[i]? = some x:=⟨_,List.getElem?_eq_getElem (by omega)⟩
   obtain⟨y,hy⟩:∃y,ys[i]? = some y:=⟨_,List.getElem?_eq_getElem (by omega)⟩
   have e1:=aI (f:=dI) (t := .op) (H:=[]) (size:=1) (k := .i64) hx rfl
   have e2:=aI (f:=dI) (t := .op) (H:=[]) (size:=1) (k := .i64) hy rfl
   have e3:=AD x y (G6 x (List.mem_of_getElem? hx))
   have wi:IntKind.i64.wrap ((i:Int)+1)=((i+1:Nat):Int):=wrapN (i+1) (by omega) (by omega)
   by_cases Ap:x=y
   ·subst Ap
    rw[decide_eq_true rfl] at e3
    simp only[mE,e3,h0,h1,h5,cQ,e1,e2,wi,VX,Nat.reduceEqDiff,Nat.reduceAdd]
    refine⟨i+1,by omega,by omega,?_⟩
    rw[List.take_add_one,List.take_add_one,hx,hy,ht]
    (repeat' apply And.intro)<;>first | rfl | trivial
   ·rw[decide_eq_false Ap] at e3
    simp only[mE,e3,h0,h1,h5,cQ,e1,e2,VX,Nat.reduceEqDiff,Nat.reduceAdd]
    have:¬xs=ys:=fun h=>Ap (by rw[h,hy] at hx;injection hx with hx;exact hx.symm)
    simp only[this,decide_false]
    exact aG rfl
  ·simp only[mE,h0,h1,h5,cQ,VX,Nat.reduceEqDiff,Nat.reduceAdd]
   have:xs=ys:=by
    rw[List.take_of_length_le (by omega),List.take_of_length_le (by omega)] at ht
    exact ht
   simp only[this,decide_true]
   exact aG rfl
 ·simp only[vM,rI,hl,VX,Nat.reduceEqDiff,Nat.reduceAdd]
  have:¬xs=ys:=fun h=>hl (by rw[h])
  simp only[this,decide_false]
  exact aG rfl
def Xa:List ByteArray→Int→Int
 | [],l=>l
 | x::xs,l=>if l-x.size<0 then -1 else Xa xs (l-x.size)
def R5 (xs:List ByteArray) (left:Int):Int:=if left-xs.length<0 then -1 else Xa xs (left-xs.length)
def Q7:List (List ByteArray)→Int→Int
 | [],l=>l
 | x::xs,l=>if R5 x l<0 then -1 else Q7 xs (R5 x l)
def Lz (xs:List (List ByteArray)) (left:Int):Int:=if left-xs.length<0 then -1 else Q7 xs (left-xs.length)
theorem ZY:∀(xs:List ByteArray) (l:Int),0≤Xa xs l→Xa xs l≤l∧∀x∈xs,(x.size:Int)≤l
 | [],l,_=>⟨Int.le_refl _,fun x hx=>(by cases hx)⟩
 |
  x::xs,l,h=>by
  unfold Xa at h ⊢
  split at h
  ·omega
  ·rename_i hc
   rw[if_neg hc]
   obtain⟨h1,h2⟩:=ZY xs _ h
   refine⟨by omega,fun y hy => ?_⟩
   rcases List.mem_cons.1 hy with rfl | hy
   ·omega
   ·have:=h2 y hy;omega
theorem Tk {xs:List ByteArray} {l:Int} (h:0≤R5 xs l):R5 xs l≤l∧(xs.length:Int)≤l∧∀x∈xs,(x.size:Int)≤l:=by
 unfold R5 at h ⊢
 split at h
 ·omega
 ·rename_i hc
  rw[if_neg hc]
  obtain⟨h1,h2⟩:=ZY _ _ h
  exact⟨by omega,by omega,fun x hx=>by have:=h2 x hx;omega⟩
theorem Us:∀(xs:List (List ByteArray)) (l:Int),0≤Q7 xs l→Q7 xs l≤l∧∀x∈xs,(x.length:Int)≤l∧∀y∈x,(y.size:Int)≤l
 | [],l,_=>⟨Int.le_refl _,fun x hx=>(by cases hx)⟩
 |
  x::xs,l,h=>by
  unfold Q7 at h ⊢
  split at h
  ·omega
  ·rename_i hc
   rw[if_neg hc]
   obtain⟨h1,h2⟩:=Us xs _ h
   obtain⟨h3,h4,h5⟩:=Tk (xs:=x) (l:=l) (by omega)
   refine⟨by omega,fun y hy => ?_⟩
   rcases List.mem_cons.1 hy with rfl | hy
   ·exact⟨h4,h5⟩
   ·obtain⟨h6,h7⟩:=h2 y hy
    exact⟨by omega,fun z hz=>by have:=h7 z hz;omega⟩
theorem aaU {xs:List (List ByteArray)} {l:Int} (h:0≤Lz xs l):Lz xs l≤l∧(xs.length:Int)≤l∧∀x∈xs,(x.length:Int)≤l∧∀y∈x,(y.size:Int)≤l:=by
 unfold Lz at h ⊢
 split at h
 ·omega
 ·rename_i hc
  rw[if_neg hc]
  obtain⟨h1,h2⟩:=Us _ _ h
  exact⟨by omega,by omega,fun x hx=>⟨by have:=(h2 x hx).1;omega,fun y hy=>by have:=(h2 x hx).2 y hy;omega⟩⟩
def okS (xs:List ByteArray):Prop:=xs.length≤9223372036854775807∧∀x∈xs,x.size≤9223372036854775807
def X2 (xs:List (List ByteArray)):Prop:=xs.length≤9223372036854775807∧∀x∈xs,okS x
theorem aiX {xs:List ByteArray} {l:Int} (h:R5 xs l<0) (hl:0≤l):R5 xs l = -1:=by
 have key:∀(xs:List ByteArray) (l:Int),0≤l→Xa xs l<0→Xa xs l = -1:=by
  intro xs
  induction xs with
  | nil=>intro l h1 h2;unfold Xa at h2;omega
  |
   cons x xs ih =>
   intro l h1 h2
   unfold Xa at h2 ⊢
   split
   ·rfl
   ·rename_i hc
    rw[if_neg hc] at h2
    exact ih _ (by omega) h2
 unfold R5 at h ⊢
 split
 ·rfl
 ·rename_i hc
  rw[if_neg hc] at h
  exact key _ _ (by omega) h
theorem Qu {α:Type} {l:List α} {i:Nat} {x:α} (h:l[i]? = some x):l.drop i=x::l.drop (i+1):=by
 have bD:=List.getElem?_eq_some_iff.1 h
 rw[List.drop_eq_getElem_cons bD.1,bD.2]
theorem AG (xs:List ByteArray) (left:Int) (hx:okS xs) (hl:0≤left∧left≤1000000):TC 41 [dI xs,VI left] (VI (R5 xs left)):=by
 refine TC.walk ⟨true,false⟩ Hx rfl (Nat.le_of_ble_eq_true rfl) (by simp[aJ,dG];rfl) rfl ?_
 have hn:=hx.1
 have w:IntKind.i64.wrap (left-(xs.length:Int))=left-(xs.length:Int):=wrap64 (by omega) (by omega)
 by_cases h:left-(xs.length:Int)<0
 ·simp only[xJ,tF,w,h,VX,Nat.reduceEqDiff,Nat.reduceAdd]
  unfold R5
  rw[if_pos h]
  exact aG rfl
 simp only[xJ,tF,w,h,VX,Nat.reduceEqDiff,Nat.reduceAdd]
 refine bC (fun(s:Nat×Int) ρ H=>s.1≤xs.length∧H=[]∧0≤s.2∧s.2≤left∧Xa (xs.drop s.1) s.2=R5 xs left∧ρ 0=dI xs∧ρ 1=VI s.2∧ρ 5=VI s.1) (fun s=>xs.length-s.1) (0,left-xs.length) ⟨Nat.zero_le _,rfl,by simp only;omega,by simp only;omega,by unfold R5;rw[if_neg h];rfl,rfl,rfl,rfl⟩ ?_
 rintro⟨i,l⟩ ρ H ⟨hi,rfl,zX,Dg,hs,h0,h1,h5⟩
 simp only at hi zX Dg hs h1 h5
 by_cases cQ:(i:Int)<(xs.length:Int)
 ·obtain⟨x,G6⟩:∃x,xs[i]? = some x:=⟨_,List.getElem?_eq_getElem (by omega)⟩
  have CJ:=hx.2 x (List.mem_of_getElem? G6)
  have e1:=aI (f:=sV) (t := .op) (H:=[]) (size:=1) (k := .i64) G6 rfl
  have e2:A2 (.string x)=some (.int .i64 (x.size:Int)):=rfl
  have wi:IntKind.i64.wrap ((i:Int)+1)=((i+1:Nat):Int):=wrapN (i+1) (by omega) (by omega)
  have w1:IntKind.i64.wrap (l-(x.size:Int))=l-(x.size:Int):=wrap64 (by omega) (by omega)
  rw[Qu G6,Xa] at hs
  by_cases lD:l-(x.size:Int)<0
  ·rw[if_pos lD] at hs
   simp only[nI,h0,h1,h5,cQ,e1,e2,w1,lD,VX,Nat.reduceEqDiff,Nat.reduceAdd]
   rw[←hs]
   exact aG rfl
  ·rw[if_neg lD] at hs
   simp only[nI,h0,h1,h5,cQ,e1,e2,w1,lD,wi,VX,Nat.reduceEqDiff,Nat.reduceAdd]
   exact⟨(i+1,l-x.size),by simp only;omega,by simp only;omega,by simp only;omega,by simp only;omega,hs,by (repeat' apply And.intro)<;>first | rfl | trivial⟩
 ·have qR:i=xs.length:=by omega
  subst qR
  rw[List.drop_of_length_le (Nat.le_refl _),Xa] at hs
  simp only[nI,h0,h1,h5,cQ,VX,Nat.reduceEqDiff,Nat.reduceAdd]
  rw[hs]
  exact aG rfl
theorem Fq (xs:List (List ByteArray)) (left:Int) (hx:X2 xs) (hl:0≤left∧left≤1000000):TC 65 [jC xs,VI left] (VI (Lz xs left)):=by
 refine TC.walk ⟨true,false⟩ FO rfl (Nat.le_of_ble_eq_true rfl) (by simp[aJ,tS];rfl) rfl ?_
 have hn:=hx.1
 have w:IntKind.i64.wrap (left-(xs.length:Int))=left-(xs.length:Int):=wrap64 (by omega) (by omega)
 by_cases h:left-(xs.length:Int)<0
 ·simp only[vG,sD,w,h,VX,Nat.reduceEqDiff,Nat.reduceAdd]
  unfold Lz
  rw[if_pos h]
  exact aG rfl
 simp only[vG,sD,w,h,VX,Nat.reduceEqDiff,Nat.reduceAdd]
 refine bC (fun(s:Nat×Int) ρ H=>s.1≤xs.length∧H=[]∧0≤s.2∧s.2≤left∧Q7 (xs.drop s.1) s.2=Lz xs left∧ρ 0=jC xs∧ρ 1=VI s.2∧ρ 5=VI s.1) (fun s=>xs.length-s.1) (0,left-xs.length) ⟨Nat.zero_le _,rfl,by simp only;omega,by simp only;omega,by unfold Lz;rw[if_neg h];rfl,rfl,rfl,rfl⟩ ?_
 rintro⟨i,l⟩ ρ H ⟨hi,rfl,zX,Dg,hs,h0,h1,h5⟩
 simp only at hi zX Dg hs h1 h5
 by_cases cQ:(i:Int)<(xs.length:Int)
 ·obtain⟨x,G6⟩:∃x,xs[i]? = some x:=⟨_,List.getElem?_eq_getElem (by omega)⟩
  have e1:=aI (f:=dI) (t := .op) (H:=[]) (size:=1) (k := .i64) G6 rfl
  have e2:=AG x l (hx.2 x (List.mem_of_getElem? G6)) (by omega)
  have wi:IntKind.i64.wrap ((i:Int)+1)=((i+1:Nat):Int):=wrapN (i+1) (by omega) (by omega)
  rw[Qu G6,Q7] at hs
  by_cases lD:R5 x l<0
  ·rw[if_pos lD] at hs
   simp only[mK,h0,h1,h5,cQ,e1,e2,lD,VX,Nat.reduceEqDiff,Nat.reduceAdd]
   rw[←hs]
   exact aG rfl
  ·rw[if_neg lD] at hs
   have hle:=Tk (xs:=x) (l:=l) (by omega)
   simp only[mK,h0,h1,h5,cQ,e1,e2,lD,wi,VX,Nat.reduceEqDiff,Nat.reduceAdd]
   exact⟨(i+1,R5 x l),by simp only;omega,by simp only;omega,by simp only;omega,by simp only;omega,hs,by (repeat' apply And.intro)<;>first | rfl | trivial⟩
 ·have qR:i=xs.length:=by omega
  subst qR
  rw[List.drop_of_length_le (Nat.le_refl _),Q7] at hs
  simp only[mK,h0,h1,h5,cQ,VX,Nat.reduceEqDiff,Nat.reduceAdd]
  rw[hs]
  exact aG rfl
end Go.PM