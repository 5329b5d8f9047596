/- Texts of a claim, in one: part 7. -/
import Derived.KernelRfl
import Derived.Lib.ItoaNum
import Derived.Lib.Join
import Derived.Test.YtodamlihdkalfaaGreatDoorKWf
set_option linter.unusedSimpArgs false
set_option linter.unusedVariables false
namespace Go.PM
def pZ (n:Nat) (H:aA) (bare:Bool) (x:List ByteArray) (c:VV):Prop :=
 (bare=true∧x=[]∧c = .tree [] .nil)∨∃b,n<b∧c = .ref b 0 0 x.length (x.length+room x.length)∧aK H b 0=some ((kB jA x).map sV,1,true)
def DU (n:Nat) (H:aA) (c:VV):Prop:=∃b,n<b∧c = .ref b 0 0 1 1∧aK H b 0=some ([sV jA],1,true)
theorem pZ.cZ {n:Nat} {H H':aA} {bare:Bool} {x:List ByteArray} {c:VV} (h:pZ n H bare x c) (hk:∀b g x,n<b→aK H b g=some x→aK H' b g=some x):pZ n H' bare x c:=by
 rcases h with h | ⟨b,h1,h2,h3⟩
 ·exact .inl h
 ·exact .inr ⟨b,h1,h2,hk _ _ _ h1 h3⟩
theorem DU.cZ {n:Nat} {H H':aA} {c:VV} (h:DU n H c) (hk:∀b g x,n<b→aK H b g=some x→aK H' b g=some x):DU n H' c:=by
 obtain⟨b,h1,h2,h3⟩:=h
 exact⟨b,h1,h2,hk _ _ _ h1 h3⟩
theorem pZ.cell {n:Nat} {H:aA} {bare:Bool} {x:List ByteArray} {c:VV} (h:pZ n H bare x c):aB c=[c]∧bU c=true∧∀k,k≤n→jB k c=true:=by
 rcases h with⟨_,_,rfl⟩ | ⟨b,h1,rfl,_⟩
 ·exact⟨rfl,rfl,fun _ _=>rfl⟩
 ·exact⟨rfl,rfl,fun k hk=>by simp[jB];omega⟩
theorem DU.cell {n:Nat} {H:aA} {c:VV} (h:DU n H c):aB c=[c]∧bU c=true∧∀k,k≤n→jB k c=true:=by
 obtain⟨b,h1,rfl,_⟩:=h
 exact⟨rfl,rfl,fun k hk=>by simp[jB];omega⟩
theorem pZ.fz {n d:Nat} {H:aA} {bare:Bool} {x:List ByteArray} {c:VV} (h:pZ n H bare x c):PM.fz (d+2) H c=some (fG x):=by
 rcases h with⟨_,rfl,rfl⟩ | ⟨b,h1,rfl,h3⟩
 ·show PM.fz ((d+1)+1) H _=_
  unfold PM.fz
  have:aP (.tree [] .nil)=false:=rfl
  simp only[this,Bool.false_eq_true,if_false]
  rfl
 ·show PM.fz ((d+1)+1) H _=_
  unfold PM.fz
  have:aP (.ref b 0 0 x.length (x.length+room x.length))=false:=rfl
  simp only[this,h3,Bool.false_eq_true,if_false]
  rw[if_pos ⟨by simp[kB],Nat.le_add_right _ _⟩,List.drop_zero,←List.map_take,MP,mapM_pure (n:=d) (dZ fun _=>rfl)]
  rfl
theorem DU.fz {n d:Nat} {H:aA} {c:VV} (h:DU n H c):PM.fz (d+2) H c=some (fG [jA]):=by
 obtain⟨b,h1,rfl,h3⟩:=h
 show PM.fz ((d+1)+1) H _=_
 unfold PM.fz
 have:aP (.ref b 0 0 1 1)=false:=rfl
 simp only[this,h3,Bool.false_eq_true,if_false]
 rw[if_pos ⟨by simp,Nat.le_refl _⟩,List.drop_zero,List.take_of_length_le (by simp),mapM_pure (n:=d) (by rfl)]
 rfl
def tC (H:aA) (bare:Bool) (xs:List (List ByteArray)) (b:Nat):Prop :=
 ∃cells AD,aK H b 0=some (cells++AD,1,true)∧cells.length=xs.length∧AD.length=room xs.length∧(∀(i:Nat) x,xs[i]? = some x→∃c,cells[i]? = some c∧pZ b H bare x c)∧∀c∈AD,DU b H c
theorem tC.cZ {H H':aA} {bare:Bool} {xs:List (List ByteArray)} {b:Nat} (h:tC H bare xs b) (hk:∀b' g x,b≤b'→aK H b' g=some x→aK H' b' g=some x):tC H' bare xs b:=by
 obtain⟨cells,AD,h1,h2,h3,h4,h5⟩:=h
 exact⟨cells,AD,hk _ _ _ (Nat.le_refl _) h1,h2,h3,fun i x hx=>by
  obtain⟨c,k1,k2⟩:=h4 i x hx
  exact⟨c,k1,k2.cZ fun b' g x hb=>hk b' g x (Nat.le_of_lt hb)⟩,fun c hc=>(h5 c hc).cZ fun b' g x hb=>hk b' g x (Nat.le_of_lt hb)⟩
theorem tC.pre {H H':aA} {bare:Bool} {xs:List (List ByteArray)} {b:Nat} (h:tC H bare xs b) (hh:H <+: H'):tC H' bare xs b:=h.cZ fun _ _ _ _=>cT hh
def anQ (xs:List (List ByteArray)) (bare:Bool) (n:Nat) (r:VV) (L:aA):Prop :=
 (bare=true∧xs=[]∧r = .tree [] .nil∧L=[])∨(r = .ref n 0 0 xs.length (xs.length+room xs.length)∧tC (List.replicate n .dead++L) bare xs n)
theorem BS.pre {n:Nat} {H L:aA} (h:BS n H) (hL:kT n L=true):BS n (H++L):=by
 obtain⟨L0,rfl,h0⟩:=h
 refine⟨L0++L,by rw[List.append_assoc],?_⟩
 unfold kT at *
 rw[List.all_append,h0,hL]
 rfl
theorem ZD {n:Nat} {x:List ByteArray} {bare:Bool} {H:aA} {K:VV→aA→Prop} (hx:x.length≤1000000000) (hH:BS n H) (aX:n<H.length)
  (hk:∀c H',H <+: H'→BS n H'→pZ n H' bare x c→K c H'):cW 43 [fG x,.sc (.bool bare)] n H K:=by
 refine(A2 x bare hx).call rfl (mapM_pure (n:=7) (by simp[aN,iY];rfl)) ?_
 rintro r L (⟨hb,rfl,rfl,rfl⟩ | ⟨rfl,rfl⟩)
 ·rw[List.append_nil]
  exact hk _ _ (List.prefix_refl _) hH (.inl ⟨hb,rfl,rfl⟩)
 ·exact hk _ _ (List.prefix_append _ _) (hH.app (Ji (fun _=>rfl) _)) (.inr ⟨_,aX,rfl,CL (i:=0) rfl⟩)
set_option maxHeartbeats 2000000 in
theorem FT (xs:List (List ByteArray)) (bare:Bool) (hn:xs.length≤1000000000) (hx:∀x∈xs,x.length≤1000000000):FC 67 [jW xs,.sc (.bool bare)] (anQ xs bare):=by
 refine FC.walk ⟨true,true⟩ F6 (Nat.le_of_ble_eq_true rfl) fun n => ?_
 have hr:=room_le xs.length
 by_cases hb:bare=true∧(xs.length:Int)=0
 ·obtain⟨rfl,h0⟩:=hb
  simp only[qU,nQ,h0,VX,Nat.reduceEqDiff,Nat.reduceAdd]
  refine⟨[],by simp,rfl,rfl,.inl ⟨rfl,?_,rfl,rfl⟩⟩
  cases xs with
  | nil=>rfl
  | cons x xs=>simp at h0;omega
 have wK:bare=true→¬(xs.length:Int)=0:=fun h h'=>hb ⟨h,h'⟩
 clear hb
 have w1:IntKind.i64.wrap ((xs.length:Int)+(room xs.length:Int))=((xs.length+room xs.length:Nat):Int):=wrapN _ (by omega) (by omega)
 have em:=oW (H:=List.replicate n eR.dead) (z:=[.slice none 0 0]) (bytes:=24) (n:=xs.length+room xs.length) (f:=fun v:VV=>v) (x := .tree [] .nil) rfl (by omega) (by omega)
 rw[List.length_replicate,List.map_id'] at em
 have main:∀ρ:cG,ρ 0=jW xs→ρ 1 = .sc (.bool bare)→ρ 5 = .ref n 0 0 (xs.length+room xs.length) (xs.length+room xs.length)→ρ 6=VI 0→∀Q:VQ,
   (∀(aM:cG) (H:aA) (cells:List VV),aM 0=jW xs→aM 5 = .ref n 0 0 (xs.length+room xs.length) (xs.length+room xs.length)→BS n H→cells.length=xs.length→aK H n 0=some (cells++List.replicate (room xs.length) (.tree [] .nil),1,true) →
    (∀(i:Nat) x,xs[i]? = some x→∃c,cells[i]? = some c∧pZ n H bare x c)→Q (.exit 0) aM H) →
   VW ⟨true,true⟩ n (.loop mD) Q ρ (List.replicate n eR.dead++[.row 0 (List.replicate (xs.length+room xs.length) (.tree [] .nil)) 1 true]):=by
  intro ρ h0 h1 h5 h6 Q hQ
  refine aW (fun(s:Nat×List VV) ρ H=>s.1≤xs.length∧s.2.length=s.1∧BS n H∧aK H n 0=some (s.2++List.replicate (xs.length+room xs.length-s.1) (.tree [] .nil),1,true)∧(∀(i:Nat) x,i<s.1→xs[i]? = some x→∃c,s.2[i]? = some c∧pZ n H bare x c) ∧
   ρ 0=jW xs∧ρ 1 = .sc (.bool bare)∧ρ 5 = .ref n 0 0 (xs.length+room xs.length) (xs.length+room xs.length)∧ρ 6=VI s.1) (fun s=>xs.length-s.1) (0,[])
   ⟨Nat.zero_le _,rfl,⟨_,rfl,by simp[kT,wY,jB]⟩,by rw[IG,aR];rfl,fun i x h=>absurd h (Nat.not_lt_zero _),h0,h1,h5,h6⟩ ?_
  rintro⟨i,cells⟩ ρ H ⟨hi,kU,hO,nA,oN,h0,h1,h5,h6⟩
  simp only at hi kU nA oN h6
  by_cases cB:(i:Int)<(xs.length:Int)
  ·obtain⟨x,Gk⟩:∃x,xs[i]? = some x:=⟨_,List.getElem?_eq_getElem (by omega)⟩
   have e1:=aG (f:=fG) (t := .op) (H:=H) (size:=1) (k := .i64) Gk rfl
   have wi:IntKind.i64.wrap ((i:Int)+1)=((i+1:Nat):Int):=wrapN (i+1) (by omega) (by omega)
   simp only[mD,h0,h1,h5,h6,cB,e1,VX,Nat.reduceEqDiff,Nat.reduceAdd]
   refine ZD (hx x (List.mem_of_getElem? Gk)) hO (E4 nA) fun c H' hh hO' hc => ?_
   have J5:=cT hh nA
   have e3:=aV (o:=0) (n:=xs.length+room xs.length) (c:=xs.length+room xs.length) (i:=i) (k := .i64) J5 (by omega)
   have e4:=dI (j:=i) (lo:=n) (v:=c) J5 (by simp;omega) (Nat.le_refl _) (by rw[hc.cell.1];rfl) (by rw[hc.cell.1];simp[hc.cell.2.1])
   have uU:=Fw cells (xs.length+room xs.length-(i+1)) (.tree [] .nil) c
   rw[kU,show xs.length+room xs.length-(i+1)+1=xs.length+room xs.length-i by omega] at uU
   rw[uU] at e4
   simp only[h6,e3,e4,wi,Nat.zero_add,VX,Nat.reduceEqDiff,Nat.reduceAdd]
   refine⟨(i+1,cells++[c]),by simp only;omega,by simp only;omega,by simp[kU],?_,iK J5,?_,h0,h1,by (repeat' apply And.intro)<;>first | rfl | trivial⟩
   ·refine hO'.set (Nat.le_refl _) (wY.2 fun y hy => ?_)
    rcases List.mem_append.1 hy with hy | hy
    ·rcases List.mem_append.1 hy with hy | hy
     ·obtain⟨j,hj⟩:=List.getElem?_of_mem hy
      have hjl:=(List.getElem?_eq_some_iff.1 hj).1
      obtain⟨z,hz⟩:∃z,xs[j]? = some z:=⟨_,List.getElem?_eq_getElem (by omega)⟩
      obtain⟨c',k1,k2⟩:=oN j z (by omega) hz
      rw[hj] at k1
      injection k1 with k1
      subst k1
      exact k2.cell.2.2 _ (Nat.le_refl _)
     ·rw[List.mem_singleton] at hy
      subst hy
      exact hc.cell.2.2 _ (Nat.le_refl _)
    ·rw[List.eq_of_mem_replicate hy]
     rfl
   ·intro j z hj hz
    by_cases J6:j<i
    ·obtain⟨c',k1,k2⟩:=oN j z J6 hz
     exact⟨c',by rw[List.getElem?_append_left (by omega)];exact k1,k2.cZ fun b g y hb h=>cI (Nat.ne_of_lt hb) (cT hh h)⟩
    ·have:j=i:=by simp only at hj;omega
     subst this
     rw[Gk] at hz
     injection hz with hz
     subst hz
     exact⟨c,by rw[List.getElem?_append_right (by omega),kU,Nat.sub_self];rfl,hc.cZ fun b g y hb h=>cI (Nat.ne_of_lt hb) h⟩
  ·have pD:i=xs.length:=by omega
   subst pD
   simp only[mD,h0,h1,h5,h6,cB,VX,Nat.reduceEqDiff,Nat.reduceAdd]
   rw[Nat.add_sub_cancel_left] at nA
   exact hQ _ _ cells h0 h5 hO kU nA fun i x hx=>oN i x (List.getElem?_eq_some_iff.1 hx).1 hx
 have Ps:∀(ρ:cG) (H:aA) (cells:List VV),ρ 0=jW xs→ρ 5 = .ref n 0 0 (xs.length+room xs.length) (xs.length+room xs.length)→ρ 7=VI xs.length→BS n H→cells.length=xs.length→aK H n 0=some (cells++List.replicate (room xs.length) (.tree [] .nil),1,true) →
    (∀(i:Nat) x,xs[i]? = some x→∃c,cells[i]? = some c∧pZ n H bare x c)→∀Q:VQ,
   (∀(aM:cG) (H:aA),aM 0=jW xs→aM 5 = .ref n 0 0 (xs.length+room xs.length) (xs.length+room xs.length)→BS n H→tC H bare xs n→Q (.exit 2) aM H) →
   VW ⟨true,true⟩ n (.loop mV) Q ρ H:=by
  intro ρ H cells h0 h5 h7 hO kU nA oN Q hQ
  have aoP:∀y∈cells,jB n y=true:=fun y hy=>by
   obtain⟨j,hj⟩:=List.getElem?_of_mem hy
   have hjl:=(List.getElem?_eq_some_iff.1 hj).1
   obtain⟨z,hz⟩:∃z,xs[j]? = some z:=⟨_,List.getElem?_eq_getElem (by omega)⟩
   obtain⟨c',k1,k2⟩:=oN j z hz
   rw[hj] at k1
   injection k1 with k1
   subst k1
   exact k2.cell.2.2 _ (Nat.le_refl _)
  refine aW (fun(s:Nat×List VV) ρ H=>s.1≤room xs.length∧s.2.length=s.1∧BS n H∧aK H n 0=some (cells++s.2++List.replicate (room xs.length-s.1) (.tree [] .nil),1,true)∧(∀(i:Nat) x,xs[i]? = some x→∃c,cells[i]? = some c∧pZ n H bare x c)∧(∀c∈s.2,DU n H c) ∧
   ρ 0=jW xs∧ρ 5 = .ref n 0 0 (xs.length+room xs.length) (xs.length+room xs.length)∧ρ 7=VI (xs.length+s.1:Nat)) (fun s=>room xs.length-s.1) (0,[])
   ⟨Nat.zero_le _,rfl,hO,by rw[List.append_nil];exact nA,oN,fun c hc=>(by cases hc),h0,h5,h7⟩ ?_
  rintro⟨i,fs⟩ ρ H ⟨hi,hfl,hO,nA,oN,hfs,h0,h5,h7⟩
  simp only at hi hfl nA oN h7 hfs
  have el:=eV (o:=0) (n:=xs.length+room xs.length) (c:=xs.length+room xs.length) nA
  by_cases cB:((xs.length+i:Nat):Int)<((xs.length+room xs.length:Nat):Int)
  ·have eL:tY true [.string ⟨#[]⟩] 1 [(0,.sc (.string ⟨#[126,115,112,97,114,101,126]⟩))] H=some (.ref H.length 0 0 1 1,H++[.row 0 [sV jA] 1 true]):=Vm rfl rfl rfl
   have J5:=wV (L:=[.row 0 [sV jA] 1 true]) nA
   have aX:=E4 nA
   have e3:=aV (o:=0) (n:=xs.length+room xs.length) (c:=xs.length+room xs.length) (i:=xs.length+i) (k := .i64) J5 (by omega)
   have e4:=dI (j:=xs.length+i) (lo:=n) (v := .ref H.length 0 0 1 1) J5 (by simp;omega) (Nat.le_refl _) rfl rfl
   have uU:=Fw (cells++fs) (room xs.length-(i+1)) (.tree [] .nil) (.ref H.length 0 0 1 1)
   rw[show (cells++fs).length=xs.length+i by simp[kU,hfl],show room xs.length-(i+1)+1=room xs.length-i by omega] at uU
   rw[uU] at e4
   have wi:IntKind.i64.wrap (((xs.length+i:Nat):Int)+1)=((xs.length+(i+1):Nat):Int):=wrapN _ (by omega) (by omega)
   simp only[mV,h0,h5,h7,cB,el,eL,e3,e4,wi,Nat.zero_add,VX,Nat.reduceEqDiff,Nat.reduceAdd]
   have Ay:∀b g x,n<b→aK H b g=some x→aK ((H++[eR.row 0 [sV jA] 1 true]).set n (eR.row 0 (cells++fs++[VV.ref H.length 0 0 1 1]++List.replicate (room xs.length-(i+1)) (VV.tree [] TK.nil)) 1 true)) b g=some x:=fun b g x hb h=>cI (Nat.ne_of_lt hb) (wV h)
   refine⟨(i+1,fs++[.ref H.length 0 0 1 1]),by simp only;omega,by simp only;omega,by simp[hfl],?_,?_,?_,?_,by (repeat' apply And.intro)<;>first | rfl | trivial | assumption⟩
   ·refine(hO.app rfl).set (Nat.le_refl _) (wY.2 fun y hy => ?_)
    rcases List.mem_append.1 hy with hy | hy
    ·rcases List.mem_append.1 hy with hy | hy
     ·rcases List.mem_append.1 hy with hy | hy
      ·exact aoP y hy
      ·exact(hfs y hy).cell.2.2 _ (Nat.le_refl _)
     ·rw[List.mem_singleton] at hy
      subst hy
      simp[jB];omega
    ·rw[List.eq_of_mem_replicate hy]
     rfl
   ·rw[iK J5]
    simp only[List.append_assoc]
   ·intro j z hz
    obtain⟨c',k1,k2⟩:=oN j z hz
    exact⟨c',k1,k2.cZ Ay⟩
   ·intro c hc
    rcases List.mem_append.1 hc with hc | hc
    ·exact(hfs c hc).cZ Ay
    ·rw[List.mem_singleton] at hc
     subst hc
     exact⟨_,aX,rfl,cI (Nat.ne_of_lt aX) AA⟩
  ·have pD:i=room xs.length:=by omega
   subst pD
   simp only[mV,h0,h5,h7,cB,el,VX,Nat.reduceEqDiff,Nat.reduceAdd]
   rw[Nat.sub_self,List.replicate_zero,List.append_nil] at nA
   exact hQ _ _ h0 h5 hO ⟨cells,fs,nA,kU,hfl,oN,hfs⟩
 have goal:∀(ρ0:cG),ρ0 0=jW xs→ρ0 1 = .sc (.bool bare)→ρ0 5 = .ref n 0 0 (xs.length+room xs.length) (xs.length+room xs.length)→True:=fun _ _ _ _=>trivial
 cases bare with
 |
  true =>
  have QO:=wK rfl
  simp only[qU,nQ,QO,w1,em,iT,VX,Nat.reduceEqDiff,Nat.reduceAdd]
  refine main _ rfl rfl rfl rfl _ fun aM H cells h0 h5 hO kU nA oN => ?_
  simp only[h0,h5,VX,Nat.reduceEqDiff,Nat.reduceAdd]
  refine Ps _ _ cells (by exact h0) (by exact h5) rfl hO kU nA oN _ fun yT H h0 h5 hO hS => ?_
  obtain⟨cs,fs,k1,k2⟩:=hS
  have es:=rI (o:=0) (n:=xs.length+room xs.length) (c:=xs.length+room xs.length) (h:=xs.length) (k2 := .i64) k1 (by omega)
  simp only[h0,h5,es,VX,Nat.reduceEqDiff,Nat.reduceAdd]
  obtain⟨L,rfl,hL⟩:=hO
  exact⟨L,rfl,by simp[jB],hL,.inr ⟨rfl,cs,fs,k1,k2⟩⟩
 |
  false =>
  simp only[qU,nQ,w1,em,iT,VX,Nat.reduceEqDiff,Nat.reduceAdd]
  refine main _ rfl rfl rfl rfl _ fun aM H cells h0 h5 hO kU nA oN => ?_
  simp only[h0,h5,VX,Nat.reduceEqDiff,Nat.reduceAdd]
  refine Ps _ _ cells (by exact h0) (by exact h5) rfl hO kU nA oN _ fun yT H h0 h5 hO hS => ?_
  obtain⟨cs,fs,k1,k2⟩:=hS
  have es:=rI (o:=0) (n:=xs.length+room xs.length) (c:=xs.length+room xs.length) (h:=xs.length) (k2 := .i64) k1 (by omega)
  simp only[h0,h5,es,VX,Nat.reduceEqDiff,Nat.reduceAdd]
  obtain⟨L,rfl,hL⟩:=hO
  exact⟨L,rfl,by simp[jB],hL,.inr ⟨rfl,cs,fs,k1,k2⟩⟩
end Go.PM
namespace Go.PM
structure Ag where
 b:List ByteArray
 g:List (List ByteArray)
 e:List ByteArray
def sZ (s:Ag):VV := .agg [fG s.b,jW s.g,fG s.e]
theorem qH (s:Ag):aP (sZ s)=true:=by
 show aN [fG s.b,jW s.g,fG s.e]=true
 simp only[aN,iY,yH,Bool.and_self]
def Z1 (s:Ag):Prop:=okS s.b∧aiY s.g∧okS s.e
mutual
theorem GZ {n n':Nat} (h:n≤n') (v:VV) (hv:jB n' v=true):jB n v=true:=by
 cases v with
 | any=>cases hv
 | sc v=>exact hv
 | agg cs=>exact Dq h cs hv
 | eG cs=>exact Dq h cs hv
 | tree es k=>exact hv
 | cP=>cases hv
 | ref b g o n c=>simp only[jB,decide_eq_true_eq] at hv ⊢;omega
 | ptr b g j o=>simp only[jB,decide_eq_true_eq] at hv ⊢;omega
 | uG=>cases hv
theorem Dq {n n':Nat} (h:n≤n') (vs:List VV) (hv:xI n' vs=true):xI n vs=true:=by
 cases vs with
 | nil=>rfl
 |
  cons x xs =>
  simp only[xI,Bool.and_eq_true] at hv ⊢
  exact⟨GZ h x hv.1,Dq h xs hv.2⟩
end
def Hq (n k:Nat) (H:aA):Prop:=∀(b g:Nat) (es:List VV) (e:Nat) (w:Bool),k≤b→H[b]? = some (.row g es e w)→xI n es=true
theorem Hq.app {n k:Nat} {H L:aA} (h:Hq n k H) (hn:n≤H.length) (hL:kT H.length L=true):Hq n k (H++L):=by
 intro b g es e w hb hr
 rcases Nat.lt_or_ge b H.length with aX | DA
 ·rw[List.getElem?_append_left aX] at hr
  exact h b g es e w hb hr
 ·rw[List.getElem?_append_right DA] at hr
  exact Dq hn _ (List.all_eq_true.1 hL _ (List.mem_of_getElem? hr))
theorem Hq.set {n k b:Nat} {H:aA} {x:eR} (h:Hq n k H) (hb:b<k):Hq n k (H.set b x):=by
 intro b' g es e w wK hr
 rw[List.getElem?_set_ne (by omega)] at hr
 exact h b' g es e w wK hr
theorem WO {n k:Nat} {H:aA} (hk:n≤k) (hl:k≤H.length) (hO:Hq n k H):∃L,Pv H (List.replicate n .dead++L)∧kT n L=true∧∀b g x,k≤b→aK H b g=some x→aK (List.replicate n .dead++L) b g=some x:=by
 have e:List.replicate n eR.dead++(List.replicate (k-n) .dead++H.drop k)=List.replicate k .dead++H.drop k:=by
  rw[←List.append_assoc,List.replicate_append_replicate,Nat.add_sub_cancel' hk]
 have get:∀b,k≤b→(List.replicate k eR.dead++H.drop k)[b]? = H[b]? := fun b hb=>by
  rw[List.getElem?_append_right (by simpa using hb),List.length_replicate,List.getElem?_drop]
  congr 1
  omega
 refine⟨List.replicate (k-n) .dead++H.drop k,⟨?_,?_⟩,?_,?_⟩
 ·rw[e];simp;omega
 ·intro b g es e' w hb
  rw[e] at hb
  rcases Nat.lt_or_ge b k with h | h
  ·rw[List.getElem?_append_left (by simpa using h)] at hb
   have:=List.eq_of_mem_replicate (List.mem_of_getElem? hb)
   cases this
  ·rw[get b h] at hb
   exact hb
 ·unfold kT
  rw[List.all_append,Bool.and_eq_true]
  constructor
  ·rw[List.all_eq_true]
   intro x hx
   rw[List.eq_of_mem_replicate hx]
  ·rw[List.all_eq_true]
   intro x hx
   obtain⟨j,hj⟩:=List.getElem?_of_mem hx
   rw[List.getElem?_drop] at hj
   cases x with
   | dead=>rfl
   | row g es e' w=>exact hO _ _ _ _ _ (Nat.le_add_right _ _) hj
 ·intro b g x hb h
  obtain⟨es,e',w⟩:=x
  rw[cO] at h ⊢
  rw[e,get b hb]
  exact h
def sF (n:Nat) (H:aA) (bare:Bool) (xs:List (List ByteArray)) (c:VV):Prop :=
 (bare=true∧xs=[]∧c = .tree [] .nil)∨∃b,n<b∧c = .ref b 0 0 xs.length (xs.length+room xs.length)∧tC H bare xs b
theorem sF.cZ {n:Nat} {H H':aA} {bare:Bool} {xs:List (List ByteArray)} {c:VV} (h:sF n H bare xs c) (hk:∀b g x,n<b→aK H b g=some x→aK H' b g=some x):sF n H' bare xs c:=by
 rcases h with h | ⟨b,h1,h2,h3⟩
 ·exact .inl h
 ·exact .inr ⟨b,h1,h2,h3.cZ fun b' g x hb=>hk b' g x (by omega)⟩
theorem sF.cell {n:Nat} {H:aA} {bare:Bool} {x:List (List ByteArray)} {c:VV} (h:sF n H bare x c):aB c=[c]∧bU c=true:=by
 rcases h with⟨_,_,rfl⟩ | ⟨b,h1,rfl,_⟩
 ·exact⟨rfl,rfl⟩
 ·exact⟨rfl,rfl⟩
theorem tC.fz {d b:Nat} {H:aA} {bare:Bool} {xs:List (List ByteArray)} (h:tC H bare xs b):PM.fz (d+3) H (.ref b 0 0 xs.length (xs.length+room xs.length))=some (jW xs):=by
 obtain⟨cells,AD,h1,h2,h3,h4,h5⟩:=h
 show PM.fz ((d+2)+1) H _=_
 unfold PM.fz
 have:aP (.ref b 0 0 xs.length (xs.length+room xs.length))=false:=rfl
 simp only[this,h1,Bool.false_eq_true,if_false]
 rw[if_pos ⟨by simp;omega,Nat.le_add_right _ _⟩,List.drop_zero,List.take_left' h2]
 have:∀(xs:List (List ByteArray)) (cells:List VV),cells.length=xs.length→(∀(i:Nat) x,xs[i]? = some x→∃c,cells[i]? = some c∧pZ b H bare x c)→cells.mapM (PM.fz (d+2) H)=some (xs.map fG):=by
  intro xs
  induction xs with
  |
   nil=>intro cells hl _;cases cells with
   | nil=>rfl
   | cons=>cases hl
  |
   cons x xs ih =>
   intro cells hl hc
   cases cells with
   | nil=>cases hl
   |
    cons c cells =>
    obtain⟨c',k1,k2⟩:=hc 0 x rfl
    injection k1 with k1
    subst k1
    rw[List.mapM_cons,k2.fz,ih cells (by simpa using hl) fun i x hx=>hc (i+1) x hx]
    rfl
 rw[this xs cells h2 h4]
 rfl
theorem Jc {d:Nat} {H:aA}:PM.fz (d+1) H (.tree [] .nil)=some (.tree [] .op):=by
 unfold PM.fz
 have:aP (.tree [] .nil)=false:=rfl
 simp only[this,Bool.false_eq_true,if_false]
 rfl
theorem sF.fz {n d:Nat} {H:aA} {bare:Bool} {xs:List (List ByteArray)} {c:VV} (h:sF n H bare xs c):PM.fz (d+3) H c=some (jW xs):=by
 rcases h with⟨_,rfl,rfl⟩ | ⟨b,h1,rfl,h3⟩
 ·exact Jc
 ·exact h3.fz
def sD (n:Nat) (H:aA) (bare:Bool) (s:Ag) (r:VV):Prop:=∃c0 c1 c2,r = .agg [c0,c1,c2]∧pZ n H bare s.b c0∧sF n H bare s.g c1∧pZ n H bare s.e c2
theorem sD.cZ {n:Nat} {H H':aA} {bare:Bool} {s:Ag} {c:VV} (h:sD n H bare s c) (hk:∀b g x,n<b→aK H b g=some x→aK H' b g=some x):sD n H' bare s c:=by
 obtain⟨c0,c1,c2,rfl,h0,h1,h2⟩:=h
 exact⟨c0,c1,c2,rfl,h0.cZ hk,h1.cZ hk,h2.cZ hk⟩
theorem sD.pre {n:Nat} {H H':aA} {bare:Bool} {s:Ag} {c:VV} (h:sD n H bare s c) (hh:H <+: H'):sD n H' bare s c:=h.cZ fun _ _ _ _=>cT hh
theorem sD.fz {n:Nat} {H:aA} {bare:Bool} {s:Ag} {c:VV} (h:sD n H bare s c):PM.fz depth H c=some (sZ s):=by
 obtain⟨c0,c1,c2,rfl,h0,h1,h2⟩:=h
 cases hp:aP (.agg [c0,c1,c2]) with
 |
  true =>
  simp only[aP,aN,Bool.and_eq_true] at hp
  have f0:=h0.fz (d:=0)
  have f1:=h1.fz (d:=0)
  have f2:=h2.fz (d:=0)
  rw[aH hp.1] at f0
  rw[aH hp.2.1] at f1
  rw[aH hp.2.2.1] at f2
  injection f0 with f0
  injection f1 with f1
  injection f2 with f2
  subst f0 f1 f2
  exact aJ (qH s)
 |
  false =>
  show PM.fz (7+1) H _=_
  unfold PM.fz
  simp only[hp,Bool.false_eq_true,if_false]
  rw[List.mapM_cons,h0.fz (d:=5),List.mapM_cons,h1.fz (d:=4),List.mapM_cons,h2.fz (d:=5)]
  rfl
theorem ahN {n m lo:Nat} {x:List ByteArray} {bare:Bool} {H:aA} {K:VV→aA→Prop} (hx:x.length≤1000000000) (hn:n≤H.length) (hm:m<H.length) (hO:Hq n (m+1) H)
  (hk:∀c H',H <+: H'→Hq n (m+1) H'→pZ m H' bare x c→jB n c=true→K c H'):cW 43 [fG x,.sc (.bool bare)] lo H K:=by
 refine(A2 x bare hx).acB rfl (mapM_pure (n:=7) (by simp[aN,iY];rfl)) ?_
 rintro r L hR hv hL
 refine hk r _ (List.prefix_append _ _) (hO.app hn hL) ?_ (GZ hn _ hv)
 rcases hR with⟨hb,rfl,rfl,rfl⟩ | ⟨rfl,rfl⟩
 ·exact .inl ⟨hb,rfl,rfl⟩
 ·exact .inr ⟨_,hm,rfl,CL (i:=0) rfl⟩
theorem aiE {n m lo:Nat} {xs:List (List ByteArray)} {bare:Bool} {H:aA} {K:VV→aA→Prop} (hl:xs.length≤1000000000) (hx:∀x∈xs,x.length≤1000000000) (hn:n≤H.length) (hm:m<H.length) (hO:Hq n (m+1) H)
  (hk:∀c H',H <+: H'→Hq n (m+1) H'→sF m H' bare xs c→jB n c=true→K c H'):cW 67 [jW xs,.sc (.bool bare)] lo H K:=by
 refine(FT xs bare hl hx).acB rfl (mapM_pure (n:=7) (by simp[aN,yH];rfl)) ?_
 rintro r L hR hv hL
 refine hk r _ (List.prefix_append _ _) (hO.app hn hL) ?_ (GZ hn _ hv)
 rcases hR with⟨hb,rfl,rfl,rfl⟩ | ⟨rfl,h⟩
 ·exact .inl ⟨hb,rfl,rfl⟩
 ·exact .inr ⟨_,hm,rfl,h.cZ fun b' g x hb h=>Gv hb h⟩
end Go.PM
namespace Go.Proofs.YtodamlihdkalfaaGreatDoor
open Go.ChangeShapes Go.WideShapes Go.ChangeAt Go.RowKit Go.PM
theorem EH {P:Program} {W:World} {base:Nat} {u e:TypeId} {v:Value} (ht:P.underlying u=some (.slice e)) (h:Cell.okWide P W .any base u v) (hB:¬C5 W):v = .slice none 0 0:=by
 simp only[Cell.okWide,ht,Cell.ok] at h
 split at h
 case h_7=>rfl
 case h_9 =>
  obtain⟨_,_,_,_,row,n,hs,_⟩:=h
  exfalso
  apply hB
  unfold World.shape? at hs
  split at hs
  ·rename_i arr e' fz hb
   exact⟨_,arr,e',fz,hb⟩
  ·cases hs
 all_goals first | exact h.elim | (rename_i hx;cases hx) | (rename_i hx _;cases hx)
theorem EP {T:Type} {vE:TypeId×Value→T} {W:World} (hB:C5 W):CC vE Tryz.prog W 22 1 fun vs=>∃s:List ByteArray,s.length≤maxLen∧(∀x∈s,x.size≤maxLen)∧vs=[fG s] :=
 Ht (f:=sV) (WN:=fun x=>x.size≤maxLen) Tryz.underlying22 (by kernel_rfl) (by decide) hB XX (NP Tryz.underlying9)
theorem QG {T:Type} {vE:TypeId×Value→T} {W:World} (hB:C5 W):CC vE Tryz.prog W 23 1 fun vs=>∃s:List (List ByteArray),s.length≤maxLen∧(∀x∈s,x.length≤maxLen∧∀y∈x,y.size≤maxLen)∧vs=[jW s]:=by
 refine Ht (f:=fG) (WN:=fun x=>x.length≤maxLen∧∀y∈x,y.size≤maxLen) Tryz.underlying23 (by kernel_rfl) (by decide) hB (fun _=>rfl) ?_
 intro fuel cs y h m H hI
 obtain⟨hl,m',L,G4,vs,ho,s,h1,h2,rfl⟩:=EP hB fuel cs y h m H hI
 exact⟨hl,m',L,G4,_,ho,s,⟨h1,h2⟩,rfl⟩
theorem Uh {T:Type} {vE:TypeId×Value→T} {W:World} (hB:C5 W):CC vE Tryz.prog W 25 3 fun vs=>∃s:Ag,Z1 s∧vs=aB (sZ s):=by
 intro fuel cs y h m H hI
 obtain⟨hl,m',L,G4,vs,ho,a,b,c,⟨sa,a1,a2,rfl⟩,⟨sb,b1,b2,rfl⟩,⟨sc,c1,c2,rfl⟩,rfl⟩:=O6 Tryz.underlying25 (by kernel_rfl) ⟨_,rfl,rfl,rfl⟩ ⟨_,rfl,rfl,rfl⟩ ⟨_,rfl,rfl,rfl⟩ rfl (by kernel_rfl) (by kernel_rfl) (by kernel_rfl)
  (EP hB) (QG hB) (EP hB) fuel cs y h m H hI
 exact⟨hl,m',L,G4,_,ho,⟨sa,sb,sc⟩,⟨⟨a1,a2⟩,⟨b1,b2⟩,⟨c1,c2⟩⟩,rfl⟩
theorem P5 (xs:List Value) (i:Nat):xs.toArray.getD i Go.undef=xs.getD i Go.undef:=by
 simp[Array.getD_eq_getD_getElem?,List.getD_eq_getElem?_getD]
set_option maxRecDepth 100000 in
theorem V8 {T:Type} {vE:TypeId×Value→T} {W:World} {v:Value} {d:DataW T} {ps:List MemPlace} {base:Nat} {m:dA} {H:aE} (h:DataW.Trod vE Tryz.prog W 0 (fun _=>true) true 25 v d ps) (hv:Value.okWide Tryz.prog W .any base 25 v) (hI:In m H W) :
  ∃m' L pv s,In m' (H++L) W∧(∀b l,m b=some l→m' b=some l)∧RV m' pv v∧VR (bare (· < (H++L).length) (H++L)) (sZ s) pv∧Z1 s:=by
 have hv':=hv
 obtain⟨cs,rfl,Kx⟩:=okWide_struct Tryz.underlying25 hv
 by_cases hB:C5 W
 ·obtain⟨fuel,hf⟩:=h
  have e:(Value.agg cs).cells.toList=cs.toList:=rfl
  rw[e] at hf
  obtain⟨hl,m',L,G4,vs,ho,s,hs,rfl⟩:=Uh hB fuel _ _ hf m H hI
  refine⟨m',L,.agg G4.toArray,s,ho.inn,ho.ext,.agg _ _ ?_ fun i hi => ?_,.agg _ _ ho.tree,hs⟩
  ·have:=ho.len
   simpa using this
  ·have BP:i<cs.toList.length:=by have:=ho.len;simp at hi ⊢;simp at this;omega
   have:=ho.rv i BP
   rw[P5]
   have e2:cs.getD i Go.undef=cs.toList.getD i Go.undef:=by
    rw[←P5]
   rw[e2]
   exact this
 ·have WC:Tryz.prog.cellTypes Tryz.prog.depth 25=some [22,23,22]:=by kernel_rfl
  have h3:Tryz.prog.cellsOf 25=3:=by kernel_rfl
  rw[h3] at Kx
  simp only[Value.okWide,Tryz.underlying25] at hv'
  obtain⟨Ad,e1,_,ts,e2,_,hc⟩:=hv'
  cases e1
  rw[WC] at e2
  cases e2
  have c0:cs[0]? = some (.slice none 0 0):=by
   have e:cs[0]? = some cs[0]:=Array.getElem?_eq_getElem (by omega)
   obtain⟨u,hu,hk⟩:=hc 0 _ e
   cases hu
   rw[e,EH Tryz.underlying22 hk hB]
  have c1:cs[1]? = some (.slice none 0 0):=by
   have e:cs[1]? = some cs[1]:=Array.getElem?_eq_getElem (by omega)
   obtain⟨u,hu,hk⟩:=hc 1 _ e
   cases hu
   rw[e,EH Tryz.underlying23 hk hB]
  have c2:cs[2]? = some (.slice none 0 0):=by
   have e:cs[2]? = some cs[2]:=Array.getElem?_eq_getElem (by omega)
   obtain⟨u,hu,hk⟩:=hc 2 _ e
   cases hu
   rw[e,EH Tryz.underlying22 hk hB]
  refine⟨m,[],.agg #[.slice none 0 0,.slice none 0 0,.slice none 0 0],⟨[],[],[]⟩,by rw[List.append_nil];exact hI,fun _ _ h=>h,.agg _ _ (by rw[Kx];rfl) fun i hi => ?_,.agg [.tree [] .op,.tree [] .op,.tree [] .op] [.slice none 0 0,.slice none 0 0,.slice none 0 0] (.cons _ _ _ _ (.nK _ (.inl rfl)) (.cons _ _ _ _ (.nK _ (.inl rfl)) (.cons _ _ _ _ (.nK _ (.inl rfl)) .nil))),⟨Nat.zero_le _,fun x hx=>(by cases hx)⟩,⟨Nat.zero_le _,fun x hx=>(by cases hx)⟩,⟨Nat.zero_le _,fun x hx=>(by cases hx)⟩⟩
  match i,hi with
  | 0,_=>rw[show cs.getD 0 Go.undef = .slice none 0 0 by rw[Array.getD_eq_getD_getElem?,c0];rfl];exact .Ik
  | 1,_=>rw[show cs.getD 1 Go.undef = .slice none 0 0 by rw[Array.getD_eq_getD_getElem?,c1];rfl];exact .Ik
  | 2,_=>rw[show cs.getD 2 Go.undef = .slice none 0 0 by rw[Array.getD_eq_getD_getElem?,c2];rfl];exact .Ik
end Go.Proofs.YtodamlihdkalfaaGreatDoor
namespace Go.Proofs.YtodamlihdkalfaaGreatDoor
open Go.ChangeShapes Go.WideShapes Go.ChangeAt Go.RowKit Go.PM
end Go.Proofs.YtodamlihdkalfaaGreatDoor
namespace Go.PM
theorem JZ {lo b:Nat} {H:aA} {c x y z:VV} (k:Nat) (h:aK H b 0=some ([.agg [x,y,z]],3,true)) (iD:lo≤b) (hc:aB c=[c]) (hs:bU c=true) (hk:k<3) :
  cD lo 1 (.ptr b 0 0 k) c H=some (H.set b (.row 0 [.agg ([x,y,z].set k c)] 3 true)):=by
 rw[Cm,h]
 simp only[List.getElem?_cons_zero,hc,List.length_cons,List.length_nil,List.all_cons,List.all_nil,hs,List.set_cons_zero]
 rw[if_pos ⟨by decide,iD,by decide⟩,if_neg (by omega),if_pos ⟨by decide,by omega⟩]
 match k,hk with
 | 0,_=>rfl
 | 1,_=>rfl
 | 2,_=>rfl
set_option maxHeartbeats 1000000 in
theorem G1 (s:Ag) (bare:Bool) (hb:s.b.length≤1000000000) (hg:s.g.length≤1000000000∧∀x∈s.g,x.length≤1000000000) (he:s.e.length≤1000000000):FC 17 [sZ s,.sc (.bool bare)] fun n r L=>sD n (List.replicate n .dead++L) bare s r:=by
 refine FC.ajK ⟨true,false⟩ G9 (Nat.le_of_ble_eq_true rfl) fun n => ?_
 simp only[Cq,Az,sZ,VX,Nat.reduceEqDiff,Nat.reduceAdd,iH,Nat.reduceLeDiff,Nat.reduceLT,Nat.reduceSub,IG,NV,X9,agB,alC,List.append_assoc,Nat.le_add_right,ZG,aaM,List.length_replicate]
 refine ahN (n:=n) (m:=n+1) hb (by simp) (by simp) ?_ fun c0 H1 p1 O1 s0 w0 => ?_
 ·intro b g es e w hb hr
  rw[List.getElem?_eq_none (by simp;omega)] at hr
  cases hr
 have Dd:n+2≤H1.length:=by have:=p1.length_le;simpa using this
 have a1:aK H1 (n+1) 0=some ([.agg [.tree [] .nil,.tree [] .nil,.tree [] .nil]],3,true):=cT p1 (by rw[NV];rfl)
 have b1:aK H1 n 0=some ([.agg [.tree [] .nil,.tree [] .nil,.tree [] .nil]],3,true):=cT p1 (by rw[IG];rfl)
 have e1:=JZ (lo:=n) 0 a1 (Nat.le_succ n) s0.cell.1 s0.cell.2.1 (by decide)
 simp only[a1,e1,uP,Nat.add_zero,VX,Nat.reduceEqDiff,Nat.reduceAdd]
 refine aiE (n:=n) (m:=n+1) hg.1 hg.2 (by rw[List.length_set];omega) (by rw[List.length_set];omega) (O1.set (by omega)) fun c1 H2 p2 O2 s1 w1 => ?_
 have GJ:n+2≤H2.length:=by have:=p2.length_le;rw[List.length_set] at this;omega
 have a2:aK H2 (n+1) 0=some ([.agg [c0,.tree [] .nil,.tree [] .nil]],3,true):=cT p2 (iK a1)
 have b2:aK H2 n 0=some ([.agg [.tree [] .nil,.tree [] .nil,.tree [] .nil]],3,true):=cT p2 (cI (by omega) b1)
 have s0':=s0.cZ (H':=H2) fun b g x hb h=>cT p2 (cI (by omega) h)
 have e2:=JZ (lo:=n) 1 a2 (Nat.le_succ n) s1.cell.1 s1.cell.2 (by decide)
 simp only[a2,e2,uP,Nat.zero_add,VX,Nat.reduceEqDiff,Nat.reduceAdd]
 refine ahN (n:=n) (m:=n+1) he (by rw[List.length_set];omega) (by rw[List.length_set];omega) (O2.set (by omega)) fun c2 H3 p3 O3 s2 w2 => ?_
 have hl3:n+2≤H3.length:=by have:=p3.length_le;rw[List.length_set] at this;omega
 have a3:aK H3 (n+1) 0=some ([.agg [c0,c1,.tree [] .nil]],3,true):=cT p3 (iK a2)
 have b3:aK H3 n 0=some ([.agg [.tree [] .nil,.tree [] .nil,.tree [] .nil]],3,true):=cT p3 (cI (by omega) b2)
 have aqK:=s0'.cZ (H':=H3) fun b g x hb h=>cT p3 (cI (by omega) h)
 have aqY:=s1.cZ (H':=H3) fun b g x hb h=>cT p3 (cI (by omega) h)
 have e3:=JZ (lo:=n) 2 a3 (Nat.le_succ n) s2.cell.1 s2.cell.2.1 (by decide)
 have e4:cU true 3 (.ptr (n+1) 0 0 0) (H3.set (n+1) (.row 0 [.agg [c0,c1,c2]] 3 true))=some (.agg [c0,c1,c2]):=by
  rw[fI,iK a3]
  rfl
 have hv:aB c0=[c0]∧aB c1=[c1]∧aB c2=[c2]:=⟨s0.cell.1,s1.cell.1,s2.cell.1⟩
 have e5:=dI (lo:=n) (v := .agg [c0,c1,c2]) (j:=0) (cI (x := .row 0 [.agg [c0,c1,c2]] 3 true) (b':=n+1) (by omega) b3) (by decide) (Nat.le_refl _) (by rfl) (by simp[aB,s0.cell.2.1,s1.cell.2,s2.cell.2.1])
 have e6:cU true 3 (.ptr n 0 0 0) ((H3.set (n+1) (.row 0 [.agg [c0,c1,c2]] 3 true)).set n (.row 0 [.agg [c0,c1,c2]] 3 true))=some (.agg [c0,c1,c2]):=by
  rw[fI,iK (cI (x := .row 0 [.agg [c0,c1,c2]] 3 true) (b':=n+1) (by omega) b3)]
  rfl
 simp only[a3,e3,e4,e5,e6,uP,Nat.zero_add,List.set_cons_zero,List.set_cons_succ,mQ,pK,Cd,VX,Nat.reduceEqDiff,Nat.reduceAdd]
 obtain⟨L,k1,k2,k3⟩:=WO (n:=n) (k:=n+2) (H:=(H3.set (n+1) (.row 0 [.agg [c0,c1,c2]] 3 true)).set n (.row 0 [.agg [c0,c1,c2]] 3 true)) (by omega) (by rw[List.length_set,List.length_set];exact hl3) ((O3.set (by omega)).set (by omega))
 have Ay:∀b g x,n+1<b→aK H3 b g=some x→aK (List.replicate n .dead++L) b g=some x:=fun b g x hb h=>k3 b g x hb (cI (by omega) (cI (by omega) h))
 have up:∀ {H c x},pZ (n+1) H bare x c→pZ n H bare x c:=fun h=>by
  rcases h with h | ⟨b,h1,h2,h3⟩
  ·exact .inl h
  ·exact .inr ⟨b,by omega,h2,h3⟩
 have up2:∀ {H c x},sF (n+1) H bare x c→sF n H bare x c:=fun h=>by
  rcases h with h | ⟨b,h1,h2,h3⟩
  ·exact .inl h
  ·exact .inr ⟨b,by omega,h2,h3⟩
 refine⟨L,k1,by simp[jB,xI,w0,w1,w2],k2,c0,c1,c2,rfl,up (aqK.cZ Ay),up2 (aqY.cZ Ay),up (s2.cZ Ay)⟩
theorem Ho (s:Ag) (left:Int) (hx:Z1 s) (hl:0≤left∧left≤1000000):TC 15 [sZ s,VI left] (VI (if DY s.b left<0 then -1 else if CB s.g (DY s.b left)<0 then -1 else if DY s.e (CB s.g (DY s.b left))<0 then -1 else DY s.e (CB s.g (DY s.b left)))):=by
 refine TC.walk ⟨true,false⟩ Gj rfl (Nat.le_of_ble_eq_true rfl) (by simp[aN,qH];rfl) rfl ?_
 have e0:=tF s.b left hx.1 hl
 by_cases h0:DY s.b left<0
 ·simp only[oR,lH,sZ,e0,h0,if_true,VX,Nat.reduceEqDiff,Nat.reduceAdd,iH,Nat.reduceLeDiff,Nat.reduceLT,Nat.reduceSub]
  exact aJ rfl
 have b0:=Ej (xs:=s.b) (l:=left) (by omega)
 have e1:=F1 s.g _ hx.2.1 ⟨Int.not_lt.1 h0,by omega⟩
 by_cases h1:CB s.g (DY s.b left)<0
 ·simp only[oR,lH,sZ,e0,e1,h0,h1,if_true,if_false,VX,Nat.reduceEqDiff,Nat.reduceAdd,iH,Nat.reduceLeDiff,Nat.reduceLT,Nat.reduceSub]
  exact aJ rfl
 have b1:=NU (xs:=s.g) (l:=DY s.b left) (by omega)
 have e2:=tF s.e _ hx.2.2 ⟨Int.not_lt.1 h1,by omega⟩
 by_cases h2:DY s.e (CB s.g (DY s.b left))<0
 ·simp only[oR,lH,sZ,e0,e1,e2,h0,h1,h2,if_true,if_false,VX,Nat.reduceEqDiff,Nat.reduceAdd,iH,Nat.reduceLeDiff,Nat.reduceLT,Nat.reduceSub]
  exact aJ rfl
 ·simp only[oR,lH,sZ,e0,e1,e2,h0,h1,h2,if_false,VX,Nat.reduceEqDiff,Nat.reduceAdd,iH,Nat.reduceLeDiff,Nat.reduceLT,Nat.reduceSub]
  exact aJ rfl
end Go.PM
namespace Go.PM
theorem Pq {b d:Nat} {H:aA}:∀ {AD:List VV},(∀c∈AD,DU b H c)→AD.mapM (PM.fz (d+2) H)=some ((List.replicate AD.length [jA]).map fG)
 | [],_=>rfl
 |
  c::AD,h=>by
  rw[List.mapM_cons,(h c List.mem_cons_self).fz,Pq fun c hc=>h c (List.mem_cons_of_mem _ hc)]
  rfl
theorem tC.TX {b:Nat} {H:aA} {bare:Bool} {xs:List (List ByteArray)} (h:tC H bare xs b):PM.fz depth H (.ref b 0 xs.length (room xs.length) (room xs.length))=some (jW (List.replicate (room xs.length) [jA])):=by
 obtain⟨cells,AD,h1,h2,h3,h4,h5⟩:=h
 show PM.fz (7+1) H _=_
 unfold PM.fz
 have:aP (.ref b 0 xs.length (room xs.length) (room xs.length))=false:=rfl
 simp only[this,h1,Bool.false_eq_true,if_false]
 rw[if_pos ⟨by simp;omega,Nat.le_refl _⟩,List.drop_left' h2,List.take_of_length_le (by omega),Pq (d:=5) h5,h3]
 rfl
theorem tC.get {b i:Nat} {H:aA} {xs:List (List ByteArray)} {x:List ByteArray} (h:tC H false xs b) (hx:xs[i]? = some x) :
  ∃b',cU false 1 (.ptr b 0 i 0) H=some (.ref b' 0 0 x.length (x.length+room x.length))∧aK H b' 0=some ((kB jA x).map sV,1,true):=by
 obtain⟨cells,AD,h1,h2,h3,h4,h5⟩:=h
 obtain⟨c,k1,k2⟩:=h4 i x hx
 rcases k2 with⟨k,_⟩ | ⟨b',_,rfl,k3⟩
 ·cases k
 ·refine⟨b',?_,k3⟩
  rw[fI,h1]
  simp only[List.getElem?_append_left (List.getElem?_eq_some_iff.1 k1).1,k1]
  rfl
theorem BY {lo b b':Nat} {H:aA} (xs:List (List ByteArray)) (hn:xs.length≤400000000) (hx:∀x∈xs,x.length≤400000000) (hX:tC H false xs b) (hY:tC H false xs b') {K:VV→aA→Prop} (hk:K (.sc (.bool true)) H) :
  cW 70 [.ref b 0 0 xs.length (xs.length+room xs.length),.ref b' 0 0 xs.length (xs.length+room xs.length)] lo H K:=by
 refine lT rfl (qD.walk ⟨true,false⟩ BZ (Nat.le_of_ble_eq_true rfl) ?_)
 have hr:=room_le xs.length
 have w1:IntKind.i64.wrap ((xs.length:Int)+(room xs.length:Int))=((xs.length+room xs.length:Nat):Int):=wrapN _ (by omega) (by omega)
 have gX:=fun i x h=>hX.get (i:=i) (x:=x) h
 have gY:=fun i x h=>hY.get (i:=i) (x:=x) h
 have fX:=hX.TX
 have fY:=hY.TX
 obtain⟨cX,eX,rX,_⟩:=hX
 obtain⟨cY,eY,rY,_⟩:=hY
 have l1:=eV (o:=0) (n:=xs.length) (c:=xs.length+room xs.length) rX
 have l2:=eV (o:=0) (n:=xs.length) (c:=xs.length+room xs.length) rY
 have e1:=Kv (o:=0) (n:=xs.length) (c:=xs.length+room xs.length) (l:=xs.length) (h:=xs.length+room xs.length) (k1 := .i64) (k2 := .i64) rX (Nat.le_add_right _ _) (Nat.le_refl _)
 have e2:=Kv (o:=0) (n:=xs.length) (c:=xs.length+room xs.length) (l:=xs.length) (h:=xs.length+room xs.length) (k1 := .i64) (k2 := .i64) rY (Nat.le_add_right _ _) (Nat.le_refl _)
 rw[Nat.add_sub_cancel_left,Nat.zero_add] at e1 e2
 have e3:=(FP (List.replicate (room xs.length) [jA]) (List.replicate (room xs.length) [jA]) (by simp;omega) (fun x hx=>by rw[List.eq_of_mem_replicate hx];decide)).flat (H:=H) rfl (by simp[aN,yH]) (fz2 fX fY) rfl
 simp only[vS,tD,iT,l1,l2,w1,eq_self,VX,Nat.reduceEqDiff,Nat.reduceAdd]
 refine aW (fun(i:Nat) ρ H1=>i≤xs.length∧H1=H∧ρ 0 = .ref b 0 0 xs.length (xs.length+room xs.length)∧ρ 1 = .ref b' 0 0 xs.length (xs.length+room xs.length)∧ρ 5=VI (xs.length+room xs.length:Nat)∧ρ 6=VI i) (fun i=>xs.length-i) 0 ⟨Nat.zero_le _,rfl,rfl,rfl,rfl,rfl⟩ ?_
 rintro i ρ H1 ⟨hi,rfl,h0,h1,h5,h6⟩
 by_cases cB:(i:Int)<(xs.length:Int)
 ·obtain⟨x,Gk⟩:∃x,xs[i]? = some x:=⟨_,List.getElem?_eq_getElem (by omega)⟩
  obtain⟨bx,vx,ux⟩:=gX i x Gk
  obtain⟨bY,vy,uy⟩:=gY i x Gk
  have a1:=aV (o:=0) (n:=xs.length) (c:=xs.length+room xs.length) (i:=i) (k := .i64) rX (by omega)
  have a2:=aV (o:=0) (n:=xs.length) (c:=xs.length+room xs.length) (i:=i) (k := .i64) rY (by omega)
  have wi:IntKind.i64.wrap ((i:Int)+1)=((i+1:Nat):Int):=wrapN (i+1) (by omega) (by omega)
  simp only[mE,h0,h1,h6,cB,l2,a1,a2,vx,vy,Nat.zero_add,VX,Nat.reduceEqDiff,Nat.reduceAdd]
  refine oA x (hx x (List.mem_of_getElem? Gk)) ux uy ?_
  simp only[h6,wi,VX,Nat.reduceEqDiff,Nat.reduceAdd]
  exact⟨i+1,by omega,by omega,by (repeat' apply And.intro)<;>first | rfl | trivial | assumption⟩
 ·have pD:i=xs.length:=by omega
  subst pD
  simp only[mE,h0,h1,h5,h6,cB,l2,e1,e2,e3,VX,Nat.reduceEqDiff,Nat.reduceAdd]
  exact hk
theorem pZ.ref {n:Nat} {H:aA} {x:List ByteArray} {c:VV} (h:pZ n H false x c):∃b,c = .ref b 0 0 x.length (x.length+room x.length)∧aK H b 0=some ((kB jA x).map sV,1,true):=by
 rcases h with⟨k,_⟩ | ⟨b',_,rfl,k3⟩
 ·cases k
 ·exact⟨b',rfl,k3⟩
theorem sF.ref {n:Nat} {H:aA} {x:List (List ByteArray)} {c:VV} (h:sF n H false x c):∃b,c = .ref b 0 0 x.length (x.length+room x.length)∧tC H false x b:=by
 rcases h with⟨k,_⟩ | ⟨b',_,rfl,k3⟩
 ·cases k
 ·exact⟨b',rfl,k3⟩
theorem CF {lo n n':Nat} {H:aA} {c c':VV} (s:Ag) (hb:s.b.length≤400000000) (hg:s.g.length≤400000000∧∀x∈s.g,x.length≤400000000) (he:s.e.length≤400000000) (hX:sD n H false s c) (hY:sD n' H false s c') {K:VV→aA→Prop} (hk:K (.sc (.bool true)) H) :
  cW 19 [c,c'] lo H K:=by
 refine lT rfl (qD.walk ⟨true,false⟩ B3 (Nat.le_of_ble_eq_true rfl) ?_)
 obtain⟨x0,x1,x2,rfl,Rl,hx1,hx2⟩:=hX
 obtain⟨y0,y1,y2,rfl,WV,hy1,hy2⟩:=hY
 obtain⟨b0,rfl,r0⟩:=Rl.ref
 obtain⟨b1,rfl,r1⟩:=hx1.ref
 obtain⟨b2,rfl,r2⟩:=hx2.ref
 obtain⟨d0,rfl,q0⟩:=WV.ref
 obtain⟨d1,rfl,q1⟩:=hy1.ref
 obtain⟨d2,rfl,q2⟩:=hy2.ref
 simp only[yL,uK,VX,Nat.reduceEqDiff,Nat.reduceAdd,iH,Nat.reduceLeDiff,Nat.reduceLT,Nat.reduceSub,IF,ML,afC,aeX,List.append_assoc,List.cons_append,List.nil_append,List.length_append,List.length_cons,List.length_nil,Nat.zero_add,Nat.reduceAdd]
 refine oA s.b hb r0 q0 ?_
 simp only[VX,Nat.reduceEqDiff,Nat.reduceAdd,iH,Nat.reduceLeDiff,Nat.reduceLT,Nat.reduceSub]
 refine BY s.g hg.1 hg.2 r1 q1 ?_
 simp only[VX,Nat.reduceEqDiff,Nat.reduceAdd,iH,Nat.reduceLeDiff,Nat.reduceLT,Nat.reduceSub]
 refine oA s.e he r2 q2 ?_
 simp only[VX,Nat.reduceEqDiff,Nat.reduceAdd,iH,Nat.reduceLeDiff,Nat.reduceLT,Nat.reduceSub]
 exact hk
end Go.PM
namespace Go.PM
def Cz:aF:=(LS [LO 0 (.new [(.bool false),(.slice none 0 0),(.slice none 0 0)])] (LS [LO 1 (.call 166 [(LI 0)]),LN (.store 3 (LT 0) (LT 1))] .ret))
def FQ:aY:=⟨2,[(.cell 0 true 3)],Cz⟩
theorem Kg:jE 136=some FQ:=by kernel_rfl
def uH:aF:=(LS [LO 2 (.box (LT 0)),LO 3 (.box (LT 1)),LO 4 (.new [(.bool false),(.slice none 0 0),(.slice none 0 0)])] (LS [LO 8 (LA 1 2),LO 9 (LL 8),LO 10 (LA 2 3),LO 11 (LL 10),LO 12 (.call 162 [(LT 9),(LT 11)]),LM 5 12] (LS [LO 13 (LA 1 3),LO 14 (LL 13),LO 15 (LA 2 2),LO 16 (LL 15),LO 17 (.call 162 [(LT 14),(LT 16)]),LM 6 17] (LS [LO 18 (LA 2 2),LO 19 (LL 18),LO 20 (LA 2 3),LO 21 (LL 20),LO 22 (.call 162 [(LT 19),(LT 21)]),LM 7 22] (.seq (LS [LO 23 (LA 0 2),LO 24 (LL 23),LO 25 (LA 0 3),LO 26 (LL 25),LO 27 (.eqb false (LT 24) (LT 26))] (.cond (LT 27) (LS [LO 28 (LA 0 2),LO 29 (LL 28),LM 30 5,LM 31 6,LQ 32 (.call 177 [(LT 30),(LT 31)]),LM 33 7,LQ 34 (.call 164 [(LT 29),(LT 32),(LT 33)]),LN (.store 3 (LT 4) (LT 34))] .ret) .skip)) (.seq (LS [LM 35 5,LM 36 6,LO 37 (.call 178 [(LT 35),(LT 36)]),LO 38 (.bin .geq (LT 37) (LI 0))] (.cond (LT 38) (LS [LO 39 (LA 0 2),LO 40 (LL 39),LM 41 5,LM 42 6,LQ 43 (.call 179 [(LT 41),(LT 42)]),LM 44 7,LQ 45 (.call 164 [(LT 40),(LT 43),(LT 44)]),LN (.store 3 (LT 4) (LT 45))] .ret) .skip)) (LS [LO 46 (LA 0 3),LO 47 (LL 46),LM 48 6,LM 49 5,LQ 50 (.call 179 [(LT 48),(LT 49)]),LM 51 7,LQ 52 (.call 164 [(LT 47),(LT 50),(LT 51)]),LN (.store 3 (LT 4) (LT 52))] .ret)))))))
def zT:aY:=⟨53,[(.cell 4 true 3)],uH⟩
theorem KY:jE 94=some zT:=by kernel_rfl
def Ac:aF:=(LS [LO 2 (.new [(.bool false),(.slice none 0 0),(.slice none 0 0)])] (.seq (LS [LM 3 0,LO 4 (.bin .lss (LT 3) (LI 0))] (.cond (LT 4) (LS [LM 5 0,LO 6 (.un .neg (LT 5)),LO 7 (.call 161 [(LT 6)]),LO 8 (.lit [(.int .i64 0)] 1 [(0,(LI 1))]),LO 9 (.build [(.bool false),(.slice none 0 0),(.slice none 0 0)] [(0,1),(1,1),(2,1)] [(0,LG),(1,(LT 7)),(2,(LT 8))]),LN (.store 3 (LT 2) (LT 9))] .ret) .skip)) (LS [LM 10 0,LO 11 (.call 161 [(LT 10)]),LO 12 (.lit [(.int .i64 0)] 1 [(0,(LI 1))]),LO 13 (.build [(.bool false),(.slice none 0 0),(.slice none 0 0)] [(0,1),(1,1),(2,1)] [(1,(LT 11)),(2,(LT 12))]),LN (.store 3 (LT 2) (LT 13))] .ret)))
def B7:aY:=⟨14,[(.cell 2 true 3)],Ac⟩
theorem K4:jE 166=some B7:=by kernel_rfl
def xJ:aF:=(LS [LO 1 (.box (LT 0)),LO 2 (.mv LF)] (LS [LO 3 (LA 1 1),LO 4 (LL 3),LO 5 (.len (LT 4)),LO 6 (.bin .eql (LT 5) (LI 0)),LM 2 6] .ret))
def Bz:aY:=⟨7,[(.tmp 2)],xJ⟩
theorem JT:jE 141=some Bz:=by kernel_rfl
def qO:aF:=(LS [LO 2 (.box (LT 0)),LO 3 (.box (LT 1)),LO 4 (.mv LF)] (LS [LO 5 (LA 0 2),LO 6 (LL 5),LO 7 (LA 0 3),LO 8 (LL 7),LO 9 (.eqb false (LT 6) (LT 8)),LM 10 9,LY 10 11 (LA 1 2),LY 10 12 (LL 11),LY 10 13 (LA 2 3),LY 10 14 (LL 13),⟨(some 15),(.call 162 [(LT 12),(LT 14)]),(some (10,true)),true,[]⟩,LY 10 16 (LA 1 3),LY 10 17 (LL 16),LY 10 18 (LA 2 2),LY 10 19 (LL 18),⟨(some 20),(.call 162 [(LT 17),(LT 19)]),(some (10,true)),true,[]⟩,⟨(some 21),(.call 178 [(LT 15),(LT 20)]),(some (10,true)),true,[]⟩,LY 10 22 (.bin .eql (LT 21) (LI 0)),LO 23 (.pick (LT 10) (LT 22) LF),LM 4 23] .ret))
def uE:aY:=⟨24,[(.tmp 4)],qO⟩
theorem Iw:jE 197=some uE:=by kernel_rfl
def qT:aF:=(LS [LO 15 (.bin .lss (LT 14) (LT 13))] (.seq (.cond (LT 15) .skip (.exit 0)) (.seq (.block 1 (LS [LM 16 14,LM 5 16] (LS [LM 18 0,LM 19 5,LO 20 (.iaddr 1 (LT 18) (LT 19)),LO 21 (LL 20),LO 22 (.call 175 [(LT 21)]),LM 17 22,LO 23 (LX 17 0),LO 24 (LX 17 1),LO 6 (.new [(.bool false),(.slice none 0 0),(.slice none 0 0)]),LN (.store 3 (LT 6) (LT 23)),LM 7 24] (.seq (LS [LM 25 7,LO 26 (.un .not (LT 25))] (.cond (LT 26) (LS [LO 2 (.mv (.const (.slice none 0 0))),LO 3 (.mv LF)] .ret) .skip)) (.eT [LM 27 4,LO 28 (LK 6),LO 29 (.lit [(.bool false),(.slice none 0 0),(.slice none 0 0)] 1 [(0,(LT 28))]),LO 30 (.app 3 56 (LT 27) (LT 29)),LM 4 30]))))) (.eT [LO 31 (.bin .add (LT 14) (LI 1)),LM 14 31]))))
def xQ:aF:=(LS [LO 2 (.mv (.const (.slice none 0 0))),LO 3 (.mv LF)] (.seq (LS [LM 8 0,LO 9 (.len (LT 8)),LO 10 (.bin .gtr (LT 9) (LI 300))] (.cond (LT 10) (LS [LO 2 (.mv (.const (.slice none 0 0))),LO 3 (.mv LF)] .ret) .skip)) (LS [LO 11 (.lit [(.bool false),(.slice none 0 0),(.slice none 0 0)] 0 []),LM 4 11] (.seq (LS [LM 12 0,LO 13 (.len (LT 12)),LO 14 (.mv (LI 0))] (.block 0 (.loop qT))) (LS [LM 32 4,LM 2 32,LO 3 (.mv LG)] .ret)))))
def Bi:aY:=⟨33,[(.tmp 2),(.tmp 3)],xQ⟩
theorem Kc:jE 115=some Bi:=by kernel_rfl
def rO:aF:=(LS [LO 2 (.mv LF)] (LS [LM 3 0,LO 4 (.call 140 [(LT 3)]),LM 5 4,LY 5 6 (.mv (LT 0)),LY 5 7 (.call 142 [(LT 6)]),LY 5 8 (.call 124 []),LY 5 9 (.call 197 [(LT 7),(LT 8)]),LO 10 (.pick (LT 5) (LT 9) LF),LM 2 10] .ret))
def vI:aY:=⟨11,[(.tmp 2)],rO⟩
theorem E8:jE 116=some vI:=by kernel_rfl
def Ea:aF:=(LS [LO 0 (.new [(.bool false),(.slice none 0 0),(.slice none 0 0)])] (LS [LO 1 (.call 166 [(LI 1)]),LN (.store 3 (LT 0) (LT 1))] .ret))
def HJ:aY:=⟨2,[(.cell 0 true 3)],Ea⟩
theorem KU:jE 124=some HJ:=by kernel_rfl
def lE:aF:=(LS [LO 7 (.bin .lss (LT 6) (LT 5))] (.seq (.cond (LT 7) .skip (.exit 0)) (.seq (.block 1 (LS [LM 8 6,LM 3 8] (LS [LM 9 0,LM 10 3,LO 11 (.iaddr 3 (LT 9) (LT 10)),LO 12 (LA 0 11),LO 13 (LL 12)] (.cond (LT 13) (LS [LO 2 (.mv LF)] .ret) .skip)))) (.eT [LO 14 (.bin .add (LT 6) (LI 1)),LM 6 14]))))
def wU:aF:=(LS [LO 2 (.mv LF)] (.seq (LS [LM 4 0,LO 5 (.len (LT 4)),LO 6 (.mv (LI 0))] (.block 0 (.loop lE))) (LS [LO 2 (.mv LG)] .ret)))
def An:aY:=⟨15,[(.tmp 2)],wU⟩
theorem Eh:jE 140=some An:=by kernel_rfl
def uB:aF:=(LS [LO 9 (.bin .lss (LT 8) (LT 7))] (.seq (.cond (LT 9) .skip (.exit 0)) (.seq (.block 1 (LS [LM 10 8,LM 4 10] (.eT [LO 11 (LK 3),LM 12 0,LM 13 4,LO 14 (.iaddr 3 (LT 12) (LT 13)),LO 15 (LK 14),LQ 16 (.call 94 [(LT 11),(LT 15)]),LN (.store 3 (LT 3) (LT 16))]))) (.eT [LO 17 (.bin .add (LT 8) (LI 1)),LM 8 17]))))
def BG:aF:=(LS [LO 2 (.new [(.bool false),(.slice none 0 0),(.slice none 0 0)])] (LS [LO 5 (.call 136 []),LO 3 (.new [(.bool false),(.slice none 0 0),(.slice none 0 0)]),LN (.store 3 (LT 3) (LT 5))] (.seq (LS [LM 6 0,LO 7 (.len (LT 6)),LO 8 (.mv (LI 0))] (.block 0 (.loop uB))) (LS [LO 18 (LK 3),LN (.store 3 (LT 2) (LT 18))] .ret))))
def D8:aY:=⟨19,[(.cell 2 true 3)],BG⟩
theorem IB:jE 142=some D8:=by kernel_rfl
def jU:aF:=(LS [LO 6 (.new [(.bool false),(.slice none 0 0),(.slice none 0 0)])] (LS [LM 8 1,LM 9 2,LO 10 (.call 213 [(LT 8),(LT 9)]),LM 7 10] (.seq (LS [LM 11 7,LO 12 (.lit [(.int .i64 0)] 1 [(0,(LI 1))]),LO 13 (.call 178 [(LT 11),(LT 12)]),LO 14 (.bin .neq (LT 13) (LI 0))] (.cond (LT 14) (LS [LM 16 1,LM 17 7,LO 18 (.call 214 [(LT 16),(LT 17)]),LM 15 18,LO 19 (LX 15 0),LO 20 (LX 15 1),LM 1 19] (.eT [LM 22 2,LM 23 7,LO 24 (.call 214 [(LT 22),(LT 23)]),LM 21 24,LO 25 (LX 21 0),LO 26 (LX 21 1),LM 2 25])) .skip)) (LS [LM 27 0,LM 28 27,LY 28 29 (.mv (LT 1)),LY 28 30 (.len (LT 29)),LY 28 31 (.bin .gtr (LT 30) (LI 0)),LO 32 (.pick (LT 28) (LT 31) LF),LM 33 1,LM 34 2,LO 35 (.build [(.bool false),(.slice none 0 0),(.slice none 0 0)] [(0,1),(1,1),(2,1)] [(0,(LT 32)),(1,(LT 33)),(2,(LT 34))]),LN (.store 3 (LT 6) (LT 35))] .ret))))
def mT:aY:=⟨36,[(.cell 6 true 3)],jU⟩
theorem Kq:jE 164=some mT:=by kernel_rfl
def oD:aF:=(.seq (LS [LM 19 5,LO 20 (.bin .geq (LT 19) (LI 0))] (.cond (LT 20) .skip (.exit 0))) (.seq (.block 1 (LS [LM 23 0,LM 24 5,LO 25 (.iaddr 1 (LT 23) (LT 24)),LO 26 (LL 25),LM 27 1,LM 28 5,LO 29 (.iaddr 1 (LT 27) (LT 28)),LO 30 (LL 29),LO 31 (.bin .neq (LT 26) (LT 30))] (.cond (LT 31) (.seq (LS [LM 32 0,LM 33 5,LO 34 (.iaddr 1 (LT 32) (LT 33)),LO 35 (LL 34),LM 36 1,LM 37 5,LO 38 (.iaddr 1 (LT 36) (LT 37)),LO 39 (LL 38),LO 40 (.bin .lss (LT 35) (LT 39))] (.cond (LT 40) (LS [LO 4 (.mv (LI (-1)))] .ret) .skip)) (LS [LO 4 (.mv (LI 1))] .ret)) .skip))) (.eT [LM 21 5,LO 22 (.bin .sub (LT 21) (LI 1)),LM 5 22])))
def uC:aF:=(LS [LO 4 (.mv (LI 0))] (.seq (LS [LM 6 0,LO 7 (.len (LT 6)),LM 8 1,LO 9 (.len (LT 8)),LO 10 (.bin .neq (LT 7) (LT 9))] (.cond (LT 10) (.seq (LS [LM 11 0,LO 12 (.len (LT 11)),LM 13 1,LO 14 (.len (LT 13)),LO 15 (.bin .lss (LT 12) (LT 14))] (.cond (LT 15) (LS [LO 4 (.mv (LI (-1)))] .ret) .skip)) (LS [LO 4 (.mv (LI 1))] .ret)) .skip)) (.seq (LS [LM 16 0,LO 17 (.len (LT 16)),LO 18 (.bin .sub (LT 17) (LI 1)),LM 5 18] (.block 0 (.loop oD))) (LS [LO 4 (.mv (LI 0))] .ret))))
def yX:aY:=⟨41,[(.tmp 4)],uC⟩
theorem La:jE 178=some yX:=by kernel_rfl
def rR:aF:=(LS [LO 24 (.bin .lss (LT 23) (LT 22))] (.seq (.cond (LT 24) .skip (.exit 2)) (.seq (.block 3 (LS [LM 25 23,LM 8 25] (LS [LM 26 5,LM 27 6,LM 28 8,LO 29 (.bin .add (LT 27) (LT 28)),LO 30 (.iaddr 1 (LT 26) (LT 29)),LO 31 (LL 30),LM 32 0,LM 33 6,LO 34 (.iaddr 1 (LT 32) (LT 33)),LO 35 (LL 34),LM 36 1,LM 37 8,LO 38 (.iaddr 1 (LT 36) (LT 37)),LO 39 (LL 38),LO 40 (.bin .mul (LT 35) (LT 39)),LO 41 (.bin .add (LT 31) (LT 40)),LM 42 7,LO 43 (.bin .add (LT 41) (LT 42)),LM 9 43] (LS [LM 44 5,LM 45 6,LM 46 8,LO 47 (.bin .add (LT 45) (LT 46)),LM 48 9,LO 49 (.bin .rem (LT 48) (LI 1000000000)),LO 50 (.iaddr 1 (LT 44) (LT 47)),LN (.store 1 (LT 50) (LT 49))] (.eT [LM 51 9,LO 52 (.bin .quo (LT 51) (LI 1000000000)),LM 7 52]))))) (.eT [LO 53 (.bin .add (LT 23) (LI 1)),LM 23 53]))))
def rW:aF:=(LS [LO 19 (.bin .lss (LT 18) (LT 17))] (.seq (.cond (LT 19) .skip (.exit 0)) (.seq (.block 1 (LS [LM 20 18,LM 6 20] (LS [LO 7 (.mv (LI 0))] (.seq (LS [LM 21 1,LO 22 (.len (LT 21)),LO 23 (.mv (LI 0))] (.block 2 (.loop rR))) (.eT [LM 54 5,LM 55 6,LM 56 1,LO 57 (.len (LT 56)),LO 58 (.bin .add (LT 55) (LT 57)),LO 59 (.iaddr 1 (LT 54) (LT 58)),LO 60 (LL 59),LM 61 7,LO 62 (.bin .add (LT 60) (LT 61)),LO 63 (.iaddr 1 (LT 54) (LT 58)),LN (.store 1 (LT 63) (LT 62))]))))) (.eT [LO 64 (.bin .add (LT 18) (LI 1)),LM 18 64]))))
def AG:aF:=(LS [LO 4 (.mv (.const (.slice none 0 0)))] (LS [LM 10 0,LO 11 (.len (LT 10)),LM 12 1,LO 13 (.len (LT 12)),LO 14 (.bin .add (LT 11) (LT 13)),LO 15 (.make [(.int .i64 0)] 8 (LT 14) (LT 14)),LM 5 15] (.seq (LS [LM 16 0,LO 17 (.len (LT 16)),LO 18 (.mv (LI 0))] (.block 0 (.loop rW))) (LS [LM 65 5,LO 66 (.call 211 [(LT 65)]),LM 4 66] .ret))))
def B9:aY:=⟨67,[(.tmp 4)],AG⟩
theorem He:jE 162=some B9:=by kernel_rfl
def kR:aF:=(.seq (LS [LM 10 7,LM 11 0,LO 12 (.len (LT 11)),LO 13 (.bin .lss (LT 10) (LT 12)),LM 14 13,LZ 14 15 (.mv (LT 7)),LZ 14 16 (.mv (LT 1)),LZ 14 17 (.len (LT 16)),LZ 14 18 (.bin .lss (LT 15) (LT 17)),LO 19 (.pick (LT 14) LG (LT 18)),LM 20 19,LZ 20 21 (.mv (LT 6)),LZ 20 22 (.bin .gtr (LT 21) (LI 0)),LO 23 (.pick (LT 20) LG (LT 22))] (.cond (LT 23) .skip (.exit 0))) (.seq (.block 1 (LS [LM 26 0,LM 27 7,LO 28 (.call 225 [(LT 26),(LT 27)]),LM 29 1,LM 30 7,LO 31 (.call 225 [(LT 29),(LT 30)]),LO 32 (.bin .add (LT 28) (LT 31)),LM 33 6,LO 34 (.bin .add (LT 32) (LT 33)),LM 8 34] (LS [LM 35 5,LM 36 8,LO 37 (.bin .rem (LT 36) (LI 1000000000)),LO 38 (.lit [(.int .i64 0)] 1 [(0,(LT 37))]),LO 39 (.app 1 8 (LT 35) (LT 38)),LM 5 39] (.eT [LM 40 8,LO 41 (.bin .quo (LT 40) (LI 1000000000)),LM 6 41])))) (.eT [LM 24 7,LO 25 (.bin .add (LT 24) (LI 1)),LM 7 25])))
def Av:aF:=(LS [LO 4 (.mv (.const (.slice none 0 0)))] (LS [LO 9 (.lit [(.int .i64 0)] 0 []),LM 5 9] (LS [LO 6 (.mv (LI 0))] (.seq (LS [LO 7 (.mv (LI 0))] (.block 0 (.loop kR))) (LS [LM 42 5,LM 4 42] .ret)))))
def B6:aY:=⟨43,[(.tmp 4)],Av⟩
theorem GO:jE 177=some B6:=by kernel_rfl
def mN:aF:=(LS [LO 13 (.bin .lss (LT 12) (LT 11))] (.seq (.cond (LT 13) .skip (.exit 0)) (.seq (.block 1 (LS [LM 14 12,LM 7 14] (LS [LM 15 0,LM 16 7,LO 17 (.iaddr 1 (LT 15) (LT 16)),LO 18 (LL 17),LM 19 1,LM 20 7,LQ 21 (.call 225 [(LT 19),(LT 20)]),LO 22 (.bin .sub (LT 18) (LT 21)),LM 23 6,LO 24 (.bin .sub (LT 22) (LT 23)),LM 8 24] (LS [LO 6 (.mv (LI 0))] (.seq (LS [LM 25 8,LO 26 (.bin .lss (LT 25) (LI 0))] (.cond (LT 26) (LS [LM 27 8,LO 28 (.bin .add (LT 27) (LI 1000000000)),LM 8 28] (.eT [LO 6 (.mv (LI 1))])) .skip)) (.eT [LM 29 5,LM 30 8,LO 31 (.lit [(.int .i64 0)] 1 [(0,(LT 30))]),LO 32 (.app 1 8 (LT 29) (LT 31)),LM 5 32])))))) (.eT [LO 33 (.bin .add (LT 12) (LI 1)),LM 12 33]))))
def zF:aF:=(LS [LO 4 (.mv (.const (.slice none 0 0)))] (LS [LO 9 (.lit [(.int .i64 0)] 0 []),LM 5 9] (LS [LO 6 (.mv (LI 0))] (.seq (LS [LM 10 0,LO 11 (.len (LT 10)),LO 12 (.mv (LI 0))] (.block 0 (.loop mN))) (LS [LM 34 5,LO 35 (.call 211 [(LT 34)]),LM 4 35] .ret)))))
def BE:aY:=⟨36,[(.tmp 4)],zF⟩
theorem Fv:jE 179=some BE:=by kernel_rfl
def xT:aF:=(.seq (LS [LM 5 0,LO 6 (.bin .gtr (LT 5) (LI 0))] (.cond (LT 6) .skip (.exit 0))) (.block 1 (LS [LM 7 3,LM 8 0,LO 9 (.bin .rem (LT 8) (LI 1000000000)),LO 10 (.lit [(.int .i64 0)] 1 [(0,(LT 9))]),LO 11 (.app 1 8 (LT 7) (LT 10)),LM 3 11] (.eT [LM 12 0,LO 13 (.bin .quo (LT 12) (LI 1000000000)),LM 0 13]))))
def DW:aF:=(LS [LO 2 (.mv (.const (.slice none 0 0)))] (LS [LO 4 (.lit [(.int .i64 0)] 0 []),LM 3 4] (.seq (.block 0 (.loop xT)) (LS [LM 14 3,LM 2 14] .ret))))
def Ib:aY:=⟨15,[(.tmp 2)],DW⟩
theorem Le:jE 161=some Ib:=by kernel_rfl
def bD:aF:=(LS [LO 2 (.new [(.bool false),(.slice none 0 0),(.slice none 0 0)]),LO 3 (.mv LF)] (LS [LM 8 0,LO 9 (.slen (LT 8)),LO 10 (.bin .gtr (LT 9) (LI 0)),LM 11 10,LY 11 12 (.mv (LT 0)),LY 11 13 (.sidx (LT 12) (LI 0)),LY 11 14 (.bin .eql (LT 13) (.const (.int .u8 45))),LO 15 (.pick (LT 11) (LT 14) LF),LM 4 15] (.seq (LS [LM 16 4] (.cond (LT 16) (.eT [LM 17 0,LO 18 (.ssub (LT 17) (some (LI 1)) none),LM 0 18]) .skip)) (LS [LM 19 0,LO 20 (.call 222 [(LT 19),(.const (.int .u8 47))]),LM 5 20] (.seq (LS [LM 21 5,LO 22 (.len (LT 21)),LO 23 (.bin .gtr (LT 22) (LI 2)),LM 24 23,LZ 24 25 (.mv (LT 5)),LZ 24 26 (.iaddr 1 (LT 25) (LI 0)),LZ 24 27 (LL 26),LZ 24 28 (.call 223 [(LT 27)]),LZ 24 29 (.un .not (LT 28)),LO 30 (.pick (LT 24) LG (LT 29))] (.cond (LT 30) (LS [LO 31 (.build [(.bool false),(.slice none 0 0),(.slice none 0 0)] [(0,1),(1,1),(2,1)] []),LN (.store 3 (LT 2) (LT 31)),LO 3 (.mv LF)] .ret) .skip)) (LS [LM 32 5,LO 33 (.iaddr 1 (LT 32) (LI 0)),LO 34 (LL 33),LO 35 (.call 224 [(LT 34)]),LM 6 35] (.seq (LS [LM 36 4,LM 37 36,LY 37 38 (.mv (LT 6)),LY 37 39 (.len (LT 38)),LY 37 40 (.bin .eql (LT 39) (LI 0)),LO 41 (.pick (LT 37) (LT 40) LF)] (.cond (LT 41) (LS [LO 42 (.build [(.bool false),(.slice none 0 0),(.slice none 0 0)] [(0,1),(1,1),(2,1)] []),LN (.store 3 (LT 2) (LT 42)),LO 3 (.mv LF)] .ret) .skip)) (.seq (LS [LM 43 5,LO 44 (.len (LT 43)),LO 45 (.bin .eql (LT 44) (LI 1))] (.cond (LT 45) (LS [LM 46 4,LM 47 6,LO 48 (.lit [(.int .i64 0)] 1 [(0,(LI 1))]),LO 49 (.build [(.bool false),(.slice none 0 0),(.slice none 0 0)] [(0,1),(1,1),(2,1)] [(0,(LT 46)),(1,(LT 47)),(2,(LT 48))]),LN (.store 3 (LT 2) (LT 49)),LO 3 (.mv LG)] .ret) .skip)) (.seq (LS [LM 50 5,LO 51 (.iaddr 1 (LT 50) (LI 1)),LO 52 (LL 51),LO 53 (.call 223 [(LT 52)]),LO 54 (.un .not (LT 53))] (.cond (LT 54) (LS [LO 55 (.build [(.bool false),(.slice none 0 0),(.slice none 0 0)] [(0,1),(1,1),(2,1)] []),LN (.store 3 (LT 2) (LT 55)),LO 3 (.mv LF)] .ret) .skip)) (LS [LM 56 5,LO 57 (.iaddr 1 (LT 56) (LI 1)),LO 58 (LL 57),LO 59 (.call 224 [(LT 58)]),LM 7 59] (.seq (LS [LM 60 7,LO 61 (.lit [(.int .i64 0)] 1 [(0,(LI 1))]),LO 62 (.call 178 [(LT 60),(LT 61)]),LO 63 (.bin .leq (LT 62) (LI 0)),LM 64 63,LZ 64 65 (.mv (LT 6)),LZ 64 66 (.mv (LT 7)),LZ 64 67 (.call 213 [(LT 65),(LT 66)]),LZ 64 68 (.lit [(.int .i64 0)] 1 [(0,(LI 1))]),LZ 64 69 (.call 178 [(LT 67),(LT 68)]),LZ 64 70 (.bin .neq (LT 69) (LI 0)),LO 71 (.pick (LT 64) LG (LT 70))] (.cond (LT 71) (LS [LO 72 (.build [(.bool false),(.slice none 0 0),(.slice none 0 0)] [(0,1),(1,1),(2,1)] []),LN (.store 3 (LT 2) (LT 72)),LO 3 (.mv LF)] .ret) .skip)) (LS [LM 73 4,LM 74 6,LM 75 7,LO 76 (.build [(.bool false),(.slice none 0 0),(.slice none 0 0)] [(0,1),(1,1),(2,1)] [(0,(LT 73)),(1,(LT 74)),(2,(LT 75))]),LN (.store 3 (LT 2) (LT 76)),LO 3 (.mv LG)] .ret))))))))))))
def bR:aY:=⟨77,[(.cell 2 true 3),(.tmp 3)],bD⟩
theorem Ix:jE 175=some bR:=by kernel_rfl
def yQ:aF:=(.seq (LS [LM 7 1,LO 8 (.len (LT 7)),LO 9 (.bin .gtr (LT 8) (LI 0))] (.cond (LT 9) .skip (.exit 0))) (.block 1 (LS [LM 11 0,LM 12 1,LO 13 (.call 214 [(LT 11),(LT 12)]),LM 10 13,LO 14 (LX 10 0),LO 15 (LX 10 1),LM 5 14,LM 6 15] (LS [LM 16 1,LM 0 16] (.eT [LM 17 6,LM 1 17])))))
def DQ:aF:=(LS [LO 4 (.mv (.const (.slice none 0 0)))] (.seq (.block 0 (.loop yQ)) (LS [LM 18 0,LM 4 18] .ret)))
def HV:aY:=⟨19,[(.tmp 4)],DQ⟩
theorem Ld:jE 213=some HV:=by kernel_rfl
def gI:aF:=(.seq (LS [LM 132 19,LO 133 (.bin .geq (LT 132) (LI 1000000000)),LM 134 133,LZ 134 135 (.mv (LT 19)),LZ 134 136 (.mv (LT 14)),LZ 134 137 (.mv (LT 15)),LZ 134 138 (.bin .sub (LT 137) (LI 2)),LZ 134 139 (.iaddr 1 (LT 136) (LT 138)),LZ 134 140 (LL 139),LZ 134 141 (.bin .mul (LT 135) (LT 140)),LZ 134 142 (.mv (LT 20)),LZ 134 143 (.bin .mul (LT 142) (LI 1000000000)),LZ 134 144 (.mv (LT 13)),LZ 134 145 (.mv (LT 17)),LZ 134 146 (.mv (LT 15)),LZ 134 147 (.bin .add (LT 145) (LT 146)),LZ 134 148 (.bin .sub (LT 147) (LI 2)),LZ 134 149 (.iaddr 1 (LT 144) (LT 148)),LZ 134 150 (LL 149),LZ 134 151 (.bin .add (LT 143) (LT 150)),LZ 134 152 (.bin .gtr (LT 141) (LT 151)),LO 153 (.pick (LT 134) LG (LT 152))] (.cond (LT 153) .skip (.exit 2))) (.block 3 (LS [LM 154 19,LO 155 (.bin .sub (LT 154) (LI 1)),LM 19 155] (LS [LM 156 20,LM 157 14,LM 158 15,LO 159 (.bin .sub (LT 158) (LI 1)),LO 160 (.iaddr 1 (LT 157) (LT 159)),LO 161 (LL 160),LO 162 (.bin .add (LT 156) (LT 161)),LM 20 162] (LS [LM 163 20,LO 164 (.bin .geq (LT 163) (LI 1000000000))] (.cond (LT 164) (.exit 2) .skip))))))
def iO:aF:=(.seq (LS [LM 99 17,LO 100 (.bin .geq (LT 99) (LI 0))] (.cond (LT 100) .skip (.exit 0))) (.seq (.block 1 (LS [LM 103 13,LM 104 17,LM 105 15,LO 106 (.bin .add (LT 104) (LT 105)),LO 107 (.iaddr 1 (LT 103) (LT 106)),LO 108 (LL 107),LO 109 (.bin .mul (LT 108) (LI 1000000000)),LM 110 13,LM 111 17,LM 112 15,LO 113 (.bin .add (LT 111) (LT 112)),LO 114 (.bin .sub (LT 113) (LI 1)),LO 115 (.iaddr 1 (LT 110) (LT 114)),LO 116 (LL 115),LO 117 (.bin .add (LT 109) (LT 116)),LM 18 117] (LS [LM 118 18,LM 119 14,LM 120 15,LO 121 (.bin .sub (LT 120) (LI 1)),LO 122 (.iaddr 1 (LT 119) (LT 121)),LO 123 (LL 122),LO 124 (.bin .quo (LT 118) (LT 123)),LM 125 18,LM 126 14,LM 127 15,LO 128 (.bin .sub (LT 127) (LI 1)),LO 129 (.iaddr 1 (LT 126) (LT 128)),LO 130 (LL 129),LO 131 (.bin .rem (LT 125) (LT 130)),LM 19 124,LM 20 131] (.seq (.block 2 (.loop gI)) (.seq (LS [LM 165 13,LM 166 14,LM 167 17,LM 168 19,LO 169 (.call 239 [(LT 165),(LT 166),(LT 167),(LT 168)])] (.cond (LT 169) (LS [LM 170 19,LO 171 (.bin .sub (LT 170) (LI 1)),LM 19 171] (.eT [LM 172 13,LM 173 14,LM 174 17,LO 175 (.call 240 [(LT 172),(LT 173),(LT 174)])])) .skip)) (.eT [LM 176 16,LM 177 17,LM 178 19,LO 179 (.iaddr 1 (LT 176) (LT 177)),LN (.store 1 (LT 179) (LT 178))])))))) (.eT [LM 101 17,LO 102 (.bin .sub (LT 101) (LI 1)),LM 17 102])))
def dF:aF:=(LS [LO 4 (.mv (.const (.slice none 0 0))),LO 5 (.mv (.const (.slice none 0 0)))] (LS [LM 24 0,LO 25 (.call 236 [(LT 24)]),LM 23 25,LO 26 (LX 23 0),LO 27 (LX 23 1),LM 6 26,LM 7 27] (LS [LM 29 1,LO 30 (.call 236 [(LT 29)]),LM 28 30,LO 31 (LX 28 0),LO 32 (LX 28 1),LM 8 31,LM 9 32] (.seq (LS [LM 33 7,LM 34 33,LY 34 35 (.mv (LT 9)),LO 36 (.pick (LT 34) (LT 35) LF)] (.cond (LT 36) (LS [LM 37 6,LM 38 8,LO 39 (.bin .quo (LT 37) (LT 38)),LQ 40 (.call 161 [(LT 39)]),LM 41 6,LM 42 8,LO 43 (.bin .rem (LT 41) (LT 42)),LQ 44 (.call 161 [(LT 43)]),LM 4 40,LM 5 44] .ret) .skip)) (.seq (LS [LM 45 0,LM 46 1,LO 47 (.call 178 [(LT 45),(LT 46)]),LO 48 (.bin .lss (LT 47) (LI 0))] (.cond (LT 48) (LS [LO 49 (.lit [(.int .i64 0)] 0 []),LO 50 (.lit [(.int .i64 0)] 0 []),LM 51 0,LO 52 (.app 1 8 (LT 50) (LT 51)),LM 4 49,LM 5 52] .ret) .skip)) (.seq (LS [LM 53 1,LO 54 (.len (LT 53)),LO 55 (.bin .eql (LT 54) (LI 1))] (.cond (LT 55) (LS [LM 57 0,LM 58 1,LO 59 (.iaddr 1 (LT 58) (LI 0)),LO 60 (LL 59),LO 61 (.call 237 [(LT 57),(LT 60)]),LM 56 61,LO 62 (LX 56 0),LO 63 (LX 56 1),LM 10 62,LM 11 63] (LS [LM 64 10,LM 65 11,LO 66 (.call 161 [(LT 65)]),LM 4 64,LM 5 66] .ret)) .skip)) (LS [LM 67 1,LM 68 1,LO 69 (.len (LT 68)),LO 70 (.bin .sub (LT 69) (LI 1)),LO 71 (.iaddr 1 (LT 67) (LT 70)),LO 72 (LL 71),LO 73 (.bin .add (LT 72) (LI 1)),LO 74 (.bin .quo (LI 1000000000) (LT 73)),LM 12 74] (LS [LM 75 0,LO 76 (.len (LT 75)),LO 77 (.bin .add (LT 76) (LI 1)),LO 78 (.make [(.int .i64 0)] 8 (LT 77) (LT 77)),LM 13 78] (LS [LM 79 13,LM 80 0,LM 81 12,LO 82 (.call 238 [(LT 80),(LT 81)]),LO 83 (.copy 1 (LT 79) (LT 82))] (LS [LM 84 1,LM 85 12,LO 86 (.call 238 [(LT 84),(LT 85)]),LM 14 86] (LS [LM 87 14,LO 88 (.len (LT 87)),LM 15 88] (LS [LM 89 13,LO 90 (.len (LT 89)),LM 91 15,LO 92 (.bin .sub (LT 90) (LT 91)),LO 93 (.make [(.int .i64 0)] 8 (LT 92) (LT 92)),LM 16 93] (.seq (LS [LM 94 13,LO 95 (.len (LT 94)),LM 96 15,LO 97 (.bin .sub (LT 95) (LT 96)),LO 98 (.bin .sub (LT 97) (LI 1)),LM 17 98] (.block 0 (.loop iO))) (LS [LM 181 13,LO 182 (.call 211 [(LT 181)]),LM 183 12,LO 184 (.call 237 [(LT 182),(LT 183)]),LM 180 184,LO 185 (LX 180 0),LO 186 (LX 180 1),LM 21 185,LM 22 186] (LS [LM 187 16,LO 188 (.call 211 [(LT 187)]),LM 189 21,LM 4 188,LM 5 189] .ret)))))))))))))))
def eZ:aY:=⟨190,[(.tmp 4),(.tmp 5)],dF⟩
theorem GF:jE 214=some eZ:=by kernel_rfl
def qK:aF:=(.seq (LS [LM 3 0,LO 4 (.len (LT 3)),LO 5 (.bin .gtr (LT 4) (LI 0)),LM 6 5,LY 6 7 (.mv (LT 0)),LY 6 8 (.mv (LT 0)),LY 6 9 (.len (LT 8)),LY 6 10 (.bin .sub (LT 9) (LI 1)),LY 6 11 (.iaddr 1 (LT 7) (LT 10)),LY 6 12 (LL 11),LY 6 13 (.bin .eql (LT 12) (LI 0)),LO 14 (.pick (LT 6) (LT 13) LF)] (.cond (LT 14) .skip (.exit 0))) (.block 1 (.eT [LM 15 0,LM 16 0,LO 17 (.len (LT 16)),LO 18 (.bin .sub (LT 17) (LI 1)),LO 19 (.sub 1 (LT 15) none (some (LT 18)) none),LM 0 19])))
def Ch:aF:=(LS [LO 2 (.mv (.const (.slice none 0 0)))] (.seq (.block 0 (.loop qK)) (LS [LM 20 0,LM 2 20] .ret)))
def E2:aY:=⟨21,[(.tmp 2)],Ch⟩
theorem KH:jE 211=some E2:=by kernel_rfl
def vF:aF:=(LS [LO 4 (.mv (LI 0))] (.seq (LS [LM 5 1,LM 6 0,LO 7 (.len (LT 6)),LO 8 (.bin .lss (LT 5) (LT 7))] (.cond (LT 8) (LS [LM 9 0,LM 10 1,LO 11 (.iaddr 1 (LT 9) (LT 10)),LO 12 (LL 11),LM 4 12] .ret) .skip)) (LS [LO 4 (.mv (LI 0))] .ret)))
def zX:aY:=⟨13,[(.tmp 4)],vF⟩
theorem Ig:jE 225=some zX:=by kernel_rfl
def oM:aF:=(.seq (LS [LM 9 7,LM 10 0,LO 11 (.slen (LT 10)),LO 12 (.bin .leq (LT 9) (LT 11))] (.cond (LT 12) .skip (.exit 0))) (.seq (.block 1 (LS [LM 15 7,LM 16 0,LO 17 (.slen (LT 16)),LO 18 (.bin .eql (LT 15) (LT 17)),LM 19 18,LZ 19 20 (.mv (LT 0)),LZ 19 21 (.mv (LT 7)),LZ 19 22 (.sidx (LT 20) (LT 21)),LZ 19 23 (.mv (LT 1)),LZ 19 24 (.bin .eql (LT 22) (LT 23)),LO 25 (.pick (LT 19) LG (LT 24))] (.cond (LT 25) (LS [LM 26 5,LM 27 0,LM 28 6,LM 29 7,LO 30 (.ssub (LT 27) (some (LT 28)) (some (LT 29))),LO 31 (.lit [(.string ⟨#[]⟩)] 1 [(0,(LT 30))]),LO 32 (.app 1 16 (LT 26) (LT 31)),LM 5 32] (.eT [LM 33 7,LO 34 (.bin .add (LT 33) (LI 1)),LM 6 34])) .skip))) (.eT [LM 13 7,LO 14 (.bin .add (LT 13) (LI 1)),LM 7 14])))
def D2:aF:=(LS [LO 4 (.mv (.const (.slice none 0 0)))] (LS [LO 8 (.lit [(.string ⟨#[]⟩)] 0 []),LM 5 8] (LS [LO 6 (.mv (LI 0))] (.seq (LS [LO 7 (.mv (LI 0))] (.block 0 (.loop oM))) (LS [LM 35 5,LM 4 35] .ret)))))
def HD:aY:=⟨36,[(.tmp 4)],D2⟩
theorem K6:jE 222=some HD:=by kernel_rfl
def dJ:aF:=(.seq (LS [LM 4 3,LM 5 0,LO 6 (.slen (LT 5)),LO 7 (.bin .lss (LT 4) (LT 6))] (.cond (LT 7) .skip (.exit 0))) (.seq (.block 1 (LS [LM 10 0,LM 11 3,LO 12 (.sidx (LT 10) (LT 11)),LO 13 (.bin .lss (LT 12) (.const (.int .u8 48))),LM 14 13,LZ 14 15 (.mv (LT 0)),LZ 14 16 (.mv (LT 3)),LZ 14 17 (.sidx (LT 15) (LT 16)),LZ 14 18 (.bin .gtr (LT 17) (.const (.int .u8 57))),LO 19 (.pick (LT 14) LG (LT 18))] (.cond (LT 19) (LS [LO 2 (.mv LF)] .ret) .skip))) (.eT [LM 8 3,LO 9 (.bin .add (LT 8) (LI 1)),LM 3 9])))
def Aq:aF:=(LS [LO 2 (.mv LF)] (.seq (LS [LO 3 (.mv (LI 0))] (.block 0 (.loop dJ))) (LS [LM 20 0,LO 21 (.slen (LT 20)),LO 22 (.bin .geq (LT 21) (LI 1)),LM 23 22,LY 23 24 (.mv (LT 0)),LY 23 25 (.slen (LT 24)),LY 23 26 (.bin .leq (LT 25) (LI 200)),LO 27 (.pick (LT 23) (LT 26) LF),LM 28 27,LY 28 29 (.mv (LT 0)),LY 28 30 (.slen (LT 29)),LY 28 31 (.bin .eql (LT 30) (LI 1)),LY 28 32 (.mv (LT 31)),LZ 32 33 (.mv (LT 0)),LZ 32 34 (.sidx (LT 33) (LI 0)),LZ 32 35 (.bin .neq (LT 34) (.const (.int .u8 48))),LY 28 36 (.pick (LT 32) LG (LT 35)),LO 37 (.pick (LT 28) (LT 36) LF),LM 2 37] .ret)))
def Cb:aY:=⟨38,[(.tmp 2)],Aq⟩
theorem Hb:jE 223=some Cb:=by kernel_rfl
def mG:aF:=(.seq (LS [LM 20 7,LM 21 4,LO 22 (.bin .lss (LT 20) (LT 21))] (.cond (LT 22) .skip (.exit 2))) (.seq (.block 3 (.eT [LM 25 6,LO 26 (.bin .mul (LI 10) (LT 25)),LM 27 0,LM 28 7,LO 29 (.sidx (LT 27) (LT 28)),LO 30 (.bin .sub (LT 29) (.const (.int .u8 48))),LO 31 (.cvt .i64 (LT 30)),LO 32 (.bin .add (LT 26) (LT 31)),LM 6 32])) (.eT [LM 23 7,LO 24 (.bin .add (LT 23) (LI 1)),LM 7 24])))
def mC:aF:=(.seq (LS [LM 11 4,LO 12 (.bin .gtr (LT 11) (LI 0))] (.cond (LT 12) .skip (.exit 0))) (.seq (.block 1 (LS [LO 5 (.mv (LI 0))] (.seq (LS [LM 15 4,LO 16 (.bin .gtr (LT 15) (LI 9))] (.cond (LT 16) (.eT [LM 17 4,LO 18 (.bin .sub (LT 17) (LI 9)),LM 5 18]) .skip)) (LS [LO 6 (.mv (LI 0))] (.seq (LS [LM 19 5,LM 7 19] (.block 2 (.loop mG))) (.eT [LM 33 3,LM 34 6,LO 35 (.lit [(.int .i64 0)] 1 [(0,(LT 34))]),LO 36 (.app 1 8 (LT 33) (LT 35)),LM 3 36])))))) (.eT [LM 13 4,LO 14 (.bin .sub (LT 13) (LI 9)),LM 4 14])))
def zO:aF:=(LS [LO 2 (.mv (.const (.slice none 0 0)))] (LS [LO 8 (.lit [(.int .i64 0)] 0 []),LM 3 8] (.seq (LS [LM 9 0,LO 10 (.slen (LT 9)),LM 4 10] (.block 0 (.loop mC))) (LS [LM 37 3,LO 38 (.call 211 [(LT 37)]),LM 2 38] .ret))))
def BH:aY:=⟨39,[(.tmp 2)],zO⟩
theorem FJ:jE 224=some BH:=by kernel_rfl
def vL:aF:=(LS [LO 2 (.mv (LI 0)),LO 3 (.mv LF)] (.seq (LS [LM 4 0,LO 5 (.len (LT 4)),LO 6 (.bin .gtr (LT 5) (LI 2))] (.cond (LT 6) (LS [LO 2 (.mv (LI 0)),LO 3 (.mv LF)] .ret) .skip)) (LS [LM 7 0,LO 8 (.call 225 [(LT 7),(LI 0)]),LM 9 0,LO 10 (.call 225 [(LT 9),(LI 1)]),LO 11 (.bin .mul (LI 1000000000) (LT 10)),LO 12 (.bin .add (LT 8) (LT 11)),LM 2 12,LO 3 (.mv LG)] .ret)))
def zZ:aY:=⟨13,[(.tmp 2),(.tmp 3)],vL⟩
theorem IC:jE 236=some zZ:=by kernel_rfl
def pY:aF:=(.seq (LS [LM 16 8,LO 17 (.bin .geq (LT 16) (LI 0))] (.cond (LT 17) .skip (.exit 0))) (.seq (.block 1 (LS [LM 20 7,LO 21 (.bin .mul (LT 20) (LI 1000000000)),LM 22 0,LM 23 8,LO 24 (.iaddr 1 (LT 22) (LT 23)),LO 25 (LL 24),LO 26 (.bin .add (LT 21) (LT 25)),LM 9 26] (LS [LM 27 6,LM 28 8,LM 29 9,LM 30 1,LO 31 (.bin .quo (LT 29) (LT 30)),LO 32 (.iaddr 1 (LT 27) (LT 28)),LN (.store 1 (LT 32) (LT 31))] (.eT [LM 33 9,LM 34 1,LO 35 (.bin .rem (LT 33) (LT 34)),LM 7 35])))) (.eT [LM 18 8,LO 19 (.bin .sub (LT 18) (LI 1)),LM 8 19])))
def xA:aF:=(LS [LO 4 (.mv (.const (.slice none 0 0))),LO 5 (.mv (LI 0))] (LS [LM 10 0,LO 11 (.len (LT 10)),LO 12 (.make [(.int .i64 0)] 8 (LT 11) (LT 11)),LM 6 12] (LS [LO 7 (.mv (LI 0))] (.seq (LS [LM 13 0,LO 14 (.len (LT 13)),LO 15 (.bin .sub (LT 14) (LI 1)),LM 8 15] (.block 0 (.loop pY))) (LS [LM 36 6,LO 37 (.call 211 [(LT 36)]),LM 38 7,LM 4 37,LM 5 38] .ret)))))
def Ap:aY:=⟨39,[(.tmp 4),(.tmp 5)],xA⟩
theorem EF:jE 237=some Ap:=by kernel_rfl
def lC:aF:=(LS [LO 17 (.bin .lss (LT 16) (LT 15))] (.seq (.cond (LT 17) .skip (.exit 0)) (.seq (.block 1 (LS [LO 18 (.iaddr 1 (LT 14) (LT 16)),LO 19 (LL 18),LM 8 19] (LS [LM 20 8,LM 21 1,LO 22 (.bin .mul (LT 20) (LT 21)),LM 23 6,LO 24 (.bin .add (LT 22) (LT 23)),LM 9 24] (LS [LM 25 5,LM 26 9,LO 27 (.bin .rem (LT 26) (LI 1000000000)),LO 28 (.lit [(.int .i64 0)] 1 [(0,(LT 27))]),LO 29 (.app 1 8 (LT 25) (LT 28)),LM 5 29] (.eT [LM 30 9,LO 31 (.bin .quo (LT 30) (LI 1000000000)),LM 6 31]))))) (.eT [LO 32 (.bin .add (LT 16) (LI 1)),LM 16 32]))))
def yN:aF:=(LS [LO 4 (.mv (.const (.slice none 0 0)))] (LS [LM 10 0,LO 11 (.len (LT 10)),LO 12 (.bin .add (LT 11) (LI 1)),LO 13 (.make [(.int .i64 0)] 8 (LI 0) (LT 12)),LM 5 13] (LS [LO 6 (.mv (LI 0))] (.seq (LS [LM 14 0,LO 15 (.len (LT 14)),LO 16 (.mv (LI 0))] (.block 0 (.loop lC))) (.seq (LS [LM 33 6,LO 34 (.bin .gtr (LT 33) (LI 0))] (.cond (LT 34) (.eT [LM 35 5,LM 36 6,LO 37 (.lit [(.int .i64 0)] 1 [(0,(LT 36))]),LO 38 (.app 1 8 (LT 35) (LT 37)),LM 5 38]) .skip)) (LS [LM 39 5,LM 4 39] .ret))))))
def AH:aY:=⟨40,[(.tmp 4)],yN⟩
theorem Ey:jE 238=some AH:=by kernel_rfl
def jX:aF:=(LS [LO 16 (.bin .lss (LT 15) (LT 14))] (.seq (.cond (LT 16) .skip (.exit 0)) (.seq (.block 1 (LS [LM 17 15,LO 18 (.iaddr 1 (LT 13) (LT 15)),LO 19 (LL 18),LM 10 17,LM 11 19] (LS [LM 20 0,LM 21 2,LM 22 10,LO 23 (.bin .add (LT 21) (LT 22)),LO 24 (.iaddr 1 (LT 20) (LT 23)),LO 25 (LL 24),LM 26 11,LM 27 3,LO 28 (.bin .mul (LT 26) (LT 27)),LO 29 (.bin .rem (LT 28) (LI 1000000000)),LO 30 (.bin .sub (LT 25) (LT 29)),LM 31 9,LO 32 (.bin .sub (LT 30) (LT 31)),LM 12 32] (LS [LM 33 11,LM 34 3,LO 35 (.bin .mul (LT 33) (LT 34)),LO 36 (.bin .quo (LT 35) (LI 1000000000)),LM 9 36] (.seq (LS [LM 37 12,LO 38 (.bin .lss (LT 37) (LI 0))] (.cond (LT 38) (LS [LM 39 12,LO 40 (.bin .add (LT 39) (LI 1000000000)),LM 12 40] (LS [LM 41 9,LO 42 (.bin .add (LT 41) (LI 1)),LM 9 42] (LS [LM 43 12,LO 44 (.bin .lss (LT 43) (LI 0))] (.cond (LT 44) (LS [LM 45 12,LO 46 (.bin .add (LT 45) (LI 1000000000)),LM 12 46] (.eT [LM 47 9,LO 48 (.bin .add (LT 47) (LI 1)),LM 9 48])) .skip)))) .skip)) (.eT [LM 49 0,LM 50 2,LM 51 10,LO 52 (.bin .add (LT 50) (LT 51)),LM 53 12,LO 54 (.iaddr 1 (LT 49) (LT 52)),LN (.store 1 (LT 54) (LT 53))])))))) (.eT [LO 55 (.bin .add (LT 15) (LI 1)),LM 15 55]))))
def zS:aF:=(LS [LO 8 (.mv LF)] (LS [LO 9 (.mv (LI 0))] (.seq (LS [LM 13 1,LO 14 (.len (LT 13)),LO 15 (.mv (LI 0))] (.block 0 (.loop jX))) (LS [LM 56 0,LM 57 2,LM 58 1,LO 59 (.len (LT 58)),LO 60 (.bin .add (LT 57) (LT 59)),LO 61 (.iaddr 1 (LT 56) (LT 60)),LO 62 (LL 61),LM 63 9,LO 64 (.bin .sub (LT 62) (LT 63)),LO 65 (.iaddr 1 (LT 56) (LT 60)),LN (.store 1 (LT 65) (LT 64))] (LS [LM 66 0,LM 67 2,LM 68 1,LO 69 (.len (LT 68)),LO 70 (.bin .add (LT 67) (LT 69)),LO 71 (.iaddr 1 (LT 66) (LT 70)),LO 72 (LL 71),LO 73 (.bin .lss (LT 72) (LI 0)),LM 8 73] .ret)))))
def BR:aY:=⟨74,[(.tmp 8)],zS⟩
theorem Fm:jE 239=some BR:=by kernel_rfl
def qV:aF:=(LS [LO 13 (.bin .lss (LT 12) (LT 11))] (.seq (.cond (LT 13) .skip (.exit 0)) (.seq (.block 1 (LS [LM 14 12,LO 15 (.iaddr 1 (LT 10) (LT 12)),LO 16 (LL 15),LM 7 14,LM 8 16] (LS [LM 17 0,LM 18 2,LM 19 7,LO 20 (.bin .add (LT 18) (LT 19)),LO 21 (.iaddr 1 (LT 17) (LT 20)),LO 22 (LL 21),LM 23 8,LO 24 (.bin .add (LT 22) (LT 23)),LM 25 6,LO 26 (.bin .add (LT 24) (LT 25)),LM 9 26] (LS [LM 27 9,LO 28 (.bin .quo (LT 27) (LI 1000000000)),LM 6 28] (.eT [LM 29 0,LM 30 2,LM 31 7,LO 32 (.bin .add (LT 30) (LT 31)),LM 33 9,LO 34 (.bin .rem (LT 33) (LI 1000000000)),LO 35 (.iaddr 1 (LT 29) (LT 32)),LN (.store 1 (LT 35) (LT 34))]))))) (.eT [LO 36 (.bin .add (LT 12) (LI 1)),LM 12 36]))))
def yZ:aF:=(LS [LO 6 (.mv (LI 0))] (.seq (LS [LM 10 1,LO 11 (.len (LT 10)),LO 12 (.mv (LI 0))] (.block 0 (.loop qV))) (.eT [LM 37 0,LM 38 2,LM 39 1,LO 40 (.len (LT 39)),LO 41 (.bin .add (LT 38) (LT 40)),LO 42 (.iaddr 1 (LT 37) (LT 41)),LO 43 (LL 42),LM 44 6,LO 45 (.bin .add (LT 43) (LT 44)),LO 46 (.iaddr 1 (LT 37) (LT 41)),LN (.store 1 (LT 46) (LT 45))])))
def BI:aY:=⟨47,[],yZ⟩
theorem FZ:jE 240=some BI:=by kernel_rfl
end Go.PM
namespace Go.PM
open Go.Lib
end Go.PM
namespace Go.PM
abbrev cN (l:List UInt8):VV := .sc (.string ⟨l.toArray⟩)
theorem VT.Cx {f:Nat} {p:List Value→aE→Option Value} {args:List VV} {r:VV} (hp:HM f=some p) (h:∀(V:View) (dN:List Value),VL V args dN→∃pv,p dN V.P=some pv∧∀V',VR V' r pv):VT f args r:=by
 intro F P dN dO hF hl aaE
 obtain⟨pv,h1,h2⟩:=h (bare F P) dN hl
 have e:qY f dN dO P=some (pv,P):=by
  show call cfg jE f dN dO P=some (pv,P)
  rw[Ub (E:=cfg) (T:=jE) hp]
  have Vk:p dN P=some pv:=h1
  rw[Vk]
  rfl
 exact⟨P,pv,e,List.prefix_refl _,h2 _⟩
theorem TC.Cx {f:Nat} {p:List Value→aE→Option Value} {args:List VV} {r:VV} (hp:HM f=some p) (hr:Ez.contains f=false) (ha:aN args=true) (Sb:gK r=true) (h:∀(V:View) (dN:List Value),VL V args dN→∃pv,p dN V.P=some pv∧∀V',VR V' r pv):TC f args r :=
 TC.of hr ha (abU ha Sb (VT.Cx hp h))
theorem VL.one {V:View} {x:Value} {ps:List Value} (h:VL V [.sc x] ps):ps=[x]:=by
 cases h with
 |
  cons _ v _ vs h hs =>
  cases h
  cases hs
  rfl
theorem VL.two {V:View} {x y:Value} {ps:List Value} (h:VL V [.sc x,.sc y] ps):ps=[x,y]:=by
 cases h with
 |
  cons _ v _ vs h hs =>
  cases h
  rw[hs.one]
theorem VL.three {V:View} {x y z:Value} {ps:List Value} (h:VL V [.sc x,.sc y,.sc z] ps):ps=[x,y,z]:=by
 cases h with
 |
  cons _ v _ vs h hs =>
  cases h
  rw[hs.two]
theorem UG (x:Nat) (h:x<4294967296):TC 219 [.sc (.int .u32 (x:Int))] (VI (32-(Lib.bitLen x:Int))):=by
 refine TC.Cx (p:=CX) rfl rfl rfl rfl fun V ps hl => ?_
 rw[hl.one]
 unfold CX
 simp only
 rw[if_pos ⟨by omega,by omega⟩,Int.toNat_natCast]
 exact⟨_,rfl,fun _ => .sc _ rfl⟩
theorem abD (s:List UInt8) (c:UInt8):TC 241 [cN s,cN [c]] (VI (Lib.indexByte s c)):=by
 refine TC.Cx (p:=Nh) rfl rfl rfl rfl fun V ps hl => ?_
 rw[hl.two]
 exact⟨_,rfl,fun _ => .sc _ rfl⟩
theorem aaT (s:List UInt8) (u:Nat) (hs:s.length≤9223372036854775806) (h:Lib.parseUintB 64 s = .ok u):TC 217 [cN s,VI 10,VI 64] (.eG [.sc (.int .u64 (u:Int)),.sc .nilIface]):=by
 refine TC.Cx (p:=xP) rfl rfl rfl rfl fun V ps hl => ?_
 rw[hl.three]
 unfold xP
 simp only
 rw[if_pos ⟨trivial,trivial,hs⟩]
 have h':Lib.parseUintB 64 (⟨s.toArray⟩:ByteArray).data.toList = .ok u:=h
 rw[h']
 refine⟨_,rfl,fun V' => ?_⟩
 exact .eG _ _ (.cons _ _ _ _ (.sc _ rfl) (.cons _ _ _ _ (.sc _ rfl) .nil))
end Go.PM
namespace Go.PM
section
variable {b:Nat}
theorem MO {α:Type} {pre iF post:List α} {o j:Nat} (ho:pre.length=o) (hj:j<iF.length):(pre++iF++post)[o+j]? = iF[j]? := by
 subst ho
 rw[List.append_assoc,List.getElem?_append_right (by omega),Nat.add_sub_cancel_left,List.getElem?_append_left hj]
theorem SA {α:Type} {pre iF post:List α} {o j:Nat} {v:α} (ho:pre.length=o) (hj:j<iF.length):(pre++iF++post).set (o+j) v=pre++iF.set j v++post:=by
 subst ho
 rw[List.append_assoc,List.set_append_right _ _ (by omega),Nat.add_sub_cancel_left,List.set_append_left _ _ hj,List.append_assoc]
theorem K5 {xs:List Nat} {i d:Nat} (h:i<xs.length):(xs.set i d).drop (i+1)=xs.drop (i+1):=by
 rw[List.set_eq_take_append_cons_drop,if_pos h,List.drop_append]
 simp[Nat.min_eq_left (by omega:i≤xs.length)]
theorem WG {U V W P V2 U3 g:Nat} (hV:V<(V2+1)*P) (hU:U3*P≤U) (hWP:W*P≤V) (hg:g≤W) (h:g*V2≤U3):g*V≤U+V:=by
 have h1:g*V≤g*((V2+1)*P):=Nat.mul_le_mul_left _ (by omega)
 have h2:g*((V2+1)*P)=g*V2*P+g*P:=by grind
 have h3:g*V2*P≤U3*P:=Nat.mul_le_mul_right _ h
 have h4:g*P≤W*P:=Nat.mul_le_mul_right _ hg
 omega
theorem W6 {U V P V2 U3 g q:Nat} (hP:0<P) (hV:V2*P≤V) (hU:U<(U3+1)*P) (hq:q*V≤U) (h:U3<g*V2):q<g:=by
 have h1:q*(V2*P)≤q*V:=Nat.mul_le_mul_left _ hV
 have h2:q*V2*P<(U3+1)*P:=by
  have:q*V2*P=q*(V2*P):=by grind
  omega
 have h3:q*V2<U3+1:=Nat.lt_of_mul_lt_mul_right h2
 have h4:q*V2<g*V2:=by omega
 exact Nat.lt_of_mul_lt_mul_right h4
theorem yY {xs:List Nat} {n t:Nat} (hx:∀d∈xs,d<b) (hn:xs.length=n+1) (ht:xs[n]? = some t):t*b^n≤val b xs∧val b xs<(t+1)*b^n:=by
 have h1:=aT (b:=b) ht
 rw[List.take_of_length_le (by omega)] at h1
 have h2:=oE (b:=b) (xs:=xs.take n) fun d hd=>hx d (List.mem_of_mem_take hd)
 rw[List.length_take,Nat.min_eq_left (by omega)] at h2
 rw[Nat.add_mul,Nat.mul_comm t]
 omega
theorem Cg {xs:List Nat} {n t u:Nat} (hx:∀d∈xs,d<b) (hn:xs.length=n+2) (ht:xs[n+1]? = some t) (hu:xs[n]? = some u):(t*b+u)*b^n≤val b xs∧val b xs<(t*b+u+1)*b^n:=by
 have h1:=aT (b:=b) ht
 rw[List.take_of_length_le (by omega),aT hu] at h1
 have h2:=oE (b:=b) (xs:=xs.take n) fun d hd=>hx d (List.mem_of_mem_take hd)
 rw[List.length_take,Nat.min_eq_left (by omega)] at h2
 have e:(t*b+u)*b^n=b^n*u+b^(n+1)*t:=by rw[Nat.pow_succ];grind
 rw[Nat.add_mul (t*b+u),e]
 omega
theorem QK {xs:List Nat} {n t u v:Nat} (hx:∀d∈xs,d<b) (hn:xs.length=n+3) (ht:xs[n+2]? = some t) (hu:xs[n+1]? = some u) (hv:xs[n]? = some v):((t*b+u)*b+v)*b^n≤val b xs∧val b xs<((t*b+u)*b+v+1)*b^n:=by
 have h1:=aT (b:=b) ht
 rw[List.take_of_length_le (by omega),aT hu,aT hv] at h1
 have h2:=oE (b:=b) (xs:=xs.take n) fun d hd=>hx d (List.mem_of_mem_take hd)
 rw[List.length_take,Nat.min_eq_left (by omega)] at h2
 have e:((t*b+u)*b+v)*b^n=b^n*v+b^(n+1)*u+b^(n+2)*t:=by rw[Nat.pow_succ,Nat.pow_succ];grind
 rw[Nat.add_mul ((t*b+u)*b+v),e]
 omega
structure vO (b:Nat) (us vs:List Nat) (n u2 u1 u0 v1 v0:Nat):Prop where
 hb:2≤b
 Lx:∀d∈us,d<b
 Mi:∀d∈vs,d<b
 Sh:us.length=n+3
 IZ:vs.length=n+2
 e2:us[n+2]? = some u2
 e1:us[n+1]? = some u1
 e0:us[n]? = some u0
 f1:vs[n+1]? = some v1
 f0:vs[n]? = some v0
 pos:1≤v1
 less:val b us<b*val b vs
section
variable {us vs:List Nat} {n u2 u1 u0 v1 v0:Nat} (G:vO b us vs n u2 u1 u0 v1 v0)
include G
theorem vO.Hp:0<val b vs:=by
 have h:=(Cg G.Mi G.IZ G.f1 G.f0).1
 have h1:0<(v1*b+v0)*b^n:=Nat.mul_pos (by have:=Nat.mul_pos G.pos (show 0<b by have:=G.hb;omega);omega) (Nat.pow_pos (by have:=G.hb;omega))
 omega
theorem vO.abE:u2<b:=G.Lx _ (List.mem_of_getElem? G.e2)
theorem vO.Xt:u1<b:=G.Lx _ (List.mem_of_getElem? G.e1)
theorem vO.acE:u0<b:=G.Lx _ (List.mem_of_getElem? G.e0)
theorem vO.S3:v1<b:=G.Mi _ (List.mem_of_getElem? G.f1)
theorem vO.W1:v0<b:=G.Mi _ (List.mem_of_getElem? G.f0)
theorem vO.Z8:val b us / val b vs<b:=(Nat.div_lt_iff_lt_mul G.Hp).2 G.less
theorem vO.top:u2≤v1:=by
 have h1:=(yY (n:=n+2) G.Lx G.Sh G.e2).1
 have h2:=(yY (n:=n+1) G.Mi G.IZ G.f1).2
 have h3:b*val b vs<b*((v1+1)*b^(n+1)):=Nat.mul_lt_mul_of_pos_left h2 (by have:=G.hb;omega)
 have h4:b*((v1+1)*b^(n+1))=(v1+1)*b^(n+2):=by rw[Nat.pow_succ b (n+1)];grind
 have h5:=G.less
 have h6:u2*b^(n+2)<(v1+1)*b^(n+2):=by omega
 have:=Nat.lt_of_mul_lt_mul_right h6
 omega
theorem vO.too {g left:Nat} (hh:u2*b+u1=g*v1+left) (h:left*b+u0<g*v0):val b us / val b vs<g:=by
 have hu:=(QK G.Lx G.Sh G.e2 G.e1 G.e0).2
 have hv:=(Cg G.Mi G.IZ G.f1 G.f0).1
 refine W6 (P:=b^n) (V2:=v1*b+v0) (U3:=(u2*b+u1)*b+u0) (Nat.pow_pos (by have:=G.hb;omega)) hv hu (Nat.div_mul_le_self _ _) ?_
 rw[hh]
 have:(g*v1+left)*b+u0=g*v1*b+(left*b+u0):=by grind
 have:g*(v1*b+v0)=g*v1*b+g*v0:=by grind
 omega
theorem vO.T3 {g left:Nat} (hh:u2*b+u1=g*v1+left) (hg:g≤b) (h:g*v0≤left*b+u0):g≤val b us / val b vs+1:=by
 have hu:=(QK G.Lx G.Sh G.e2 G.e1 G.e0).1
 have hv:=Cg G.Mi G.IZ G.f1 G.f0
 have h1:b*b^n≤val b vs:=by
  have:b*b^n≤(v1*b+v0)*b^n:=Nat.mul_le_mul_right _ (by have:=Nat.mul_le_mul_right b G.pos;omega)
  omega
 have h2:=WG (U:=val b us) (V:=val b vs) (W:=b) (P:=b^n) (V2:=v1*b+v0) (U3:=(u2*b+u1)*b+u0) (g:=g) hv.2 hu h1 hg (by
  rw[hh]
  have:(g*v1+left)*b+u0=g*v1*b+(left*b+u0):=by grind
  have:g*(v1*b+v0)=g*v1*b+g*v0:=by grind
  omega)
 have h3:g≤(val b us+val b vs) / val b vs:=(Nat.le_div_iff_mul_le G.Hp).2 h2
 rwa [Nat.add_div_right _ G.Hp] at h3
theorem vO.broken {g left:Nat} (hh:u2*b+u1=g*v1+left) (h:b≤left):g<b∧g*v0≤left*b+u0:=by
 have h1:=G.top
 have h2:=G.Xt
 have h3:u2*b≤v1*b:=Nat.mul_le_mul_right _ h1
 have h4:g*v1<b*v1:=by rw[Nat.mul_comm b];omega
 have hg:g<b:=Nat.lt_of_mul_lt_mul_right h4
 refine⟨hg,?_⟩
 have h5:=G.W1
 have h6:g*v0≤b*b:=Nat.mul_le_mul (by omega) (by omega)
 have h7:b*b≤left*b:=Nat.mul_le_mul_right _ h
 omega
end
theorem U2 {P A N T c l x y r W l' c' c1 lo t:Nat} (h:A+P*(c+l)=N+T) (h1:c1=c+t*y) (h2:c1=lo+W*c') (hd:r+lo+l=x+W*l'):(A+P*x)+P*W*(c'+l')=(N+P*r)+(T+P*(t*y)):=by
 subst h1
 have e:r+(c+t*y)+l=x+W*l'+W*c':=by omega
 have e2:P*(r+(c+t*y)+l)=P*(x+W*l'+W*c'):=by rw[e]
 grind
theorem W4 {S S' V t P cl:Nat} (h:S+P*cl=S'+t*V) (hS':S'<P) (hV:V≤P) (ht:t*V≤S+V):cl=0∨cl=1:=by
 rcases Nat.lt_or_ge cl 2 with h1 | h1
 ·omega
 ·have:P*2≤P*cl:=Nat.mul_le_mul_left _ h1
  omega
theorem YT {S S1 S2 V t P c:Nat} (h1:S+P=S1+t*V) (h2:S1+V=S2+P*c) (hS2:S2<P) (hV:V≤P) (ht:t*V≤S+V) (hS:S<P) (aX:S<t*V):S2+t*V=S+V:=by
 have hc:c=1:=by
  rcases Nat.lt_or_ge c 1 with h | h
  ·have:c=0:=by omega
   subst this
   omega
  ·rcases Nat.lt_or_ge c 2 with h3 | h3
   ·omega
   ·have:P*2≤P*c:=Nat.mul_le_mul_left _ h3
    omega
 subst hc
 omega
end
end Go.PM
namespace Go.PM
abbrev uV (d:Nat):VV := .sc (.int .u32 (d:Int))
abbrev AL (ds:List Nat):VV:=aC uV ds
def bH (n:Nat):VV:=AL (aD 4294967296 n)
theorem Sm:∀d:Nat,(aB (uV d)).length=1:=fun _=>rfl
theorem Ui (ds:List Nat):aP (AL ds)=true:=lJ Sm fun _=>rfl
theorem Xx (ds:List Nat):gK (AL ds)=true:=uN Sm (fun _=>rfl) fun _=>rfl
theorem bP (n:Nat):aP (bH n)=true:=Ui _
theorem qA (n:Nat):gK (bH n)=true:=Xx _
theorem C7:bH 0 = .tree [] .op:=by rw[bH,bZ];rfl
theorem TN (a b:Nat) (ha:a<18446744073709551616) (hb:0<b):fB .quo (.int .u64 (a:Int)) (.int .u64 (b:Int))=some (.int .u64 ((a / b:Nat):Int)):=by
 have h1:¬((b:Int)=0):=by omega
 have h2:(a:Int).tdiv (b:Int)=((a / b:Nat):Int):=by rw[Int.tdiv_eq_ediv_of_nonneg (by omega)];simp
 have h3:a / b≤a:=Nat.div_le_self _ _
 simp only[fB,if_true,h1,if_false,h2]
 rw[fN _ (by omega)]
theorem Nz (a b:Nat) (hb:0<b):fB .rem (.int .u64 (a:Int)) (.int .u64 (b:Int))=some (.int .u64 ((a % b:Nat):Int)):=by
 have h1:¬((b:Int)=0):=by omega
 have h2:(a:Int).tmod (b:Int)=((a % b:Nat):Int):=by rw[Int.tmod_eq_emod_of_nonneg (by omega)];simp
 simp only[fB,if_true,h1,if_false,h2]
theorem adP (n s:Nat) (hn:n<4294967296) (hs:s≤31):fB .shl (.int .u64 (n:Int)) (.int .i64 (s:Int))=some (.int .u64 ((n*2^s:Nat):Int)):=by
 have h1:¬((s:Int)<0):=by omega
 have h2:Nat.min (Int.toNat (s:Int)) IntKind.u64.bits=s:=by
  rw[Int.toNat_natCast]
  exact Nat.min_eq_left (by show s≤64;omega)
 have h3:2^s≤2^31:=Nat.pow_le_pow_right (by decide) hs
 have h4:n*2^s≤n*2^31:=Nat.mul_le_mul_left _ h3
 simp only[fB,h1,if_false,h2]
 congr 2
 have e:(n:Int)*2^s=((n*2^s:Nat):Int):=by simp
 rw[e]
 exact fN _ (by omega)
theorem Yz (n s:Nat) (hs:s≤31):fB .shr (.int .u64 (n:Int)) (.int .i64 (s:Int))=some (.int .u64 ((n / 2^s:Nat):Int)):=by
 have h1:¬((s:Int)<0):=by omega
 have h2:Nat.min (Int.toNat (s:Int)) IntKind.u64.bits=s:=by
  rw[Int.toNat_natCast]
  exact Nat.min_eq_left (by show s≤64;omega)
 simp only[fB,h1,if_false,h2]
 congr 2
 rw[Int.fdiv_eq_ediv_of_nonneg _ (by exact Int.le_of_lt (Int.pow_pos (by decide)))]
 simp
theorem aeE (a m s:Nat) (ha:a<2^s) (hm:m*2^s+a<4294967296):fB .or (.int .u32 (a:Int)) (.int .u32 ((m*2^s:Nat):Int))=some (.int .u32 ((a+m*2^s:Nat):Int)):=by
 have e:a ||| (m*2^s)=a+m*2^s:=by
  have:=Nat.shiftLeft_add_eq_or_of_lt ha m
  rw[Nat.shiftLeft_eq] at this
  rw[Nat.or_comm,←this,Nat.add_comm]
 have e1:(BitVec.ofInt IntKind.u32.bits (a:Int) ||| BitVec.ofInt IntKind.u32.bits ((m*2^s:Nat):Int)).toNat=a+m*2^s:=by
  show (BitVec.ofInt 32 (a:Int) ||| BitVec.ofInt 32 ((m*2^s:Nat):Int)).toNat=a+m*2^s
  rw[BitVec.toNat_or,BitVec.ofInt_natCast,BitVec.ofInt_natCast,BitVec.toNat_ofNat,BitVec.toNat_ofNat,Nat.mod_eq_of_lt (by omega),Nat.mod_eq_of_lt (by omega),e]
 simp only[fB,if_true,e1]
 rw[wrap32,Nat.mod_eq_of_lt (by omega)]
section
variable {rows:List Nat} {b g c n e:Nat} {w:Bool} {H:aA}
theorem IS {m d:Nat} (hr:aK H b g=some (rows.map uV,1,w)) (hn:n≤rows.length) (hc:n≤c) (he:rows.take n=aD 4294967296 m):fz (d+2) H (.ref b g 0 n c)=some (bH m):=by
 have:aP (.ref b g 0 n c)=false:=rfl
 unfold fz
 simp only[this,hr,Bool.false_eq_true,if_false]
 have Af:aN ((rows.map uV).take n)=true:=by rw[←List.map_take];exact dZ fun _=>rfl
 rw[if_pos ⟨by simpa using hn,hc⟩,List.drop_zero,mapM_pure Af,←List.map_take,he]
 rfl
theorem Ng {m:Nat} (hr:aK H b g=some (rows.map uV,1,w)) (hn:n≤rows.length) (hc:n≤c) (he:rows.take n=aD 4294967296 m):fz depth H (.ref b g 0 n c)=some (bH m):=IS (d:=6) hr hn hc he
theorem bE {d:Nat} {u u' v v':VV} (h1:fz (d+1) H u=some u') (h2:fz (d+1) H v=some v'):fz (d+2) H (.eG [u,v])=some (.eG [u',v']):=by
 have e:fz (d+2) H (.eG [u,v])=if aP (.eG [u,v])=true then some (.eG [u,v]) else ([u,v].mapM (fz (d+1) H)).map .eG:=rfl
 rw[e]
 by_cases hp:aP (.eG [u,v])=true
 ·rw[if_pos hp]
  simp only[aP,aN,Bool.and_eq_true,and_true] at hp
  rw[aH hp.1] at h1
  rw[aH hp.2] at h2
  cases h1
  cases h2
  rfl
 ·rw[if_neg hp,List.mapM_cons,h1,List.mapM_cons,h2]
  rfl
theorem iM {j d:Nat} (hr:aK H b g=some (rows.map uV,1,w)) (hj:rows[j]? = some d):cU false 1 (.ptr b g j 0) H=some (uV d):=tG hr hj
theorem M9 {xs:List Nat} {m d:Nat} (hm:xs.length=m+1) (hd:xs[m]? = some d) (h:d≠0):xs.getLast? ≠ some 0:=by
 rw[List.getLast?_eq_getElem?,hm,Nat.add_sub_cancel,hd]
 simpa using h
end
theorem Xq {rows:List Nat} {b g n c:Nat} {w:Bool} {H:aA} {lo:Nat} (hr:aK H b g=some (rows.map uV,1,w)) (hn:n≤rows.length) (hc:n≤c) (EK:n≤70368744177664) (hd:∀d∈rows.take n,d<4294967296) :
  qD 182 [.ref b g 0 n c] lo H fun r H'=>H'=H∧∃k,k≤n∧r = .ref b g 0 k c∧rows.take k=aD 4294967296 (val 4294967296 (rows.take n)):=by
 refine qD.walk ⟨true,false⟩ zL (Nat.le_of_ble_eq_true rfl) ?_
 simp only[vJ,sH,VX,Nat.reduceEqDiff,Nat.reduceAdd]
 refine aW (fun(k:Nat) ρ H'=>k≤n∧H'=H∧val 4294967296 (rows.take k)=val 4294967296 (rows.take n)∧ρ 0 = .ref b g 0 k c) (fun k=>k) n ⟨Nat.le_refl _,rfl,rfl,rfl⟩ ?_
 rintro k ρ H' ⟨hk,rfl,hv,h0⟩
 have e0:pX (.ref b g 0 k c) H'=some (VI k):=eV hr
 have done:(rows.take k).getLast? ≠ some 0→rows.take k=aD 4294967296 (val 4294967296 (rows.take n)):=fun fQ=>by
  rw[←hv,J1 (by decide) (fun d h=>hd d ?_) fQ]
  exact(List.take_sublist_take_left hk).mem h
 rcases Nat.eq_zero_or_pos k with hz | hp
 ·subst hz
  simp only[fH,h0,e0,Int.reduceLT,Int.natCast_zero,VX,Nat.reduceEqDiff,Nat.reduceAdd]
  exact⟨0,hk,rfl,done (by simp)⟩
 ·obtain⟨m,rfl⟩:∃m,k=m+1:=⟨k-1,by omega⟩
  obtain⟨d,hdd⟩:∃d,rows[m]? = some d:=⟨_,List.getElem?_eq_getElem (by omega)⟩
  have Af:(0:Int)<((m+1:Nat):Int):=by omega
  have w1:IntKind.i64.wrap (((m+1:Nat):Int)-1)=(m:Int):=by rw[wrap64 (by omega) (by omega)];omega
  have e1:bF 1 (.ref b g 0 (m+1) c) (VI m) H'=some (.ptr b g m 0):=by rw[aV hr (by omega),Nat.zero_add]
  have e2:=iM hr hdd
  by_cases CP:(d:Int)=0
  ·have hd1:d=0:=by omega
   subst hd1
   have e3:EV 1 (.ref b g 0 (m+1) c) none (some (VI m)) none H'=some (.ref b g 0 m c):=rI hr (by omega)
   simp only[fH,h0,e0,Af,w1,e1,e2,e3,CP,VX,Nat.reduceEqDiff,Nat.reduceAdd]
   refine⟨m,by omega,by omega,?_,rfl⟩
   rw[←hv,aT hdd,Nat.mul_zero,Nat.add_zero]
  ·simp only[fH,h0,e0,Af,w1,e1,e2,CP,VX,Nat.reduceEqDiff,Nat.reduceAdd]
   refine⟨m+1,hk,rfl,done (M9 (m:=m) (d:=d) (by rw[List.length_take];omega) ?_ (by omega))⟩
   rw[List.getElem?_take_of_lt (by omega)]
   exact hdd
theorem UR (ds:List Nat) (t:TK) {lo:Nat} {H:aA} (h:∀d∈ds,d<4294967296) (hlen:ds.length≤70368744177664) :
  qD 182 [.tree (ds.map uV) t] lo H fun r H'=>H'=H∧∃t',(t'=t∨t' = .op)∧r = .tree ((aD 4294967296 (val 4294967296 ds)).map uV) t':=by
 refine qD.walk ⟨true,false⟩ zL (Nat.le_of_ble_eq_true rfl) ?_
 simp only[vJ,sH,VX,Nat.reduceEqDiff,Nat.reduceAdd]
 refine aW (fun(s:List Nat×TK) ρ H'=>(∀d∈s.1,d<4294967296)∧val 4294967296 s.1=val 4294967296 ds∧s.1.length≤ds.length∧H'=H∧(s.2=t∨s.2 = .op)∧ρ 0 = .tree (s.1.map uV) s.2) (fun s=>s.1.length) (ds,t) ⟨h,rfl,Nat.le_refl _,rfl,.inl rfl,rfl⟩ ?_
 rintro⟨xs,t'⟩ ρ H' ⟨hx,hv,hl,rfl,ht,h0⟩
 simp only at hx hv hl ht h0
 have done:xs.getLast? ≠ some 0→xs=aD 4294967296 (val 4294967296 ds):=fun fQ=>by rw[←hv,J1 (by decide) hx fQ]
 rcases Nat.eq_zero_or_pos xs.length with hz | hp
 ·have hxn:xs=[]:=List.length_eq_zero_iff.1 hz
  subst hxn
  simp only[fH,h0,Int.reduceLT,Int.natCast_zero,VX,Nat.reduceEqDiff,Nat.reduceAdd]
  exact⟨t',ht,by rw[←done (by simp)];rfl⟩
 ·obtain⟨m,hm⟩:∃m,xs.length=m+1:=⟨xs.length-1,by omega⟩
  obtain⟨d,hd⟩:∃d,xs[m]? = some d:=⟨_,List.getElem?_eq_getElem (by omega)⟩
  have Af:(0:Int)<((m+1:Nat):Int):=by omega
  have w1:IntKind.i64.wrap (((m+1:Nat):Int)-1)=(m:Int):=by rw[wrap64 (by omega) (by omega)];omega
  have e1:=aG (f:=uV) (t:=t') (H:=H') (size:=1) (k := .i64) hd rfl
  by_cases CP:(d:Int)=0
  ·have hd1:d=0:=by omega
   subst hd1
   have e2:=H8 (f:=uV) (size:=1) (t:=t') (H:=H') (k2 := .i64) (xs:=xs) (h:=m) Sm (by omega) (by omega)
   have OW:xs=xs.take m++[0]:=by
    have:=List.take_append_drop m xs
    have h3:=(List.getElem?_eq_some_iff.1 hd)
    rw[List.drop_eq_getElem_cons h3.1,h3.2,List.drop_of_length_le (by omega)] at this
    exact this.symm
   simp only[fH,h0,hm,Af,w1,e1,e2,CP,VX,Nat.reduceEqDiff,Nat.reduceAdd]
   refine⟨(xs.take m,.op),by simp only[List.length_take];omega,fun d hd=>hx d (List.mem_of_mem_take hd),?_,by simp only[List.length_take];omega,.inr rfl,rfl⟩
   rw[←hv]
   conv=>rhs;rw[OW]
   rw[sL]
   simp
  ·simp only[fH,h0,hm,Af,w1,e1,CP,VX,Nat.reduceEqDiff,Nat.reduceAdd]
   exact⟨t',ht,by rw[←done (M9 hm hd (by omega))]⟩
theorem rL {rows:List Nat} {b g n c:Nat} {w:Bool} {H:aA} {K:VV→aA→Prop} {m lo:Nat} (hr:aK H b g=some (rows.map uV,1,w)) (hn:n≤rows.length) (hc:n≤c) (EK:n≤70368744177664) (hd:∀d∈rows.take n,d<4294967296) (hm:val 4294967296 (rows.take n)=m)
  (hk:∀k,k≤n→rows.take k=aD 4294967296 m→K (.ref b g 0 k c) H):cW 182 [.ref b g 0 n c] lo H K:=by
 refine lT rfl ((Xq hr hn hc EK hd).mono ?_)
 rintro r H' ⟨rfl,k,h1,rfl,h2⟩
 rw[hm] at h2
 exact hk k h1 h2
theorem IY {ds:List Nat} {t:TK} {lo:Nat} {H:aA} {K:VV→aA→Prop} {m:Nat} (h:∀d∈ds,d<4294967296) (hlen:ds.length≤70368744177664) (hm:val 4294967296 ds=m) (hk:∀t',(t'=t∨t' = .op)→K (.tree ((aD 4294967296 m).map uV) t') H):cW 182 [.tree (ds.map uV) t] lo H K:=by
 refine lT rfl ((UR ds t h hlen).mono ?_)
 rintro r H' ⟨rfl,t',h1,rfl⟩
 rw[hm]
 exact hk t' h1
theorem ZJ {H:aA} {m:Nat} {t:TK} (ht:t = .cl 1∨t = .op):fz depth H (.tree ((aD 4294967296 m).map uV) t)=some (bH m):=by
 rcases ht with rfl | rfl
 ·exact abL (dZ fun _=>rfl)
 ·exact aJ (bP m)
end Go.PM
namespace Go.PM
theorem mI (n:Nat) (h:n<18446744073709551616):TC 101 [VK .u64 n] (bH n):=by
 refine TC.walk ⟨true,false⟩ NH rfl (Nat.le_of_ble_eq_true rfl) rfl (qA _) ?_
 have e1:=X6 (H:=[]) (z:=[.int .u32 0]) (u:=uV (n % 4294967296)) (v:=uV (n / 4294967296 % 4294967296)) rfl rfl rfl rfl rfl
 have hm:∀d∈[n % 4294967296,n / 4294967296 % 4294967296],d<4294967296:=by
  intro d hd
  simp only[List.mem_cons,List.not_mem_nil,or_false] at hd
  rcases hd with rfl | rfl<;>exact Nat.mod_lt _ (by decide)
 have hv:val 4294967296 [n % 4294967296,n / 4294967296 % 4294967296]=n:=by
  simp only[val]
  have:=Nat.mod_add_div n 4294967296
  rw[Nat.mod_eq_of_lt (show n / 4294967296<4294967296 by omega)]
  omega
 simp only[Jf,FN,wrap32,sK,e1,VX,Nat.reduceEqDiff,Nat.reduceAdd]
 refine IY (ds:=[n % 4294967296,n / 4294967296 % 4294967296]) (t := .cl 1) hm (by show 2≤70368744177664;decide) hv fun t' ht => ?_
 simp only[VX,Nat.reduceEqDiff,Nat.reduceAdd]
 exact ZJ ht
theorem AB (n:Nat) (hn:(aD 4294967296 n).length≤17592186044416):TC 218 [bH n] (if (aD 4294967296 n).length≤2 then .eG [VK .u64 n,VB true] else .eG [VK .u64 0,VB false]):=by
 refine TC.walk ⟨true,false⟩ Ek rfl (Nat.le_of_ble_eq_true rfl) (by simp[aN,bP]) (by split<;>rfl) ?_
 have hv:=bX (b:=4294967296) (by decide) n
 have hl:=fC (b:=4294967296) (by decide) n
 unfold bH AL
 generalize aD 4294967296 n=ds at *
 have w1:IntKind.i64.wrap ((ds.length:Int)-1)=(ds.length:Int)-1:=wrap64 (by omega) (by omega)
 simp only[AS,yG,w1,VX,Nat.reduceEqDiff,Nat.reduceAdd]
 by_cases h2:ds.length≤2
 ·rw[if_pos h2]
  have c2:(ds.length:Int)≤2:=by omega
  refine aW (fun(j:Nat) ρ H=>j≤ds.length∧H=[]∧ρ 0=aC uV ds∧ρ 4=VK .u64 (val 4294967296 (ds.drop j):Nat)∧ρ 5=VI ((j:Int)-1)) (fun j=>j) ds.length ⟨Nat.le_refl _,rfl,rfl,by rw[List.drop_length];rfl,rfl⟩ ?_
  rintro j ρ H ⟨hj,rfl,g0,g4,g5⟩
  by_cases hz:(0:Int)≤(j:Int)-1
  ·obtain⟨i,rfl⟩:∃i,j=i+1:=⟨j-1,by omega⟩
   obtain⟨x,hx⟩:∃x,ds[i]? = some x:=⟨_,List.getElem?_eq_getElem (by omega)⟩
   have J6:((i+1:Nat):Int)-1=(i:Int):=by omega
   rw[J6] at g5 hz
   have e1:=aG (f:=uV) (t := .op) (H:=[]) (size:=1) (k := .i64) hx rfl
   have lx:=hl x (List.mem_of_getElem? hx)
   have ld:=oE (b:=4294967296) (xs:=ds.drop (i+1)) fun d hd=>hl d (List.mem_of_mem_drop hd)
   have hle:(ds.drop (i+1)).length≤1:=by rw[List.length_drop];omega
   have hpw:4294967296^(ds.drop (i+1)).length≤4294967296^1:=Nat.pow_le_pow_right (by decide) hle
   rw[Nat.pow_one] at hpw
   have w2:IntKind.i64.wrap ((i:Int)-1)=(i:Int)-1:=wrap64 (by omega) (by omega)
   have w3:IntKind.u64.wrap (x:Int)=(x:Int):=fN _ (by omega)
   have w4:IntKind.u64.wrap (((val 4294967296 (ds.drop (i+1))*4294967296:Nat):Int)+(x:Int))=((val 4294967296 (ds.drop i):Nat):Int):=by
    rw[sO hx,←Int.natCast_add,fN _ (by omega)]
    congr 1
    omega
   have w5:=De (val 4294967296 (ds.drop (i+1))) .u64 (by omega)
   simp only[lF,g0,g4,g5,hz,c2,e1,w2,w3,w4,w5,VX,Nat.reduceEqDiff,Nat.reduceAdd]
   exact⟨i,by omega,by omega,by (repeat' apply And.intro)<;>first | rfl | trivial⟩
  ·have UN:j=0:=by omega
   subst UN
   rw[List.drop_zero,hv] at g4
   simp only[lF,g0,g4,g5,hz,c2,VX,Nat.reduceEqDiff,Nat.reduceAdd]
   exact aJ rfl
 ·rw[if_neg h2]
  have c2:¬(ds.length:Int)≤2:=by omega
  have c3:(0:Int)≤(ds.length:Int)-1:=by omega
  refine aW (fun(j:Nat) ρ H=>H=[]∧ρ 0=aC uV ds∧ρ 4=VK .u64 0∧ρ 5=VI ((ds.length:Int)-1)) (fun j=>j) 0 ⟨rfl,rfl,rfl,rfl⟩ ?_
  rintro j ρ H ⟨rfl,g0,g4,g5⟩
  simp only[lF,g0,g4,g5,c2,c3,VX,Nat.reduceEqDiff,Nat.reduceAdd]
  exact aJ rfl
theorem jY (a b:Nat) (ha:(aD 4294967296 a).length≤17592186044416) (hb:(aD 4294967296 b).length≤17592186044416):TC 170 [bH a,bH b] (VI (fD a b)):=by
 refine TC.walk ⟨true,false⟩ Ha rfl (Nat.le_of_ble_eq_true rfl) (by simp[aN,bP]) rfl ?_
 have fin:∀ {x:Int},x=fD a b→fz depth [] (VI x)=some (VI (fD a b)):=fun h=>by rw[h];exact aJ rfl
 unfold bH AL
 by_cases hl:(((aD 4294967296 a).length:Nat):Int)=(((aD 4294967296 b).length:Nat):Int)
 ·have CY:(aD 4294967296 a).length=(aD 4294967296 b).length:=by omega
  have w1:IntKind.i64.wrap ((((aD 4294967296 b).length:Nat):Int)-1)=(((aD 4294967296 b).length:Nat):Int)-1:=wrap64 (by omega) (by omega)
  simp only[rU,pF,hl,w1,VX,Nat.reduceEqDiff,Nat.reduceAdd]
  refine aW (fun(j:Nat) ρ H=>j≤(aD 4294967296 b).length∧H=[]∧(aD 4294967296 a).drop j=(aD 4294967296 b).drop j∧ρ 0=aC uV (aD 4294967296 a)∧ρ 1=aC uV (aD 4294967296 b)∧ρ 5=VI ((j:Int)-1)) (fun j=>j) (aD 4294967296 b).length ⟨Nat.le_refl _,rfl,by rw[List.drop_length,←CY,List.drop_length],rfl,rfl,rfl⟩ ?_
  rintro j ρ H ⟨hj,rfl,hd,h0,h1,h5⟩
  by_cases hz:(0:Int)≤(j:Int)-1
  ·obtain⟨i,rfl⟩:∃i,j=i+1:=⟨j-1,by omega⟩
   obtain⟨x,hx⟩:∃x,(aD 4294967296 a)[i]? = some x:=⟨_,List.getElem?_eq_getElem (by omega)⟩
   obtain⟨y,hy⟩:∃y,(aD 4294967296 b)[i]? = some y:=⟨_,List.getElem?_eq_getElem (by omega)⟩
   have J6:((i+1:Nat):Int)-1=(i:Int):=by omega
   have e1:=aG (f:=uV) (t := .op) (H:=[]) (size:=1) (k := .i64) hx rfl
   have e2:=aG (f:=uV) (t := .op) (H:=[]) (size:=1) (k := .i64) hy rfl
   rw[J6] at h5 hz
   have w2:IntKind.i64.wrap ((i:Int)-1)=(i:Int)-1:=wrap64 (by omega) (by omega)
   by_cases Aj:(x:Int)=(y:Int)
   ·simp only[kQ,h0,h1,h5,hz,e1,e2,Aj,w2,VX,Nat.reduceEqDiff,Nat.reduceAdd]
    have aeC:x=y:=by omega
    subst aeC
    refine⟨i,by omega,by omega,?_⟩
    obtain⟨g1,g2⟩:=List.getElem?_eq_some_iff.1 hx
    obtain⟨g3,g4⟩:=List.getElem?_eq_some_iff.1 hy
    rw[List.drop_eq_getElem_cons g1,List.drop_eq_getElem_cons g3,g2,g4,hd]
    exact⟨rfl,rfl⟩
   ·by_cases aX:(x:Int)<(y:Int)
    ·simp only[kQ,h0,h1,h5,hz,e1,e2,Aj,aX,VX,Nat.reduceEqDiff,Nat.reduceAdd]
     refine fin ?_
     have:=Dx (fC (by decide) a) CY hx hy hd (by omega)
     rw[bX (by decide),bX (by decide)] at this
     simp[fD,this]
    ·simp only[kQ,h0,h1,h5,hz,e1,e2,Aj,aX,VX,Nat.reduceEqDiff,Nat.reduceAdd]
     refine fin ?_
     have:=Dx (fC (by decide) b) CY.symm hy hx hd.symm (by omega)
     rw[bX (by decide),bX (by decide)] at this
     rw[fD,if_neg (by omega),if_neg (by omega)]
  ·have UN:j=0:=by omega
   subst UN
   simp only[kQ,h0,h1,h5,hz,VX,Nat.reduceEqDiff,Nat.reduceAdd]
   refine fin ?_
   have:=OJ (b:=4294967296) (by decide) (by simpa using hd)
   subst this
   simp[fD]
 ·by_cases aX:(((aD 4294967296 a).length:Nat):Int)<(((aD 4294967296 b).length:Nat):Int)
  ·simp only[rU,pF,hl,aX,VX,Nat.reduceEqDiff,Nat.reduceAdd]
   refine fin ?_
   have:=Dv (b:=4294967296) (by decide) (m:=a) (n:=b) (by omega)
   simp[fD,this]
  ·simp only[rU,pF,hl,aX,VX,Nat.reduceEqDiff,Nat.reduceAdd]
   refine fin ?_
   have:=Dv (b:=4294967296) (by decide) (m:=b) (n:=a) (by omega)
   rw[fD,if_neg (by omega),if_neg (by omega)]
end Go.PM
namespace Go.PM
section
variable {b:Nat}
theorem G5 (hb:2≤b) (n i:Nat):(aD b n).getD i 0=n / b^i % b:=by
 induction i generalizing n with
 |
  zero =>
  by_cases h:n=0
  ·subst h;simp[bZ]
  ·rw[kV hb h,List.getD_cons_zero,Nat.pow_zero,Nat.div_one]
 |
  succ i ih =>
  by_cases h:n=0
  ·subst h;simp[bZ]
  ·rw[kV hb h,List.getD_cons_succ,ih,Nat.div_div_eq_div_mul,Nat.pow_succ,Nat.mul_comm b]
theorem IX (hb:2≤b) {n i:Nat}:i<(aD b n).length↔n / b^i≠0:=by
 induction i generalizing n with
 |
  zero =>
  rw[Nat.pow_zero,Nat.div_one,List.length_pos_iff]
  exact not_congr (oJ hb)
 |
  succ i ih =>
  by_cases h:n=0
  ·subst h;simp[bZ]
  ·rw[kV hb h,List.length_cons,Nat.add_lt_add_iff_right,ih,Nat.div_div_eq_div_mul,Nat.pow_succ,Nat.mul_comm b]
theorem P3 (hb:2≤b) {n i:Nat} (h:i<(aD b n).length):(aD b n)[i]? = some (n / b^i % b):=by
 rw[←G5 hb,List.getD_eq_getElem?_getD,List.getElem?_eq_getElem h]
 rfl
theorem Bg (n i:Nat):n / b^(i+1)=n / b^i / b:=by rw[Nat.div_div_eq_div_mul,Nat.pow_succ]
theorem DT (xs:List Nat) (i:Nat):val b (xs.take (i+1))=val b (xs.take i)+b^i*xs.getD i 0:=by
 by_cases h:i<xs.length
 ·rw[aT (List.getElem?_eq_getElem h),List.getD_eq_getElem?_getD,List.getElem?_eq_getElem h]
  rfl
 ·rw[jL (by omega),jL (by omega),List.getD_eq_getElem?_getD,List.getElem?_eq_none (by omega)]
  simp
theorem ME (hb:2≤b) {n d q:Nat} (hn:n≠0) (h:n=d+b*q) (hd:d<b):aD b n=d::aD b q:=by
 rw[kV hb hn,h,Nat.add_mul_mod_self_left,Nat.mod_eq_of_lt hd,Nat.add_mul_div_left _ _ (by omega),Nat.div_eq_of_lt hd,Nat.zero_add]
theorem Vw (hb:2≤b) {x y c:Nat} (h:x+y+c≠0):aD b (x+y+c)=(x % b+y % b+c) % b::aD b (x / b+y / b+(x % b+y % b+c) / b):=by
 refine ME hb h ?_ (Nat.mod_lt _ (by omega))
 have h1:=Nat.mod_add_div x b
 have h2:=Nat.mod_add_div y b
 have h3:=Nat.mod_add_div (x % b+y % b+c) b
 have e:b*(x / b+y / b+(x % b+y % b+c) / b)=b*(x / b)+b*(y / b)+b*((x % b+y % b+c) / b):=by grind
 omega
theorem VA (hb:2≤b) {x d c:Nat} (h:x*d+c≠0):aD b (x*d+c)=(x % b*d+c) % b::aD b (x / b*d+(x % b*d+c) / b):=by
 refine ME hb h ?_ (Nat.mod_lt _ (by omega))
 have h1:=Nat.mod_add_div x b
 have h3:=Nat.mod_add_div (x % b*d+c) b
 have e:b*(x / b*d+(x % b*d+c) / b)=b*(x / b)*d+b*((x % b*d+c) / b):=by grind
 have e2:x*d=x % b*d+b*(x / b)*d:=by
  conv=>lhs;rw[←h1,Nat.add_mul]
 omega
theorem MX (hb:2≤b) {m n k:Nat} (hm:(aD b m).length≤k) (hn:(aD b n).length≤k):(aD b (m+n)).length≤k+1:=by
 refine oF hb ?_
 have y1:=jN hb m
 have y2:=jN hb n
 have y3:b^(aD b m).length≤b^k:=Nat.pow_le_pow_right (by omega) hm
 have y4:b^(aD b n).length≤b^k:=Nat.pow_le_pow_right (by omega) hn
 have y5:b^k*2≤b^k*b:=Nat.mul_le_mul_left _ hb
 rw[Nat.pow_succ]
 omega
theorem MQ (hb:2≤b) (m n:Nat):(aD b (m*n)).length≤(aD b m).length+(aD b n).length:=by
 refine oF hb ?_
 rw[Nat.pow_add]
 exact Nat.mul_lt_mul'' (jN hb m) (jN hb n)
theorem Cl (hb:2≤b) {c:Nat} (h:c≠0) (hc:c<b):aD b c=[c]:=by
 rw[kV hb h,Nat.mod_eq_of_lt hc,Nat.div_eq_of_lt hc,bZ]
end
end Go.PM