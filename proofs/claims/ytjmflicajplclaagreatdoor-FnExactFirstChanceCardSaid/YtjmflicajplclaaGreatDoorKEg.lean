/- Texts of a claim, in one: part 7. -/
import Derived.Lib.ItoaNum
import Derived.Lib.Join
import Derived.Test.YtjmflicajplclaaGreatDoorKEf
open And renaming intro → aMU
open Array renaming getD_eq_getD_getElem? → aLm,getElem?_eq_getElem → aNc
open Bool renaming and_eq_true → aLM,false_eq_true → aLQ
open Int renaming mul_ediv_cancel_left → aNl,natAbs_mul → aNj,natAbs_natCast → aNk,natCast_add → aNs,toNat_natCast → aMA
open List renaming all_eq_true → aLs,append_assoc → aM0,append_nil → aMm,drop_eq_getElem_cons → aLj,drop_length → aNr,drop_zero → aMq,eq_of_mem_replicate → aMp,ext_getElem? → aNo,getD_eq_getElem?_getD → aLb,getElem?_append_left → aLv,getElem?_append_right → aLw,getElem?_eq_getElem → aLl,getElem?_eq_none → aLE,getElem?_eq_some_iff → aLd,getElem?_of_mem → aNa,getElem?_replicate → aNp,length_replicate → aM3,length_set → aNt,length_take → aMN,mapM_cons → aMB,map_take → aM8,mem_append → aMa,mem_of_getElem? → aL8,mem_of_mem_take → aMb,mem_singleton → aMk,prefix_append → aM9,replicate → aL4,take_of_length_le → aL7
open Nat renaming add_mul → aLJ,add_sub_cancel_left → aM5,add_zero → aNq,le_add_right → aM6,le_of_ble_eq_true → aM2,le_refl → aLe,le_trans → aLf,lt_of_lt_of_le → aLg,lt_of_mul_lt_mul_right → aNe,lt_or_ge → aLh,min_eq_left → aMf,mod_eq_of_lt → aMI,mul_le_mul_left → aNd,mul_le_mul_right → aLF,mul_lt_mul'' → aNg,ne_of_lt → aNb,not_lt_zero → aMv,pow_add → aNf,pow_le_pow_right → aNh,pow_lt_pow_iff_right → aNi,pow_succ → aMF,two_pow_pos → aNn,zero_add → aMM,zero_le → aLI
open Rat renaming intCast_mul → aNm
set_option linter.unusedSimpArgs false
set_option linter.unusedVariables false
namespace Go.PM
def uF (n:Nat) (H:aA) (bare:Bool) (x:List ByteArray) (c:VV):Prop :=
 (bare=true∧x=[]∧c = .tree [] .nil)∨∃b,n<b∧c = .ref b 0 0 x.length (x.length+room x.length)∧aJ H b 0=some ((lX kP x).map sV,1,true)
def Ho (n:Nat) (H:aA) (c:VV):Prop:=∃b,n<b∧c = .ref b 0 0 1 1∧aJ H b 0=some ([sV kP],1,true)
theorem uF.cW {n:Nat} {H H':aA} {bare:Bool} {x:List ByteArray} {c:VV} (h:uF n H bare x c) (hk:∀b g x,n<b→aJ H b g=some x→aJ H' b g=some x):uF n H' bare x c:=by
 rcases h with h | ⟨b,h1,h2,h3⟩
 ·exact .inl h
 ·exact .inr ⟨b,h1,h2,hk _ _ _ h1 h3⟩
theorem Ho.cW {n:Nat} {H H':aA} {c:VV} (h:Ho n H c) (hk:∀b g x,n<b→aJ H b g=some x→aJ H' b g=some x):Ho n H' c:=by
 obtain⟨b,h1,h2,h3⟩:=h
 exact⟨b,h1,h2,hk _ _ _ h1 h3⟩
theorem uF.cell {n:Nat} {H:aA} {bare:Bool} {x:List ByteArray} {c:VV} (h:uF n H bare x c):aB c=[c]∧bP c=true∧∀k,k≤n→jL k c=true:=by
 rcases h with⟨_,_,rfl⟩ | ⟨b,h1,rfl,_⟩
 ·exact⟨rfl,rfl,fun _ _=>rfl⟩
 ·exact⟨rfl,rfl,fun k hk=>by simp[jL];omega⟩
theorem Ho.cell {n:Nat} {H:aA} {c:VV} (h:Ho n H c):aB c=[c]∧bP c=true∧∀k,k≤n→jL k c=true:=by
 obtain⟨b,h1,rfl,_⟩:=h
 exact⟨rfl,rfl,fun k hk=>by simp[jL];omega⟩
theorem uF.fz {n d:Nat} {H:aA} {bare:Bool} {x:List ByteArray} {c:VV} (h:uF n H bare x c):PM.fz (d+2) H c=some (gJ x):=by
 rcases h with⟨_,rfl,rfl⟩ | ⟨b,h1,rfl,h3⟩
 ·show PM.fz ((d+1)+1) H _=_
  unfold PM.fz
  have:aY (.tree [] .nil)=false:=rfl
  simp only[this,aLQ,if_false]
  rfl
 ·show PM.fz ((d+1)+1) H _=_
  unfold PM.fz
  have:aY (.ref b 0 0 x.length (x.length+room x.length))=false:=rfl
  simp only[this,h3,aLQ,if_false]
  rw[if_pos ⟨by simp[lX],aM6 _ _⟩,aMq,←aM8,SX,mapM_pure (n:=d) (fO fun _=>rfl)]
  rfl
theorem Ho.fz {n d:Nat} {H:aA} {c:VV} (h:Ho n H c):PM.fz (d+2) H c=some (gJ [kP]):=by
 obtain⟨b,h1,rfl,h3⟩:=h
 show PM.fz ((d+1)+1) H _=_
 unfold PM.fz
 have:aY (.ref b 0 0 1 1)=false:=rfl
 simp only[this,h3,aLQ,if_false]
 rw[if_pos ⟨by simp,aLe _⟩,aMq,aL7 (by simp),mapM_pure (n:=d) (by rfl)]
 rfl
def xQ (H:aA) (bare:Bool) (xs:List (List ByteArray)) (b:Nat):Prop :=
 ∃cells iV,aJ H b 0=some (cells++iV,1,true)∧cells.length=xs.length∧iV.length=room xs.length∧(∀(i:Nat) x,xs[i]? = some x→∃c,cells[i]? = some c∧uF b H bare x c)∧∀c∈iV,Ho b H c
theorem xQ.cW {H H':aA} {bare:Bool} {xs:List (List ByteArray)} {b:Nat} (h:xQ H bare xs b) (hk:∀b' g x,b≤b'→aJ H b' g=some x→aJ H' b' g=some x):xQ H' bare xs b:=by
 obtain⟨cells,iV,h1,h2,h3,h4,h5⟩:=h
 exact⟨cells,iV,hk _ _ _ (aLe _) h1,h2,h3,fun i x hx=>by
  obtain⟨c,k1,k2⟩:=h4 i x hx
  exact⟨c,k1,k2.cW fun b' g x hb=>hk b' g x (Nat.le_of_lt hb)⟩,fun c hc=>(h5 c hc).cW fun b' g x hb=>hk b' g x (Nat.le_of_lt hb)⟩
theorem xQ.pre {H H':aA} {bare:Bool} {xs:List (List ByteArray)} {b:Nat} (h:xQ H bare xs b) (hh:H <+: H'):xQ H' bare xs b:=h.cW fun _ _ _ _=>cE hh
def aFC (xs:List (List ByteArray)) (bare:Bool) (n:Nat) (r:VV) (L:aA):Prop :=
 (bare=true∧xs=[]∧r = .tree [] .nil∧L=[])∨(r = .ref n 0 0 xs.length (xs.length+room xs.length)∧xQ (aL4 n .dead++L) bare xs n)
theorem CX.pre {n:Nat} {H L:aA} (h:CX n H) (hL:mP n L=true):CX n (H++L):=by
 obtain⟨L0,rfl,h0⟩:=h
 refine⟨L0++L,by rw[aM0],?_⟩
 unfold mP at *
 rw[List.all_append,h0,hL]
 rfl
theorem atB {n:Nat} {x:List ByteArray} {bare:Bool} {H:aA} {K:VV→aA→Prop} (hx:x.length≤1000000000) (hH:CX n H) (bH:n<H.length)
  (hk:∀c H',H <+: H'→CX n H'→uF n H' bare x c→K c H'):dP 34 [gJ x,.sc (.bool bare)] n H K:=by
 refine(Dv x bare hx).call rfl (mapM_pure (n:=7) (by simp[aO,kG];rfl)) ?_
 rintro r L (⟨hb,rfl,rfl,rfl⟩ | ⟨rfl,rfl⟩)
 ·rw[aMm]
  exact hk _ _ (List.prefix_refl _) hH (.inl ⟨hb,rfl,rfl⟩)
 ·exact hk _ _ (aM9 _ _) (hH.app (PQ (fun _=>rfl) _)) (.inr ⟨_,bH,rfl,FL (i:=0) rfl⟩)
set_option maxHeartbeats 2000000 in
theorem JJ (xs:List (List ByteArray)) (bare:Bool) (hn:xs.length≤1000000000) (hx:∀x∈xs,x.length≤1000000000):FC 17 [lM xs,.sc (.bool bare)] (aFC xs bare):=by
 refine FC.walk ⟨true,true⟩ Ka (aM2 rfl) fun n => ?_
 have hr:=room_le xs.length
 by_cases hb:bare=true∧(xs.length:Int)=0
 ·obtain⟨rfl,h0⟩:=hb
  simp only[uP,qQ,h0,VX,Nat.reduceEqDiff,Nat.reduceAdd]
  refine⟨[],by simp,rfl,rfl,.inl ⟨rfl,?_,rfl,rfl⟩⟩
  cases xs with
  | nil=>rfl
  | cons x xs=>simp at h0;omega
 have xR:bare=true→¬(xs.length:Int)=0:=fun h h'=>hb ⟨h,h'⟩
 clear hb
 have w1:IntKind.i64.wrap ((xs.length:Int)+(room xs.length:Int))=((xs.length+room xs.length:Nat):Int):=wrapN _ (by omega) (by omega)
 have em:=nX (H:=aL4 n eR.dead) (z:=[.slice none 0 0]) (bytes:=24) (n:=xs.length+room xs.length) (f:=fun v:VV=>v) (x := .tree [] .nil) rfl (by omega) (by omega)
 rw[aM3,List.map_id'] at em
 have main:∀ρ:cV,ρ 0=lM xs→ρ 1 = .sc (.bool bare)→ρ 5 = .ref n 0 0 (xs.length+room xs.length) (xs.length+room xs.length)→ρ 6=VI 0→∀Q:VQ,
   (∀(aP:cV) (H:aA) (cells:List VV),aP 0=lM xs→aP 5 = .ref n 0 0 (xs.length+room xs.length) (xs.length+room xs.length)→CX n H→cells.length=xs.length→aJ H n 0=some (cells++aL4 (room xs.length) (.tree [] .nil),1,true) →
    (∀(i:Nat) x,xs[i]? = some x→∃c,cells[i]? = some c∧uF n H bare x c)→Q (.exit 0) aP H) →
   VW ⟨true,true⟩ n (.loop oN) Q ρ (aL4 n eR.dead++[.row 0 (aL4 (xs.length+room xs.length) (.tree [] .nil)) 1 true]):=by
  intro ρ h0 h1 h5 h6 Q hQ
  refine aN (fun(s:Nat×List VV) ρ H=>s.1≤xs.length∧s.2.length=s.1∧CX n H∧aJ H n 0=some (s.2++aL4 (xs.length+room xs.length-s.1) (.tree [] .nil),1,true)∧(∀(i:Nat) x,i<s.1→xs[i]? = some x→∃c,s.2[i]? = some c∧uF n H bare x c) ∧
   ρ 0=lM xs∧ρ 1 = .sc (.bool bare)∧ρ 5 = .ref n 0 0 (xs.length+room xs.length) (xs.length+room xs.length)∧ρ 6=VI s.1) (fun s=>xs.length-s.1) (0,[])
   ⟨aLI _,rfl,⟨_,rfl,by simp[mP,zM,jL]⟩,by rw[NM,aQ];rfl,fun i x h=>absurd h (aMv _),h0,h1,h5,h6⟩ ?_
  rintro⟨i,cells⟩ ρ H ⟨hi,mN,hO,mA,rW,h0,h1,h5,h6⟩
  simp only at hi mN mA rW h6
  by_cases bX:(i:Int)<(xs.length:Int)
  ·obtain⟨x,FH⟩:∃x,xs[i]? = some x:=⟨_,aLl (by omega)⟩
   have e1:=aF (f:=gJ) (t := .op) (H:=H) (size:=1) (k := .i64) FH rfl
   have wi:IntKind.i64.wrap ((i:Int)+1)=((i+1:Nat):Int):=wrapN (i+1) (by omega) (by omega)
   simp only[oN,h0,h1,h5,h6,bX,e1,VX,Nat.reduceEqDiff,Nat.reduceAdd]
   refine atB (hx x (aL8 FH)) hO (lZ mA) fun c H' hh hO' hc => ?_
   have PR:=cE hh mA
   have e3:=bC (o:=0) (n:=xs.length+room xs.length) (c:=xs.length+room xs.length) (i:=i) (k := .i64) PR (by omega)
   have e4:=bS (j:=i) (lo:=n) (v:=c) PR (by simp;omega) (aLe _) (by rw[hc.cell.1];rfl) (by rw[hc.cell.1];simp[hc.cell.2.1])
   have xI:=Kj cells (xs.length+room xs.length-(i+1)) (.tree [] .nil) c
   rw[mN,show xs.length+room xs.length-(i+1)+1=xs.length+room xs.length-i by omega] at xI
   rw[xI] at e4
   simp only[h6,e3,e4,wi,aMM,VX,Nat.reduceEqDiff,Nat.reduceAdd]
   refine⟨(i+1,cells++[c]),by simp only;omega,by simp only;omega,by simp[mN],?_,cP PR,?_,h0,h1,by (repeat' apply aMU)<;>first | rfl | trivial⟩
   ·refine hO'.set (aLe _) (zM.2 fun y hy => ?_)
    rcases aMa.1 hy with hy | hy
    ·rcases aMa.1 hy with hy | hy
     ·obtain⟨j,hj⟩:=aNa hy
      have hjl:=(aLd.1 hj).1
      obtain⟨z,hz⟩:∃z,xs[j]? = some z:=⟨_,aLl (by omega)⟩
      obtain⟨c',k1,k2⟩:=rW j z (by omega) hz
      rw[hj] at k1
      injection k1 with k1
      subst k1
      exact k2.cell.2.2 _ (aLe _)
     ·rw[aMk] at hy
      subst hy
      exact hc.cell.2.2 _ (aLe _)
    ·rw[aMp hy]
     rfl
   ·intro j z hj hz
    by_cases Ea:j<i
    ·obtain⟨c',k1,k2⟩:=rW j z Ea hz
     exact⟨c',by rw[aLv (by omega)];exact k1,k2.cW fun b g y hb h=>aW (aNb hb) (cE hh h)⟩
    ·have:j=i:=by simp only at hj;omega
     subst this
     rw[FH] at hz
     injection hz with hz
     subst hz
     exact⟨c,by rw[aLw (by omega),mN,Nat.sub_self];rfl,hc.cW fun b g y hb h=>aW (aNb hb) h⟩
  ·have mZ:i=xs.length:=by omega
   subst mZ
   simp only[oN,h0,h1,h5,h6,bX,VX,Nat.reduceEqDiff,Nat.reduceAdd]
   rw[aM5] at mA
   exact hQ _ _ cells h0 h5 hO mN mA fun i x hx=>rW i x (aLd.1 hx).1 hx
 have WW:∀(ρ:cV) (H:aA) (cells:List VV),ρ 0=lM xs→ρ 5 = .ref n 0 0 (xs.length+room xs.length) (xs.length+room xs.length)→ρ 7=VI xs.length→CX n H→cells.length=xs.length→aJ H n 0=some (cells++aL4 (room xs.length) (.tree [] .nil),1,true) →
    (∀(i:Nat) x,xs[i]? = some x→∃c,cells[i]? = some c∧uF n H bare x c)→∀Q:VQ,
   (∀(aP:cV) (H:aA),aP 0=lM xs→aP 5 = .ref n 0 0 (xs.length+room xs.length) (xs.length+room xs.length)→CX n H→xQ H bare xs n→Q (.exit 2) aP H) →
   VW ⟨true,true⟩ n (.loop pD) Q ρ H:=by
  intro ρ H cells h0 h5 h7 hO mN mA rW Q hQ
  have aE7:∀y∈cells,jL n y=true:=fun y hy=>by
   obtain⟨j,hj⟩:=aNa hy
   have hjl:=(aLd.1 hj).1
   obtain⟨z,hz⟩:∃z,xs[j]? = some z:=⟨_,aLl (by omega)⟩
   obtain⟨c',k1,k2⟩:=rW j z hz
   rw[hj] at k1
   injection k1 with k1
   subst k1
   exact k2.cell.2.2 _ (aLe _)
  refine aN (fun(s:Nat×List VV) ρ H=>s.1≤room xs.length∧s.2.length=s.1∧CX n H∧aJ H n 0=some (cells++s.2++aL4 (room xs.length-s.1) (.tree [] .nil),1,true)∧(∀(i:Nat) x,xs[i]? = some x→∃c,cells[i]? = some c∧uF n H bare x c)∧(∀c∈s.2,Ho n H c) ∧
   ρ 0=lM xs∧ρ 5 = .ref n 0 0 (xs.length+room xs.length) (xs.length+room xs.length)∧ρ 7=VI (xs.length+s.1:Nat)) (fun s=>room xs.length-s.1) (0,[])
   ⟨aLI _,rfl,hO,by rw[aMm];exact mA,rW,fun c hc=>(by cases hc),h0,h5,h7⟩ ?_
  rintro⟨i,fs⟩ ρ H ⟨hi,hfl,hO,mA,rW,hfs,h0,h5,h7⟩
  simp only at hi hfl mA rW h7 hfs
  have el:=eI (o:=0) (n:=xs.length+room xs.length) (c:=xs.length+room xs.length) mA
  by_cases bX:((xs.length+i:Nat):Int)<((xs.length+room xs.length:Nat):Int)
  ·have eL:nT true [.string ⟨#[]⟩] 1 [(0,.sc (.string ⟨#[126,115,112,97,114,101,126]⟩))] H=some (.ref H.length 0 0 1 1,H++[.row 0 [sV kP] 1 true]):=afQ rfl rfl rfl
   have PR:=dC (L:=[.row 0 [sV kP] 1 true]) mA
   have bH:=lZ mA
   have e3:=bC (o:=0) (n:=xs.length+room xs.length) (c:=xs.length+room xs.length) (i:=xs.length+i) (k := .i64) PR (by omega)
   have e4:=bS (j:=xs.length+i) (lo:=n) (v := .ref H.length 0 0 1 1) PR (by simp;omega) (aLe _) rfl rfl
   have xI:=Kj (cells++fs) (room xs.length-(i+1)) (.tree [] .nil) (.ref H.length 0 0 1 1)
   rw[show (cells++fs).length=xs.length+i by simp[mN,hfl],show room xs.length-(i+1)+1=room xs.length-i by omega] at xI
   rw[xI] at e4
   have wi:IntKind.i64.wrap (((xs.length+i:Nat):Int)+1)=((xs.length+(i+1):Nat):Int):=wrapN _ (by omega) (by omega)
   simp only[pD,h0,h5,h7,bX,el,eL,e3,e4,wi,aMM,VX,Nat.reduceEqDiff,Nat.reduceAdd]
   have Dl:∀b g x,n<b→aJ H b g=some x→aJ ((H++[eR.row 0 [sV kP] 1 true]).set n (eR.row 0 (cells++fs++[VV.ref H.length 0 0 1 1]++aL4 (room xs.length-(i+1)) (VV.tree [] TK.nil)) 1 true)) b g=some x:=fun b g x hb h=>aW (aNb hb) (dC h)
   refine⟨(i+1,fs++[.ref H.length 0 0 1 1]),by simp only;omega,by simp only;omega,by simp[hfl],?_,?_,?_,?_,by (repeat' apply aMU)<;>first | rfl | trivial | assumption⟩
   ·refine(hO.app rfl).set (aLe _) (zM.2 fun y hy => ?_)
    rcases aMa.1 hy with hy | hy
    ·rcases aMa.1 hy with hy | hy
     ·rcases aMa.1 hy with hy | hy
      ·exact aE7 y hy
      ·exact(hfs y hy).cell.2.2 _ (aLe _)
     ·rw[aMk] at hy
      subst hy
      simp[jL];omega
    ·rw[aMp hy]
     rfl
   ·rw[cP PR]
    simp only[aM0]
   ·intro j z hz
    obtain⟨c',k1,k2⟩:=rW j z hz
    exact⟨c',k1,k2.cW Dl⟩
   ·intro c hc
    rcases aMa.1 hc with hc | hc
    ·exact(hfs c hc).cW Dl
    ·rw[aMk] at hc
     subst hc
     exact⟨_,bH,rfl,aW (aNb bH) iO⟩
  ·have mZ:i=room xs.length:=by omega
   subst mZ
   simp only[pD,h0,h5,h7,bX,el,VX,Nat.reduceEqDiff,Nat.reduceAdd]
   rw[Nat.sub_self,List.replicate_zero,aMm] at mA
   exact hQ _ _ h0 h5 hO ⟨cells,fs,mA,mN,hfl,rW,hfs⟩
 have goal:∀(ρ0:cV),ρ0 0=lM xs→ρ0 1 = .sc (.bool bare)→ρ0 5 = .ref n 0 0 (xs.length+room xs.length) (xs.length+room xs.length)→True:=fun _ _ _ _=>trivial
 cases bare with
 |
  true =>
  have QB:=xR rfl
  simp only[uP,qQ,QB,w1,em,kC,VX,Nat.reduceEqDiff,Nat.reduceAdd]
  refine main _ rfl rfl rfl rfl _ fun aP H cells h0 h5 hO mN mA rW => ?_
  simp only[h0,h5,VX,Nat.reduceEqDiff,Nat.reduceAdd]
  refine WW _ _ cells (by exact h0) (by exact h5) rfl hO mN mA rW _ fun BY H h0 h5 hO hS => ?_
  obtain⟨cs,fs,k1,k2⟩:=hS
  have es:=rR (o:=0) (n:=xs.length+room xs.length) (c:=xs.length+room xs.length) (h:=xs.length) (k2 := .i64) k1 (by omega)
  simp only[h0,h5,es,VX,Nat.reduceEqDiff,Nat.reduceAdd]
  obtain⟨L,rfl,hL⟩:=hO
  exact⟨L,rfl,by simp[jL],hL,.inr ⟨rfl,cs,fs,k1,k2⟩⟩
 |
  false =>
  simp only[uP,qQ,w1,em,kC,VX,Nat.reduceEqDiff,Nat.reduceAdd]
  refine main _ rfl rfl rfl rfl _ fun aP H cells h0 h5 hO mN mA rW => ?_
  simp only[h0,h5,VX,Nat.reduceEqDiff,Nat.reduceAdd]
  refine WW _ _ cells (by exact h0) (by exact h5) rfl hO mN mA rW _ fun BY H h0 h5 hO hS => ?_
  obtain⟨cs,fs,k1,k2⟩:=hS
  have es:=rR (o:=0) (n:=xs.length+room xs.length) (c:=xs.length+room xs.length) (h:=xs.length) (k2 := .i64) k1 (by omega)
  simp only[h0,h5,es,VX,Nat.reduceEqDiff,Nat.reduceAdd]
  obtain⟨L,rfl,hL⟩:=hO
  exact⟨L,rfl,by simp[jL],hL,.inr ⟨rfl,cs,fs,k1,k2⟩⟩
end Go.PM
namespace Go.PM
structure rV where
 b:List ByteArray
 g:List (List ByteArray)
 e:List ByteArray
def tX (s:rV):VV := .agg [gJ s.b,lM s.g,gJ s.e]
theorem jN (s:rV):aY (tX s)=true:=by
 show aO [gJ s.b,lM s.g,gJ s.e]=true
 simp only[aO,kG,BL,Bool.and_self]
def ahP (s:rV):Prop:=okS s.b∧aBG s.g∧okS s.e
mutual
theorem Kz {n n':Nat} (h:n≤n') (v:VV) (hv:jL n' v=true):jL n v=true:=by
 cases v with
 | any=>cases hv
 | sc v=>exact hv
 | agg cs=>exact Gn h cs hv
 | eH cs=>exact Gn h cs hv
 | tree es k=>exact hv
 | cS=>cases hv
 | ref b g o n c=>simp only[jL,decide_eq_true_eq] at hv ⊢;omega
 | ptr b g j o=>simp only[jL,decide_eq_true_eq] at hv ⊢;omega
 | yV=>cases hv
theorem Gn {n n':Nat} (h:n≤n') (vs:List VV) (hv:Aw n' vs=true):Aw n vs=true:=by
 cases vs with
 | nil=>rfl
 |
  cons x xs =>
  simp only[Aw,aLM] at hv ⊢
  exact⟨Kz h x hv.1,Gn h xs hv.2⟩
end
def Lh (n k:Nat) (H:aA):Prop:=∀(b g:Nat) (es:List VV) (e:Nat) (w:Bool),k≤b→H[b]? = some (.row g es e w)→Aw n es=true
theorem Lh.app {n k:Nat} {H L:aA} (h:Lh n k H) (hn:n≤H.length) (hL:mP H.length L=true):Lh n k (H++L):=by
 intro b g es e w hb hr
 rcases aLh b H.length with bH | G0
 ·rw[aLv bH] at hr
  exact h b g es e w hb hr
 ·rw[aLw G0] at hr
  exact Gn hn _ (aLs.1 hL _ (aL8 hr))
theorem Lh.set {n k b:Nat} {H:aA} {x:eR} (h:Lh n k H) (hb:b<k):Lh n k (H.set b x):=by
 intro b' g es e w xR hr
 rw[List.getElem?_set_ne (by omega)] at hr
 exact h b' g es e w xR hr
theorem aiX {n k:Nat} {H:aA} (hk:n≤k) (hl:k≤H.length) (hO:Lh n k H):∃L,T9 H (aL4 n .dead++L)∧mP n L=true∧∀b g x,k≤b→aJ H b g=some x→aJ (aL4 n .dead++L) b g=some x:=by
 have e:aL4 n eR.dead++(aL4 (k-n) .dead++H.drop k)=aL4 k .dead++H.drop k:=by
  rw[←aM0,List.replicate_append_replicate,Nat.add_sub_cancel' hk]
 have get:∀b,k≤b→(aL4 k eR.dead++H.drop k)[b]? = H[b]? := fun b hb=>by
  rw[aLw (by simpa using hb),aM3,List.getElem?_drop]
  congr 1
  omega
 refine⟨aL4 (k-n) .dead++H.drop k,⟨?_,?_⟩,?_,?_⟩
 ·rw[e];simp;omega
 ·intro b g es e' w hb
  rw[e] at hb
  rcases aLh b k with h | h
  ·rw[aLv (by simpa using h)] at hb
   have:=aMp (aL8 hb)
   cases this
  ·rw[get b h] at hb
   exact hb
 ·unfold mP
  rw[List.all_append,aLM]
  constructor
  ·rw[aLs]
   intro x hx
   rw[aMp hx]
  ·rw[aLs]
   intro x hx
   obtain⟨j,hj⟩:=aNa hx
   rw[List.getElem?_drop] at hj
   cases x with
   | dead=>rfl
   | row g es e' w=>exact hO _ _ _ _ _ (aM6 _ _) hj
 ·intro b g x hb h
  obtain⟨es,e',w⟩:=x
  rw[dH] at h ⊢
  rw[e,get b hb]
  exact h
def wB (n:Nat) (H:aA) (bare:Bool) (xs:List (List ByteArray)) (c:VV):Prop :=
 (bare=true∧xs=[]∧c = .tree [] .nil)∨∃b,n<b∧c = .ref b 0 0 xs.length (xs.length+room xs.length)∧xQ H bare xs b
theorem wB.cW {n:Nat} {H H':aA} {bare:Bool} {xs:List (List ByteArray)} {c:VV} (h:wB n H bare xs c) (hk:∀b g x,n<b→aJ H b g=some x→aJ H' b g=some x):wB n H' bare xs c:=by
 rcases h with h | ⟨b,h1,h2,h3⟩
 ·exact .inl h
 ·exact .inr ⟨b,h1,h2,h3.cW fun b' g x hb=>hk b' g x (by omega)⟩
theorem wB.cell {n:Nat} {H:aA} {bare:Bool} {x:List (List ByteArray)} {c:VV} (h:wB n H bare x c):aB c=[c]∧bP c=true:=by
 rcases h with⟨_,_,rfl⟩ | ⟨b,h1,rfl,_⟩
 ·exact⟨rfl,rfl⟩
 ·exact⟨rfl,rfl⟩
theorem xQ.fz {d b:Nat} {H:aA} {bare:Bool} {xs:List (List ByteArray)} (h:xQ H bare xs b):PM.fz (d+3) H (.ref b 0 0 xs.length (xs.length+room xs.length))=some (lM xs):=by
 obtain⟨cells,iV,h1,h2,h3,h4,h5⟩:=h
 show PM.fz ((d+2)+1) H _=_
 unfold PM.fz
 have:aY (.ref b 0 0 xs.length (xs.length+room xs.length))=false:=rfl
 simp only[this,h1,aLQ,if_false]
 rw[if_pos ⟨by simp;omega,aM6 _ _⟩,aMq,List.take_left' h2]
 have:∀(xs:List (List ByteArray)) (cells:List VV),cells.length=xs.length→(∀(i:Nat) x,xs[i]? = some x→∃c,cells[i]? = some c∧uF b H bare x c)→cells.mapM (PM.fz (d+2) H)=some (xs.map gJ):=by
  intro xs
  induction xs with
  |
   nil=>intro cells hl _;cases cells with
   | nil=>rfl
   | cons=>cases hl
  |
   cons x xs ih =>
   intro cells hl hc
   cases cells with
   | nil=>cases hl
   |
    cons c cells =>
    obtain⟨c',k1,k2⟩:=hc 0 x rfl
    injection k1 with k1
    subst k1
    rw[aMB,k2.fz,ih cells (by simpa using hl) fun i x hx=>hc (i+1) x hx]
    rfl
 rw[this xs cells h2 h4]
 rfl
theorem PF {d:Nat} {H:aA}:PM.fz (d+1) H (.tree [] .nil)=some (.tree [] .op):=by
 unfold PM.fz
 have:aY (.tree [] .nil)=false:=rfl
 simp only[this,aLQ,if_false]
 rfl
theorem wB.fz {n d:Nat} {H:aA} {bare:Bool} {xs:List (List ByteArray)} {c:VV} (h:wB n H bare xs c):PM.fz (d+3) H c=some (lM xs):=by
 rcases h with⟨_,rfl,rfl⟩ | ⟨b,h1,rfl,h3⟩
 ·exact PF
 ·exact h3.fz
def vO (n:Nat) (H:aA) (bare:Bool) (s:rV) (r:VV):Prop:=∃c0 c1 c2,r = .agg [c0,c1,c2]∧uF n H bare s.b c0∧wB n H bare s.g c1∧uF n H bare s.e c2
theorem vO.cW {n:Nat} {H H':aA} {bare:Bool} {s:rV} {c:VV} (h:vO n H bare s c) (hk:∀b g x,n<b→aJ H b g=some x→aJ H' b g=some x):vO n H' bare s c:=by
 obtain⟨c0,c1,c2,rfl,h0,h1,h2⟩:=h
 exact⟨c0,c1,c2,rfl,h0.cW hk,h1.cW hk,h2.cW hk⟩
theorem vO.pre {n:Nat} {H H':aA} {bare:Bool} {s:rV} {c:VV} (h:vO n H bare s c) (hh:H <+: H'):vO n H' bare s c:=h.cW fun _ _ _ _=>cE hh
theorem vO.fz {n:Nat} {H:aA} {bare:Bool} {s:rV} {c:VV} (h:vO n H bare s c):PM.fz depth H c=some (tX s):=by
 obtain⟨c0,c1,c2,rfl,h0,h1,h2⟩:=h
 cases hp:aY (.agg [c0,c1,c2]) with
 |
  true =>
  simp only[aY,aO,aLM] at hp
  have f0:=h0.fz (d:=0)
  have f1:=h1.fz (d:=0)
  have f2:=h2.fz (d:=0)
  rw[aM hp.1] at f0
  rw[aM hp.2.1] at f1
  rw[aM hp.2.2.1] at f2
  injection f0 with f0
  injection f1 with f1
  injection f2 with f2
  subst f0 f1 f2
  exact aK (jN s)
 |
  false =>
  show PM.fz (7+1) H _=_
  unfold PM.fz
  simp only[hp,aLQ,if_false]
  rw[aMB,h0.fz (d:=5),aMB,h1.fz (d:=4),aMB,h2.fz (d:=5)]
  rfl
theorem aAV {n m lo:Nat} {x:List ByteArray} {bare:Bool} {H:aA} {K:VV→aA→Prop} (hx:x.length≤1000000000) (hn:n≤H.length) (hm:m<H.length) (hO:Lh n (m+1) H)
  (hk:∀c H',H <+: H'→Lh n (m+1) H'→uF m H' bare x c→jL n c=true→K c H'):dP 34 [gJ x,.sc (.bool bare)] lo H K:=by
 refine(Dv x bare hx).avL rfl (mapM_pure (n:=7) (by simp[aO,kG];rfl)) ?_
 rintro r L hR hv hL
 refine hk r _ (aM9 _ _) (hO.app hn hL) ?_ (Kz hn _ hv)
 rcases hR with⟨hb,rfl,rfl,rfl⟩ | ⟨rfl,rfl⟩
 ·exact .inl ⟨hb,rfl,rfl⟩
 ·exact .inr ⟨_,hm,rfl,FL (i:=0) rfl⟩
theorem aCi {n m lo:Nat} {xs:List (List ByteArray)} {bare:Bool} {H:aA} {K:VV→aA→Prop} (hl:xs.length≤1000000000) (hx:∀x∈xs,x.length≤1000000000) (hn:n≤H.length) (hm:m<H.length) (hO:Lh n (m+1) H)
  (hk:∀c H',H <+: H'→Lh n (m+1) H'→wB m H' bare xs c→jL n c=true→K c H'):dP 17 [lM xs,.sc (.bool bare)] lo H K:=by
 refine(JJ xs bare hl hx).avL rfl (mapM_pure (n:=7) (by simp[aO,BL];rfl)) ?_
 rintro r L hR hv hL
 refine hk r _ (aM9 _ _) (hO.app hn hL) ?_ (Kz hn _ hv)
 rcases hR with⟨hb,rfl,rfl,rfl⟩ | ⟨rfl,h⟩
 ·exact .inl ⟨hb,rfl,rfl⟩
 ·exact .inr ⟨_,hm,rfl,h.cW fun b' g x hb h=>Lv hb h⟩
end Go.PM
namespace Go.Proofs.YtjmflicajplclaaGreatDoor
open Go.ChangeShapes Go.WideShapes Go.ChangeAt Go.RowKit Go.PM
theorem IF {P:Program} {W:World} {base:Nat} {u e:TypeId} {v:Value} (ht:P.underlying u=some (.slice e)) (h:Cell.okWide P W .any base u v) (hB:¬Gi W):v = .slice none 0 0:=by
 simp only[Cell.okWide,ht,Cell.ok] at h
 split at h
 case h_7=>rfl
 case h_9 =>
  obtain⟨_,_,_,_,row,n,hs,_⟩:=h
  exfalso
  apply hB
  unfold World.shape? at hs
  split at hs
  ·rename_i arr e' fz hb
   exact⟨_,arr,e',fz,hb⟩
  ·cases hs
 all_goals first | exact h.elim | (rename_i hx;cases hx) | (rename_i hx _;cases hx)
theorem Ii {T:Type} {Ah:TypeId×Value→T} {W:World} (hB:Gi W):Fg Ah Tryz.prog W 33 1 fun vs=>∃s:List ByteArray,s.length≤maxLen∧(∀x∈s,x.size≤maxLen)∧vs=[gJ s] :=
 ME (f:=sV) (amX:=fun x=>x.size≤maxLen) Tryz.underlying33 (by kernel_rfl) (by decide) hB akV (Tt Tryz.underlying9)
theorem VF {T:Type} {Ah:TypeId×Value→T} {W:World} (hB:Gi W):Fg Ah Tryz.prog W 22 1 fun vs=>∃s:List (List ByteArray),s.length≤maxLen∧(∀x∈s,x.length≤maxLen∧∀y∈x,y.size≤maxLen)∧vs=[lM s]:=by
 refine ME (f:=gJ) (amX:=fun x=>x.length≤maxLen∧∀y∈x,y.size≤maxLen) Tryz.underlying22 (by kernel_rfl) (by decide) hB (fun _=>rfl) ?_
 intro fuel cs y h m H hI
 obtain⟨hl,m',L,Ls,vs,ho,s,h1,h2,rfl⟩:=Ii hB fuel cs y h m H hI
 exact⟨hl,m',L,Ls,_,ho,s,⟨h1,h2⟩,rfl⟩
theorem acB {T:Type} {Ah:TypeId×Value→T} {W:World} (hB:Gi W):Fg Ah Tryz.prog W 57 3 fun vs=>∃s:rV,ahP s∧vs=aB (tX s):=by
 intro fuel cs y h m H hI
 obtain⟨hl,m',L,Ls,vs,ho,a,b,c,⟨sa,a1,a2,rfl⟩,⟨sb,b1,b2,rfl⟩,⟨sc,c1,c2,rfl⟩,rfl⟩:=Vo Tryz.underlying57 (by kernel_rfl) ⟨_,rfl,rfl,rfl⟩ ⟨_,rfl,rfl,rfl⟩ ⟨_,rfl,rfl,rfl⟩ rfl (by kernel_rfl) (by kernel_rfl) (by kernel_rfl)
  (Ii hB) (VF hB) (Ii hB) fuel cs y h m H hI
 exact⟨hl,m',L,Ls,_,ho,⟨sa,sb,sc⟩,⟨⟨a1,a2⟩,⟨b1,b2⟩,⟨c1,c2⟩⟩,rfl⟩
theorem Un (xs:List Value) (i:Nat):xs.toArray.getD i Go.undef=xs.getD i Go.undef:=by
 simp[aLm,aLb]
set_option maxRecDepth 100000 in
theorem Uf {T:Type} {Ah:TypeId×Value→T} {W:World} {v:Value} {d:DataW T} {ps:List MemPlace} {base:Nat} {m:dS} {H:aH} (h:DataW.Trod Ah Tryz.prog W 0 (fun _=>true) true 57 v d ps) (hv:Value.okWide Tryz.prog W .any base 57 v) (hI:In m H W) :
  ∃m' L pv s,In m' (H++L) W∧(∀b l,m b=some l→m' b=some l)∧RV m' pv v∧VR (bare (· < (H++L).length) (H++L)) (tX s) pv∧ahP s:=by
 have hv':=hv
 obtain⟨cs,rfl,OQ⟩:=okWide_struct Tryz.underlying57 hv
 by_cases hB:Gi W
 ·obtain⟨fuel,hf⟩:=h
  have e:(Value.agg cs).cells.toList=cs.toList:=rfl
  rw[e] at hf
  obtain⟨hl,m',L,Ls,vs,ho,s,hs,rfl⟩:=acB hB fuel _ _ hf m H hI
  refine⟨m',L,.agg Ls.toArray,s,ho.inn,ho.ext,.agg _ _ ?_ fun i hi => ?_,.agg _ _ ho.tree,hs⟩
  ·have:=ho.len
   simpa using this
  ·have qK:i<cs.toList.length:=by have:=ho.len;simp at hi ⊢;simp at this;omega
   have:=ho.rv i qK
   rw[Un]
   have e2:cs.getD i Go.undef=cs.toList.getD i Go.undef:=by
    rw[←Un]
   rw[e2]
   exact this
 ·have hts:Tryz.prog.cellTypes Tryz.prog.depth 57=some [33,22,33]:=by kernel_rfl
  have h3:Tryz.prog.cellsOf 57=3:=by kernel_rfl
  rw[h3] at OQ
  simp only[Value.okWide,Tryz.underlying57] at hv'
  obtain⟨CC,e1,_,ts,e2,_,hc⟩:=hv'
  cases e1
  rw[hts] at e2
  cases e2
  have c0:cs[0]? = some (.slice none 0 0):=by
   have e:cs[0]? = some cs[0]:=aNc (by omega)
   obtain⟨u,hu,hk⟩:=hc 0 _ e
   cases hu
   rw[e,IF Tryz.underlying33 hk hB]
  have c1:cs[1]? = some (.slice none 0 0):=by
   have e:cs[1]? = some cs[1]:=aNc (by omega)
   obtain⟨u,hu,hk⟩:=hc 1 _ e
   cases hu
   rw[e,IF Tryz.underlying22 hk hB]
  have c2:cs[2]? = some (.slice none 0 0):=by
   have e:cs[2]? = some cs[2]:=aNc (by omega)
   obtain⟨u,hu,hk⟩:=hc 2 _ e
   cases hu
   rw[e,IF Tryz.underlying33 hk hB]
  refine⟨m,[],.agg #[.slice none 0 0,.slice none 0 0,.slice none 0 0],⟨[],[],[]⟩,by rw[aMm];exact hI,fun _ _ h=>h,.agg _ _ (by rw[OQ];rfl) fun i hi => ?_,.agg [.tree [] .op,.tree [] .op,.tree [] .op] [.slice none 0 0,.slice none 0 0,.slice none 0 0] (.cons _ _ _ _ (.pY _ (.inl rfl)) (.cons _ _ _ _ (.pY _ (.inl rfl)) (.cons _ _ _ _ (.pY _ (.inl rfl)) .nil))),⟨aLI _,fun x hx=>(by cases hx)⟩,⟨aLI _,fun x hx=>(by cases hx)⟩,⟨aLI _,fun x hx=>(by cases hx)⟩⟩
  match i,hi with
  | 0,_=>rw[show cs.getD 0 Go.undef = .slice none 0 0 by rw[aLm,c0];rfl];exact .M5
  | 1,_=>rw[show cs.getD 1 Go.undef = .slice none 0 0 by rw[aLm,c1];rfl];exact .M5
  | 2,_=>rw[show cs.getD 2 Go.undef = .slice none 0 0 by rw[aLm,c2];rfl];exact .M5
end Go.Proofs.YtjmflicajplclaaGreatDoor
namespace Go.Proofs.YtjmflicajplclaaGreatDoor
open Go.ChangeShapes Go.WideShapes Go.ChangeAt Go.RowKit Go.PM
end Go.Proofs.YtjmflicajplclaaGreatDoor
namespace Go.PM
section
variable {b:Nat}
theorem SU {α:Type} {pre jI post:List α} {o j:Nat} (ho:pre.length=o) (hj:j<jI.length):(pre++jI++post)[o+j]? = jI[j]? := by
 subst ho
 rw[aM0,aLw (by omega),aM5,aLv hj]
theorem abR {α:Type} {pre jI post:List α} {o j:Nat} {v:α} (ho:pre.length=o) (hj:j<jI.length):(pre++jI++post).set (o+j) v=pre++jI.set j v++post:=by
 subst ho
 rw[aM0,List.set_append_right _ _ (by omega),aM5,List.set_append_left _ _ hj,aM0]
theorem Qi {xs:List Nat} {i d:Nat} (h:i<xs.length):(xs.set i d).drop (i+1)=xs.drop (i+1):=by
 rw[List.set_eq_take_append_cons_drop,if_pos h,List.drop_append]
 simp[aMf (by omega:i≤xs.length)]
theorem ajL {U V W P V2 U3 g:Nat} (hV:V<(V2+1)*P) (hU:U3*P≤U) (hWP:W*P≤V) (hg:g≤W) (h:g*V2≤U3):g*V≤U+V:=by
 have h1:g*V≤g*((V2+1)*P):=aNd _ (by omega)
 have h2:g*((V2+1)*P)=g*V2*P+g*P:=by grind
 have h3:g*V2*P≤U3*P:=aLF _ h
 have h4:g*P≤W*P:=aLF _ hg
 omega
theorem amU {U V P V2 U3 g q:Nat} (hP:0<P) (hV:V2*P≤V) (hU:U<(U3+1)*P) (hq:q*V≤U) (h:U3<g*V2):q<g:=by
 have h1:q*(V2*P)≤q*V:=aNd _ hV
 have h2:q*V2*P<(U3+1)*P:=by
  have:q*V2*P=q*(V2*P):=by grind
  omega
 have h3:q*V2<U3+1:=aNe h2
 have h4:q*V2<g*V2:=by omega
 exact aNe h4
theorem Ce {xs:List Nat} {n t:Nat} (hx:∀d∈xs,d<b) (hn:xs.length=n+1) (ht:xs[n]? = some t):t*b^n≤val b xs∧val b xs<(t+1)*b^n:=by
 have h1:=bF (b:=b) ht
 rw[aL7 (by omega)] at h1
 have h2:=rM (b:=b) (xs:=xs.take n) fun d hd=>hx d (aMb hd)
 rw[aMN,aMf (by omega)] at h2
 rw[aLJ,Nat.mul_comm t]
 omega
theorem Fv {xs:List Nat} {n t u:Nat} (hx:∀d∈xs,d<b) (hn:xs.length=n+2) (ht:xs[n+1]? = some t) (hu:xs[n]? = some u):(t*b+u)*b^n≤val b xs∧val b xs<(t*b+u+1)*b^n:=by
 have h1:=bF (b:=b) ht
 rw[aL7 (by omega),bF hu] at h1
 have h2:=rM (b:=b) (xs:=xs.take n) fun d hd=>hx d (aMb hd)
 rw[aMN,aMf (by omega)] at h2
 have e:(t*b+u)*b^n=b^n*u+b^(n+1)*t:=by rw[aMF];grind
 rw[aLJ (t*b+u),e]
 omega
theorem Vz {xs:List Nat} {n t u v:Nat} (hx:∀d∈xs,d<b) (hn:xs.length=n+3) (ht:xs[n+2]? = some t) (hu:xs[n+1]? = some u) (hv:xs[n]? = some v):((t*b+u)*b+v)*b^n≤val b xs∧val b xs<((t*b+u)*b+v+1)*b^n:=by
 have h1:=bF (b:=b) ht
 rw[aL7 (by omega),bF hu,bF hv] at h1
 have h2:=rM (b:=b) (xs:=xs.take n) fun d hd=>hx d (aMb hd)
 rw[aMN,aMf (by omega)] at h2
 have e:((t*b+u)*b+v)*b^n=b^n*v+b^(n+1)*u+b^(n+2)*t:=by rw[aMF,aMF];grind
 rw[aLJ ((t*b+u)*b+v),e]
 omega
structure Ar (b:Nat) (us vs:List Nat) (n u2 u1 u0 v1 v0:Nat):Prop where
 hb:2≤b
 Rr:∀d∈us,d<b
 RD:∀d∈vs,d<b
 Yt:us.length=n+3
 N2:vs.length=n+2
 e2:us[n+2]? = some u2
 e1:us[n+1]? = some u1
 e0:us[n]? = some u0
 f1:vs[n+1]? = some v1
 f0:vs[n]? = some v0
 pos:1≤v1
 less:val b us<b*val b vs
section
variable {us vs:List Nat} {n u2 u1 u0 v1 v0:Nat} (G:Ar b us vs n u2 u1 u0 v1 v0)
include G
theorem Ar.LD:0<val b vs:=by
 have h:=(Fv G.RD G.N2 G.f1 G.f0).1
 have h1:0<(v1*b+v0)*b^n:=Nat.mul_pos (by have:=Nat.mul_pos G.pos (show 0<b by have:=G.hb;omega);omega) (Nat.pow_pos (by have:=G.hb;omega))
 omega
theorem Ar.avU:u2<b:=G.Rr _ (aL8 G.e2)
theorem Ar.aiY:u1<b:=G.Rr _ (aL8 G.e1)
theorem Ar.avI:u0<b:=G.Rr _ (aL8 G.e0)
theorem Ar.Zf:v1<b:=G.RD _ (aL8 G.f1)
theorem Ar.ahW:v0<b:=G.RD _ (aL8 G.f0)
theorem Ar.aqG:val b us / val b vs<b:=(Nat.div_lt_iff_lt_mul G.LD).2 G.less
theorem Ar.top:u2≤v1:=by
 have h1:=(Ce (n:=n+2) G.Rr G.Yt G.e2).1
 have h2:=(Ce (n:=n+1) G.RD G.N2 G.f1).2
 have h3:b*val b vs<b*((v1+1)*b^(n+1)):=Nat.mul_lt_mul_of_pos_left h2 (by have:=G.hb;omega)
 have h4:b*((v1+1)*b^(n+1))=(v1+1)*b^(n+2):=by rw[aMF b (n+1)];grind
 have h5:=G.less
 have h6:u2*b^(n+2)<(v1+1)*b^(n+2):=by omega
 have:=aNe h6
 omega
theorem Ar.too {g left:Nat} (hh:u2*b+u1=g*v1+left) (h:left*b+u0<g*v0):val b us / val b vs<g:=by
 have hu:=(Vz G.Rr G.Yt G.e2 G.e1 G.e0).2
 have hv:=(Fv G.RD G.N2 G.f1 G.f0).1
 refine amU (P:=b^n) (V2:=v1*b+v0) (U3:=(u2*b+u1)*b+u0) (Nat.pow_pos (by have:=G.hb;omega)) hv hu (Nat.div_mul_le_self _ _) ?_
 rw[hh]
 have:(g*v1+left)*b+u0=g*v1*b+(left*b+u0):=by grind
 have:g*(v1*b+v0)=g*v1*b+g*v0:=by grind
 omega
theorem Ar.aeZ {g left:Nat} (hh:u2*b+u1=g*v1+left) (hg:g≤b) (h:g*v0≤left*b+u0):g≤val b us / val b vs+1:=by
 have hu:=(Vz G.Rr G.Yt G.e2 G.e1 G.e0).1
 have hv:=Fv G.RD G.N2 G.f1 G.f0
 have h1:b*b^n≤val b vs:=by
  have:b*b^n≤(v1*b+v0)*b^n:=aLF _ (by have:=aLF b G.pos;omega)
  omega
 have h2:=ajL (U:=val b us) (V:=val b vs) (W:=b) (P:=b^n) (V2:=v1*b+v0) (U3:=(u2*b+u1)*b+u0) (g:=g) hv.2 hu h1 hg (by
  rw[hh]
  have:(g*v1+left)*b+u0=g*v1*b+(left*b+u0):=by grind
  have:g*(v1*b+v0)=g*v1*b+g*v0:=by grind
  omega)
 have h3:g≤(val b us+val b vs) / val b vs:=(Nat.le_div_iff_mul_le G.LD).2 h2
 rwa [Nat.add_div_right _ G.LD] at h3
theorem Ar.broken {g left:Nat} (hh:u2*b+u1=g*v1+left) (h:b≤left):g<b∧g*v0≤left*b+u0:=by
 have h1:=G.top
 have h2:=G.aiY
 have h3:u2*b≤v1*b:=aLF _ h1
 have h4:g*v1<b*v1:=by rw[Nat.mul_comm b];omega
 have hg:g<b:=aNe h4
 refine⟨hg,?_⟩
 have h5:=G.ahW
 have h6:g*v0≤b*b:=Nat.mul_le_mul (by omega) (by omega)
 have h7:b*b≤left*b:=aLF _ h
 omega
end
theorem afL {P A N T c l x y r W l' c' c1 lo t:Nat} (h:A+P*(c+l)=N+T) (h1:c1=c+t*y) (h2:c1=lo+W*c') (hd:r+lo+l=x+W*l'):(A+P*x)+P*W*(c'+l')=(N+P*r)+(T+P*(t*y)):=by
 subst h1
 have e:r+(c+t*y)+l=x+W*l'+W*c':=by omega
 have e2:P*(r+(c+t*y)+l)=P*(x+W*l'+W*c'):=by rw[e]
 grind
theorem alE {S S' V t P cl:Nat} (h:S+P*cl=S'+t*V) (hS':S'<P) (hV:V≤P) (ht:t*V≤S+V):cl=0∨cl=1:=by
 rcases aLh cl 2 with h1 | h1
 ·omega
 ·have:P*2≤P*cl:=aNd _ h1
  omega
theorem aiK {S S1 S2 V t P c:Nat} (h1:S+P=S1+t*V) (h2:S1+V=S2+P*c) (hS2:S2<P) (hV:V≤P) (ht:t*V≤S+V) (hS:S<P) (bH:S<t*V):S2+t*V=S+V:=by
 have hc:c=1:=by
  rcases aLh c 1 with h | h
  ·have:c=0:=by omega
   subst this
   omega
  ·rcases aLh c 2 with h3 | h3
   ·omega
   ·have:P*2≤P*c:=aNd _ h3
    omega
 subst hc
 omega
end
end Go.PM
namespace Go.PM
def bl (n:Nat):Nat:=(aD 2 n).length
theorem Hq (n:Nat):n<2^bl n:=iP (by decide) n
theorem Dm {n k:Nat} (h:n<2^k):bl n≤k:=oK (by decide) h
theorem lY {m n:Nat} (h:m≤n):bl m≤bl n:=eW (by decide) h
theorem nW (m n:Nat):bl (m*n)≤bl m+bl n:=by
 refine Dm ?_
 rw[aNf]
 exact aNg (Hq m) (Hq n)
theorem JF {n k:Nat} (h:bl n≤k):n<2^k:=aLg (Hq n) (aNh (by decide) h)
theorem YI {m n k:Nat} (hm:bl m≤k) (hn:bl n≤k):bl (m+n)≤k+1:=by
 refine Dm ?_
 have h1:=JF hm
 have h2:=JF hn
 rw[aMF]
 omega
theorem Zk:bl 0=0:=by simp[bl,cC]
theorem P8:bl 1=1:=by simp[bl,kM (b:=2) (by decide) (n:=1) (by decide),cC]
theorem ahX {n:Nat} (h:n≠0):1≤bl n:=by
 have:=lY (m:=1) (n:=n) (by omega)
 rwa [P8] at this
theorem auM (n:Nat):32*(aD 4294967296 n).length≤bl n+31:=by
 by_cases h:n=0
 ·subst h;rw[cC];simp
 ·have h1:=Ny (b:=4294967296) (by decide) h
  have h2:=Hq n
  have e:(4294967296:Nat)=2^32:=by decide
  rw[e] at h1 ⊢
  rw[←Nat.pow_mul] at h1
  have h3:2^(32*((aD (2^32) n).length-1))<2^bl n:=by omega
  have h4:=(aNi (by decide)).1 h3
  omega
theorem auP (n:Nat):29*(aD 1000000000 n).length≤bl n+28:=by
 by_cases h:n=0
 ·subst h;rw[cC];simp
 ·have h1:=Ny (b:=1000000000) (by decide) h
  have h2:=Hq n
  have h5:(2^29)^((aD 1000000000 n).length-1)≤1000000000^((aD 1000000000 n).length-1):=Nat.pow_le_pow_left (by decide) _
  rw[←Nat.pow_mul] at h5
  have h3:2^(29*((aD 1000000000 n).length-1))<2^bl n:=by omega
  have h4:=(aNi (by decide)).1 h3
  omega
def aL (q:Rat):Nat:=max (bl q.num.natAbs) (bl q.den)
theorem qJ {q:Rat}:bl q.num.natAbs≤aL q:=Nat.le_max_left _ _
theorem nR {q:Rat}:bl q.den≤aL q:=Nat.le_max_right _ _
theorem QU {q:Rat}:1≤aL q:=aLf (ahX q.den_nz) nR
theorem Vq {q:Rat} {k:Nat} (h1:bl q.num.natAbs≤k) (h2:bl q.den≤k):aL q≤k:=Nat.max_le.2 ⟨h1,h2⟩
theorem DH {n:Int} {d k:Nat} (h1:bl n.natAbs≤k) (h2:bl d≤k) (hk:1≤k):aL (mkRat n d)≤k:=by
 refine Vq ?_ ?_
 ·rw[Rat.num_mkRat]
  split
  ·rw[Int.natAbs_zero,Zk];omega
  ·exact aLf (lY (Int.natAbs_ediv_le_natAbs _ _)) h1
 ·rw[Rat.den_mkRat]
  split
  ·rw[P8];exact hk
  ·exact aLf (lY (Nat.div_le_self _ _)) h2
theorem yS (a b:Rat):aL (a+b)≤aL a+aL b+1:=by
 rw[Rat.add_def']
 have h1 := @qJ a
 have h2 := @qJ b
 have h3 := @nR a
 have h4 := @nR b
 have h5:=nW a.num.natAbs b.den
 have h6:=nW b.num.natAbs a.den
 have h7:=nW a.den b.den
 refine DH ?_ (by omega) (by omega)
 have h8:(a.num*b.den+b.num*a.den).natAbs≤a.num.natAbs*b.den+b.num.natAbs*a.den:=by
  refine aLf (Int.natAbs_add_le _ _) ?_
  rw[aNj,aNj,aNk,aNk]
  exact aLe _
 exact aLf (lY h8) (YI (by omega) (by omega))
theorem oA (a b:Rat):aL (a*b)≤aL a+aL b:=by
 rw[Rat.mul_def']
 have h1 := @qJ a
 have h2 := @qJ b
 have h3 := @nR a
 have h4 := @nR b
 have h5:=nW a.num.natAbs b.num.natAbs
 have h7:=nW a.den b.den
 have h8 := @QU a
 refine DH ?_ (by omega) (by omega)
 rw[aNj]
 omega
theorem Lu (a:Rat):aL (-a)=aL a:=by simp[aL]
theorem KA (a b:Rat):aL (a-b)≤aL a+aL b+1:=by
 rw[Rat.sub_eq_add_neg]
 have:=yS a (-b)
 rwa [Lu] at this
theorem Sd (a:Rat):aL a⁻¹≤aL a:=by
 have h1 := @qJ a
 have h2 := @nR a
 refine Vq ?_ ?_
 ·rw[Rat.num_inv,aNj,aNk]
  refine aLf (lY ?_) h2
  have h3:a.num.sign.natAbs≤1:=by
   rcases Int.lt_trichotomy a.num 0 with h | h | h
   ·rw[Int.sign_eq_neg_one_of_neg h];decide
   ·rw[h];decide
   ·rw[Int.sign_eq_one_of_pos h];decide
  have:=aLF a.den h3
  omega
 ·rw[Rat.den_inv]
  split
  ·rw[P8];exact QU
  ·exact h1
theorem Gu (a b:Rat):aL (a / b)≤aL a+aL b:=by
 rw[Rat.div_def]
 have:=oA a b⁻¹
 have:=Sd b
 omega
theorem nC:aL 0=1:=by simp[aL,Zk,P8]
theorem KZ:aL 1=1:=by simp[aL,P8]
def mF (neg:Bool) (t:Nat):Int:=if neg then -(t:Int) else t
theorem qX (neg:Bool) (t:Nat):(mF neg t).natAbs=t:=by cases neg<;>simp[mF]
theorem Te {neg:Bool} {t:Nat}:mF neg t<0↔neg=true∧t≠0:=by cases neg<;>simp[mF]<;>omega
theorem Bu (neg:Bool):mF neg 0=0:=by cases neg<;>rfl
theorem J3 (z:Int):mF (decide (z<0)) z.natAbs=z:=by
 by_cases h:z<0<;>simp[mF,h]<;>omega
theorem arL {neg:Bool} {t g:Nat}:(mF neg t) / (g:Int)=mF neg (t / g)∨¬g ∣ t:=by
 by_cases h:g ∣ t
 ·left
  obtain⟨k,rfl⟩:=h
  by_cases hg:g=0
  ·subst hg;simp[Bu]
  ·rw[Nat.mul_div_cancel_left _ (by omega)]
   cases neg
   ·simp only[mF]
    simp only[aLQ,if_false]
    rw[Int.natCast_mul,aNl _ (by omega)]
   ·simp only[mF,if_true]
    rw[Int.natCast_mul,←Int.mul_neg,aNl _ (by omega)]
 ·exact .inr h
theorem HY {neg:Bool} {t b:Nat} (hb:b≠0):(mkRat (mF neg t) b).num=mF neg (t / Nat.gcd t b):=by
 rw[Rat.num_mkRat,if_neg hb,qX,Nat.gcd_comm]
 rcases arL (neg:=neg) (t:=t) (g:=Nat.gcd t b) with h | h
 ·exact h
 ·exact absurd (Nat.gcd_dvd_left _ _) h
theorem SV {neg:Bool} {t b:Nat} (hb:b≠0):(mkRat (mF neg t) b).den=b / Nat.gcd t b:=by
 rw[Rat.den_mkRat,if_neg hb,qX,Nat.gcd_comm]
theorem NC (q:Rat):mkRat (mF (decide (q.num<0)) q.num.natAbs) q.den=q:=by rw[J3,Rat.mkRat_self]
end Go.PM
namespace Go.PM
def Sg (f:Nat→Rat):Nat→Rat
 | 0=>0
 | n+1=>Sg f n+f n
theorem fW {f g:Nat→Rat}:∀ {n:Nat},(∀i,i<n→f i=g i)→Sg f n=Sg g n
 | 0,_=>rfl
 | n+1,h=>by rw[Sg,Sg,fW fun i hi=>h i (by omega),h n (by omega)]
theorem JY {f:Nat→Rat} {n:Nat} (h:∀i,i<n→f i=0):Sg f n=0:=by
 induction n with
 | zero=>rfl
 | succ n ih=>rw[Sg,ih fun i hi=>h i (by omega),h n (by omega)];grind
theorem YD (f g:Nat→Rat) (n:Nat):Sg (fun i=>f i+g i) n=Sg f n+Sg g n:=by
 induction n with
 | zero=>simp only[Sg];grind
 | succ n ih=>simp only[Sg,ih];grind
theorem Ln (c:Rat) (f:Nat→Rat) (n:Nat):Sg (fun i=>c*f i) n=c*Sg f n:=by
 induction n with
 | zero=>simp only[Sg];grind
 | succ n ih=>simp only[Sg,ih];grind
theorem TB (f g:Nat→Rat) (n:Nat):Sg (fun i=>f i-g i) n=Sg f n-Sg g n:=by
 induction n with
 | zero=>simp only[Sg];grind
 | succ n ih=>simp only[Sg,ih];grind
theorem IN {f:Nat→Rat} {n k:Nat} (hk:k<n) (h:∀i,i<n→i≠k→f i=0):Sg f n=f k:=by
 induction n with
 | zero=>omega
 |
  succ n ih =>
  rw[Sg]
  by_cases Hl:k=n
  ·subst Hl
   rw[JY fun i hi=>h i (by omega) (by omega)]
   grind
  ·rw[ih (by omega) fun i hi=>h i (by omega),h n (by omega) (by omega)]
   grind
theorem aqX {f:Nat→Rat} {n k:Nat} (hk:k<n) (h:∀i,k<i→i<n→f i=0):Sg f n=Sg f k+f k:=by
 induction n with
 | zero=>omega
 |
  succ n ih =>
  by_cases Hl:k=n
  ·subst Hl;rfl
  ·rw[Sg,ih (by omega) fun i hi hn=>h i hi (by omega),h n (by omega) (by omega)]
   grind
theorem Q5 {f:Nat→Rat} {n:Nat} (h:∀i,i<n→0≤f i):0≤Sg f n:=by
 induction n with
 | zero=>exact Rat.le_refl
 |
  succ n ih =>
  have h1:=ih fun i hi=>h i (by omega)
  have h2:=h n (by omega)
  rw[Sg];grind
theorem atZ (F:Nat→Nat→Rat) (n m:Nat):Sg (fun i=>Sg (F i) m) n=Sg (fun j=>Sg (fun i=>F i j) n) m:=by
 induction n with
 | zero=>simp only[Sg];rw[JY];intros;rfl
 | succ n ih=>simp only[Sg,ih];rw[YD]
def gT (n:Nat) (A:Nat→Nat→Rat) (b x:Nat→Rat):Prop:=∀i,i<n→Sg (fun j=>A i j*x j) n=b i
def Bh (n:Nat) (A:Nat→Nat→Rat):Prop:=∀x,gT n A (fun _=>0) x→∀j,j<n→x j=0
theorem Bh.uniq {n:Nat} {A:Nat→Nat→Rat} {b x y:Nat→Rat} (h:Bh n A) (hx:gT n A b x) (hy:gT n A b y):∀j,j<n→x j=y j:=by
 intro j hj
 have:=h (fun j=>x j-y j) (fun i hi=>by
  have e:Sg (fun j=>A i j*(x j-y j)) n=Sg (fun j=>A i j*x j) n-Sg (fun j=>A i j*y j) n:=by
   rw[←TB]
   exact fW fun j _=>by grind
  rw[e,hx i hi,hy i hi]
  grind) j hj
 grind
def Hf (c:Nat→Rat) (k:Nat) (A:Nat→Nat→Rat):Nat→Nat→Rat:=fun i j=>A i j-c i*A k j
def TY (c:Nat→Rat) (k:Nat) (b:Nat→Rat):Nat→Rat:=fun i=>b i-c i*b k
theorem DU {n k:Nat} {A:Nat→Nat→Rat} {b x c:Nat→Rat} (hk:k<n) (hc:c k=0):gT n (Hf c k A) (TY c k b) x↔gT n A b x:=by
 have e:∀i,Sg (fun j=>Hf c k A i j*x j) n=Sg (fun j=>A i j*x j) n-c i*Sg (fun j=>A k j*x j) n:=by
  intro i
  rw[←Ln,←TB]
  exact fW fun j _=>by unfold Hf;grind
 constructor
 ·intro h
  have hk':=h k hk
  rw[e] at hk'
  unfold TY at hk'
  rw[hc] at hk'
  intro i hi
  have:=h i hi
  rw[e] at this
  unfold TY at this
  grind
 ·intro h i hi
  rw[e,h i hi,h k hk]
  rfl
theorem PG {n k:Nat} {A:Nat→Nat→Rat} {c:Nat→Rat} (hk:k<n) (hc:c k=0) (h:Bh n A):Bh n (Hf c k A):=by
 intro x hx
 refine h x ((DU (b:=fun _=>0) hk hc).1 fun i hi => ?_)
 rw[hx i hi]
 unfold TY
 grind
def swp {α:Type} (k m:Nat) (A:Nat→α):Nat→α:=fun i=>if i=k then A m else if i=m then A k else A i
theorem DZ {n k m:Nat} {A:Nat→Nat→Rat} {b x:Nat→Rat} (hk:k<n) (hm:m<n):gT n (swp k m A) (swp k m b) x↔gT n A b x:=by
 constructor
 ·intro h i hi
  by_cases h1:i=k
  ·subst h1
   have:=h m hm
   unfold swp at this
   by_cases h2:m=i
   ·subst h2;simpa using this
   ·simpa[h2] using this
  ·by_cases h2:i=m
   ·subst h2
    have:=h k hk
    unfold swp at this
    simpa using this
   ·have:=h i hi
    unfold swp at this
    simpa[h1,h2] using this
 ·intro h i hi
  unfold swp
  by_cases h1:i=k
  ·subst h1
   simpa using h m hm
  ·by_cases h2:i=m
   ·subst h2
    simpa[h1] using h k hk
   ·simpa[h1,h2] using h i hi
theorem Oz {n k m:Nat} {A:Nat→Nat→Rat} (hk:k<n) (hm:m<n) (h:Bh n A):Bh n (swp k m A):=by
 intro x hx
 refine h x ((DZ (b:=fun _=>0) hk hm).1 fun i hi => ?_)
 rw[hx i hi]
 unfold swp
 split<;>(try split)<;>rfl
def Bi (n k:Nat) (A:Nat→Nat→Rat):Prop:=(∀i j,i<n→j<k→j<i→A i j=0)∧∀j,j<k→A j j≠0
theorem Bi.solve {k:Nat} {A:Nat→Nat→Rat}:∀ {m:Nat},m≤k→Bi k k A→∀b:Nat→Rat,(∀i,m≤i→b i=0)→∃x:Nat→Rat,(∀i,m≤i→x i=0)∧gT k A b x
 | 0,_,_,b,hb=>⟨fun _=>0,fun _ _=>rfl,fun i _=>by rw[JY fun j _=>by grind,hb i (aLI _)]⟩
 |
  m+1,hm,hU,b,hb=>by
  let t:=b m / A m m
  obtain⟨x,Rc,hx⟩:=Bi.solve (m:=m) (by omega) hU (fun i=>if i<m then b i-A i m*t else 0) (fun i hi=>if_neg (by omega))
  refine⟨fun i=>if i=m then t else x i,fun i hi => ?_,fun i hi => ?_⟩
  ·simp only[]
   rw[if_neg (by omega)]
   exact Rc i (by omega)
  ·have e:Sg (fun j=>A i j*(if j=m then t else x j)) k=Sg (fun j=>A i j*x j) k+A i m*t:=by
    have e1:Sg (fun j=>if j=m then A i m*t else 0) k=A i m*t:=by
     rw[IN (k:=m) (by omega) fun j _ hj=>if_neg hj,if_pos rfl]
    rw[←e1,←YD]
    refine fW fun j _ => ?_
    by_cases hj:j=m
    ·subst hj
     rw[if_pos rfl,if_pos rfl,Rc j (aLe _)]
     grind
    ·rw[if_neg hj,if_neg hj]
     grind
   rw[e,hx i hi]
   simp only[]
   have hmm:=hU.2 m (by omega)
   by_cases h1:i<m
   ·rw[if_pos h1];grind
   ·rw[if_neg h1]
    by_cases h2:i=m
    ·subst h2
     show 0+A i i*(b i / A i i)=b i
     grind
    ·rw[hU.1 i m hi (by omega) (by omega),hb i (by omega)]
     grind
theorem Bh.amH {n k:Nat} {A:Nat→Nat→Rat} (hF:Bh n A) (hk:k<n) (hU:Bi n k A):∃m,k≤m∧m<n∧A m k≠0:=by
 apply Classical.byContradiction
 intro hno
 have hz:∀m,k≤m→m<n→A m k=0:=fun m h1 h2=>Classical.byContradiction fun h=>hno ⟨m,h1,h2,h⟩
 have hU':Bi k k A:=⟨fun i j hi hj=>hU.1 i j (by omega) hj,hU.2⟩
 obtain⟨x,Rc,hx⟩:=hU'.solve (m:=k) (aLe _) (fun i=>if i<k then-A i k else 0) (fun i hi=>if_neg (by omega))
 have:=hF (fun j=>if j=k then 1 else x j) (fun i hi=>by
  have e:Sg (fun j=>A i j*(if j=k then 1 else x j)) n=Sg (fun j=>A i j*x j) k+A i k:=by
   rw[aqX hk fun j h1 h2=>by rw[if_neg (by omega),Rc j (by omega)];grind]
   rw[if_pos rfl,fW (g:=fun j=>A i j*x j) fun j hj=>by rw[if_neg (by omega)]]
   grind
  rw[e]
  by_cases Uj:i<k
  ·rw[hx i Uj];simp only[];rw[if_pos Uj];grind
  ·rw[hz i (by omega) hi,JY fun j hj=>by rw[hU.1 i j hi hj (by omega)];grind]
   grind) k hk
 rw[if_pos rfl] at this
 exact absurd this (by decide)
theorem Bi.step {n k:Nat} {A:Nat→Nat→Rat} (hU:Bi n k A) (TN:A k k≠0) (hk:k<n):Bi n (k+1) (Hf (fun i=>if k<i then A i k / A k k else 0) k A):=by
 refine⟨fun i j hi hj Ea => ?_,fun j hj => ?_⟩
 ·unfold Hf
  by_cases Xc:j=k
  ·subst Xc
   simp only[]
   rw[if_pos Ea]
   grind
  ·rw[hU.1 i j hi (by omega) Ea,hU.1 k j hk (by omega) (by omega)]
   grind
 ·unfold Hf
  by_cases Xc:j=k
  ·subst Xc
   simp only[]
   rw[if_neg (by omega)]
   grind
  ·simp only[]
   rw[if_neg (by omega)]
   have:=hU.2 j (by omega)
   grind
theorem Bi.swp {n k m:Nat} {A:Nat→Nat→Rat} (hU:Bi n k A) (hk:k≤m) (hm:m<n):Bi n k (swp k m A):=by
 refine⟨fun i j hi hj Ea => ?_,fun j hj => ?_⟩
 ·unfold Go.PM.swp
  split
  ·exact hU.1 m j hm hj (by omega)
  ·split
   ·exact hU.1 k j (by omega) hj (by omega)
   ·exact hU.1 i j hi hj Ea
 ·unfold Go.PM.swp
  rw[if_neg (by omega),if_neg (by omega)]
  exact hU.2 j hj
def M4 (n k:Nat) (A:Nat→Nat→Rat):Prop:=(∀i j,i<n→j<k→i≠j→A i j=0)∧∀j,j<k→A j j≠0
theorem M4.upper {n k:Nat} {A:Nat→Nat→Rat} (h:M4 n k A):Bi n k A:=⟨fun i j hi hj Ea=>h.1 i j hi hj (by omega),h.2⟩
theorem M4.step {n k:Nat} {A:Nat→Nat→Rat} (hU:M4 n k A) (TN:A k k≠0) (hk:k<n):M4 n (k+1) (Hf (fun i=>if i=k then 0 else A i k / A k k) k A):=by
 refine⟨fun i j hi hj Ea => ?_,fun j hj => ?_⟩
 ·unfold Hf
  by_cases Xc:j=k
  ·subst Xc
   simp only[]
   rw[if_neg Ea]
   grind
  ·rw[hU.1 i j hi (by omega) Ea,hU.1 k j hk (by omega) (by omega)]
   grind
 ·unfold Hf
  by_cases Xc:j=k
  ·subst Xc
   simp only[]
   rw[if_pos trivial]
   grind
  ·simp only[]
   rw[if_neg Xc,hU.1 k j hk (by omega) (by omega)]
   have:=hU.2 j (by omega)
   grind
theorem M4.swp {n k m:Nat} {A:Nat→Nat→Rat} (hU:M4 n k A) (hk:k≤m) (hm:m<n):M4 n k (swp k m A):=by
 refine⟨fun i j hi hj Ea => ?_,fun j hj => ?_⟩
 ·unfold Go.PM.swp
  split
  ·exact hU.1 m j hm hj (by omega)
  ·split
   ·exact hU.1 k j (by omega) hj (by omega)
   ·exact hU.1 i j hi hj Ea
 ·unfold Go.PM.swp
  rw[if_neg (by omega),if_neg (by omega)]
  exact hU.2 j hj
theorem M4.akX {n:Nat} {A:Nat→Nat→Rat} (hU:M4 n n A) (b:Nat→Rat):gT n A b fun i=>b i / A i i:=by
 intro i hi
 rw[IN hi fun j hj Ea=>by rw[hU.1 i j hi hj (Ne.symm Ea)];grind]
 have:=hU.2 i hi
 grind
theorem Bi.back {n k:Nat} {A:Nat→Nat→Rat} {b x:Nat→Rat} (hU:Bi n n A) (hx:gT n A b x) (hk:k<n):x k=(b k-(Sg (fun j=>A k j*x j) n-Sg (fun j=>A k j*x j) (k+1))) / A k k:=by
 have h1:=hx k hk
 have h2:Sg (fun j=>A k j*x j) (k+1)=A k k*x k:=by
  rw[IN (k:=k) (by omega) fun j hj Xc=>by rw[hU.1 k j hk (by omega) (by omega)];grind]
 have:=hU.2 k hk
 rw[h1,h2]
 grind
end Go.PM
namespace Go.PM
def xL (s:Int) (g:Nat) (a:Rat):Prop:=∃M:Int,a*(s:Rat)=(M:Rat)∧M.natAbs<2^g
theorem xL.bits {s:Int} {g:Nat} {a:Rat} (h:xL s g a) (hs:s≠0) (hg:s.natAbs<2^g):aL a≤g:=by
 obtain⟨M,hM,hl⟩:=h
 have h1:1≤g:=by
  cases g with
  | zero=>simp at hg;omega
  | succ g=>omega
 have hsr:(s:Rat)≠0:=by
  intro h
  exact hs (by exact_mod_cast h)
 have ha:a=(M:Rat) / (s:Rat):=by grind
 rcases Int.lt_or_gt_of_ne hs with mG | lQ
 ·have e:a=mkRat (-M) s.natAbs:=by
   rw[Rat.mkRat_eq_div]
   have:((s.natAbs:Nat):Int) = -s:=by omega
   have e2:((s.natAbs:Nat):Rat) = -(s:Rat):=by
    rw[←Rat.intCast_natCast,this,Rat.intCast_neg]
   rw[e2,Rat.intCast_neg,ha]
   grind
  rw[e]
  exact DH (by rw[Int.natAbs_neg];exact Dm hl) (Dm hg) h1
 ·have e:a=mkRat M s.natAbs:=by
   rw[Rat.mkRat_eq_div]
   have:((s.natAbs:Nat):Int)=s:=by omega
   have e2:((s.natAbs:Nat):Rat)=(s:Rat):=by
    rw[←Rat.intCast_natCast,this]
   rw[e2,ha]
  rw[e]
  exact DH (Dm hl) (Dm hg) h1
def pR (g n m:Nat) (A:Nat→Nat→Rat):Prop:=∃s:Int,s≠0∧s.natAbs<2^g∧∀i j,i<n→j<m→xL s g (A i j)
theorem pR.bits {g n m:Nat} {A:Nat→Nat→Rat} (h:pR g n m A) {i j:Nat} (hi:i<n) (hj:j<m):aL (A i j)≤g:=by
 obtain⟨s,h1,h2,h3⟩:=h
 exact(h3 i j hi hj).bits h1 h2
theorem Vr (a b:Nat):2^a*2^b=2^(a+b):=(aNf 2 a b).symm
theorem zB {x y:Int} {g:Nat} (hx:x.natAbs<2^g) (hy:y.natAbs<2^g):(x*y).natAbs<2^(2*g):=by
 rw[aNj,show 2*g=g+g by omega,←Vr]
 exact aNg hx hy
theorem pR.Hf {g n m k:Nat} {A:Nat→Nat→Rat} {c:Nat→Rat} (h:pR g n m A) (hk:k<n) (hkm:k<m) (TN:A k k≠0) (hc:∀i,i<n→c i=0∨c i=A i k / A k k):pR (2*g+1) n m (Hf c k A):=by
 obtain⟨s,h1,h2,h3⟩:=h
 obtain⟨K,hK,hKl⟩:=h3 k k hk hkm
 have hsr:(s:Rat)≠0:=fun h=>h1 (by exact_mod_cast h)
 have hKr:(K:Rat)≠0:=by
  rw[←hK]
  grind
 have hK0:K≠0:=by
  intro h
  rw[h] at hKr
  exact hKr rfl
 have hp:2^(2*g+1)=2^(2*g)+2^(2*g):=by rw[aMF];omega
 refine⟨s*K,Int.mul_ne_zero h1 hK0,by have:=zB h2 hKl;omega,fun i j hi hj => ?_⟩
 obtain⟨M,hM,hMl⟩:=h3 i j hi hj
 obtain⟨N,hN,hNl⟩:=h3 i k hi hkm
 obtain⟨R,hR,hRl⟩:=h3 k j hk hj
 rcases hc i hi with hci | hci
 ·refine⟨M*K,?_,by have:=zB hMl hKl;omega⟩
  unfold Go.PM.Hf
  rw[hci,aNm,aNm,←hM]
  grind
 ·refine⟨M*K-N*R,?_,?_⟩
  ·unfold Go.PM.Hf
   rw[hci,aNm,Rat.intCast_sub,aNm,aNm,←hM,←hN,←hR,←hK]
   grind
  ·have e1:=zB hMl hKl
   have e2:=zB hNl hRl
   have e3:(M*K-N*R).natAbs≤(M*K).natAbs+(N*R).natAbs:=by omega
   omega
theorem pR.swp {g n m k r:Nat} {A:Nat→Nat→Rat} (h:pR g n m A) (hk:k<n) (hr:r<n):pR g n m (swp k r A):=by
 obtain⟨s,h1,h2,h3⟩:=h
 refine⟨s,h1,h2,fun i j hi hj => ?_⟩
 unfold Go.PM.swp
 split
 ·exact h3 r j hr hj
 ·split
  ·exact h3 k j hk hj
  ·exact h3 i j hi hj
def rhs (n:Nat) (B:Nat→Nat→Rat):Nat→Rat:=fun i=>B i n
theorem asY {n k r:Nat} {B:Nat→Nat→Rat}:rhs n (swp k r B)=swp k r (rhs n B):=by
 funext i
 unfold rhs swp
 split
 ·rfl
 ·split<;>rfl
theorem Bh.alQ {n g:Nat} {B:Nat→Nat→Rat} (hF:Bh n B) (hS:pR g n (n+1) B):∀k,k≤n →
  ∃B',M4 n k B'∧Bh n B'∧pR (2^k*(g+1)-1) n (n+1) B'∧∀x,gT n B' (rhs n B') x↔gT n B (rhs n B) x
 | 0,_=>⟨B,⟨fun _ _ _ h _=>absurd h (aMv _),fun _ h=>absurd h (aMv _)⟩,hF,by simpa using hS,fun _=>Iff.rfl⟩
 |
  k+1,hk=>by
  obtain⟨B',h1,h2,h3,h4⟩:=Bh.alQ hF hS k (by omega)
  obtain⟨m,Oj,Ym,hm3⟩:=h2.amH (by omega) h1.upper
  have g1:=h1.swp Oj Ym
  have g2:=Oz (k:=k) (m:=m) (by omega) Ym h2
  have g3:=h3.swp (k:=k) (r:=m) (by omega) Ym
  have TN:swp k m B' k k≠0:=by
   unfold Go.PM.swp
   rw[if_pos rfl]
   exact hm3
  have hck:(fun i=>if i=k then 0 else swp k m B' i k / swp k m B' k k) k=0:=if_pos rfl
  refine⟨Hf (fun i=>if i=k then 0 else swp k m B' i k / swp k m B' k k) k (swp k m B'),g1.step TN (by omega),PG (by omega) hck g2,?_,fun x => ?_⟩
  ·have e:2^(k+1)*(g+1)-1=2*(2^k*(g+1)-1)+1:=by
    have h0:0<2^k*(g+1):=Nat.mul_pos (aNn _) (by omega)
    have:2^(k+1)*(g+1)=2*(2^k*(g+1)):=by rw[aMF];grind
    omega
   rw[e]
   refine g3.Hf (by omega) (by omega) TN fun i hi => ?_
   by_cases Uj:i=k
   ·exact .inl (if_pos Uj)
   ·exact .inr (if_neg Uj)
  ·have e1:=DU (n:=n) (k:=k) (b:=rhs n (swp k m B')) (x:=x) (c:=fun i=>if i=k then 0 else swp k m B' i k / swp k m B' k k) (A:=swp k m B') (by omega) hck
   have e2:=DZ (n:=n) (k:=k) (m:=m) (b:=rhs n B') (x:=x) (A:=B') (by omega) Ym
   rw[←asY] at e2
   exact(e1.trans e2).trans (h4 x)
theorem Bh.akA {n g:Nat} {B:Nat→Nat→Rat} (hF:Bh n B) (hS:pR g n (n+1) B):∃X,gT n B (rhs n B) X∧∀i,i<n→aL (X i)≤2*(2^n*(g+1)):=by
 obtain⟨B',h1,h2,h3,h4⟩:=Bh.alQ hF hS n (aLe _)
 refine⟨fun i=>rhs n B' i / B' i i,(h4 _).1 (h1.akX _),fun i hi => ?_⟩
 have b1:=h3.bits hi (Nat.lt_succ_self n)
 have b2:=h3.bits hi (show i<n+1 by omega)
 have b3:=Gu (B' i n) (B' i i)
 show aL (B' i n / B' i i)≤_
 omega
end Go.PM
namespace Go.PM
section
variable {α:Type}
def vec (n:Nat) (f:Nat→α):List α:=(List.range n).map f
def QN (n m:Nat) (F:Nat→Nat→α):List (List α):=vec n fun a=>vec m (F a)
theorem oV (n:Nat) (f:Nat→α):(vec n f).length=n:=by simp[vec]
theorem GU (n m:Nat) (F:Nat→Nat→α):(QN n m F).length=n:=oV ..
theorem Ct {n i:Nat} {f:Nat→α} (h:i<n):(vec n f)[i]? = some (f i):=by simp[vec,h]
theorem I2 {n i:Nat} {f:Nat→α} (h:n≤i):(vec n f)[i]? = none:=by rw[aLE];rw[oV];exact h
theorem xX {n:Nat} {f g:Nat→α} (h:∀i,i<n→f i=g i):vec n f=vec n g:=List.map_congr_left fun i hi=>h i (List.mem_range.1 hi)
theorem Ky {n m:Nat} {F G:Nat→Nat→α} (h:∀a b,a<n→b<m→F a b=G a b):QN n m F=QN n m G:=xX fun a ha=>xX fun b hb=>h a b ha hb
theorem Np {n m i:Nat} {F:Nat→Nat→α} (h:i<n):(QN n m F)[i]? = some (vec m (F i)):=Ct h
theorem TG {n j:Nat} {f:Nat→α} {y:α}:(vec n f).set j y=vec n fun b=>if b=j then y else f b:=by
 apply aNo
 intro b
 rw[List.getElem?_set,oV]
 by_cases hb:b<n
 ·rw[Ct hb,Ct hb]
  by_cases hj:j=b
  ·subst hj;simp[hb]
  ·simp[hj,Ne.symm hj]
 ·rw[I2 (by omega),I2 (by omega)]
  split
  ·rw[if_neg (by omega)]
  ·rfl
theorem Tv {n m i:Nat} {F:Nat→Nat→α} {g:Nat→α}:(QN n m F).set i (vec m g)=QN n m fun a b=>if a=i then g b else F a b:=by
 rw[QN,TG]
 refine xX fun a _ => ?_
 split
 ·rename_i h
  exact xX fun b _=>(if_pos h).symm
 ·rename_i h
  exact xX fun b _=>(if_neg h).symm
theorem K2 {n:Nat} {x:α}:aL4 n x=vec n fun _=>x:=by
 apply aNo
 intro i
 by_cases h:i<n
 ·rw[Ct h,aNp,if_pos h]
 ·rw[I2 (by omega),aNp,if_neg h]
theorem adZ {n m:Nat} {x:α}:aL4 n (aL4 m x)=QN n m fun _ _=>x:=by rw[K2,K2];rfl
theorem ayQ (xs:List α) (d:α):xs=vec xs.length fun i=>xs.getD i d:=by
 apply aNo
 intro i
 by_cases h:i<xs.length
 ·rw[Ct h,aLb,aLl h]
  rfl
 ·rw[I2 (by omega),aLE (by omega)]
theorem Kg {n:Nat} {f:Nat→α} {x:α}:x∈vec n f↔∃i,i<n∧f i=x:=by simp[vec]
theorem Z0 {n m:Nat} {F:Nat→Nat→α} {r:List α} (h:r∈QN n m F):∃i,i<n∧r=vec m (F i):=by
 obtain⟨i,hi,rfl⟩:=Kg.1 h
 exact⟨i,hi,rfl⟩
theorem PK {n:Nat} {f:Nat→α}:vec (n+1) f=vec n f++[f n]:=by simp[vec,List.range_succ]
end
end Go.PM
namespace Go.PM
theorem xL.wide {s:Int} {g g':Nat} {a:Rat} (h:xL s g a) (hg:g≤g'):xL s g' a:=by
 obtain⟨M,h1,h2⟩:=h
 exact⟨M,h1,aLg h2 (aNh (by decide) hg)⟩
theorem xL.zero {s:Int} {g:Nat}:xL s g 0:=⟨0,by simp,by simpa using aNn g⟩
theorem xL.mul {s t:Int} {g h:Nat} {a b:Rat} (ha:xL s g a) (hb:xL t h b):xL (s*t) (g+h) (a*b):=by
 obtain⟨M,m1,m2⟩:=ha
 obtain⟨N,n1,n2⟩:=hb
 refine⟨M*N,?_,?_⟩
 ·rw[aNm,aNm,←m1,←n1]
  grind
 ·rw[aNj,aNf]
  exact aNg m2 n2
theorem xL.sum {s:Int} {g:Nat} {f:Nat→Rat}:∀ {n:Nat},(∀j,j<n→xL s g (f j))→∃M:Int,Sg f n*(s:Rat)=(M:Rat)∧M.natAbs≤n*(2^g-1)
 | 0,_=>⟨0,by simp[Sg],by simp⟩
 |
  n+1,h=>by
  obtain⟨M,m1,m2⟩:=xL.sum (n:=n) fun j hj=>h j (by omega)
  obtain⟨N,n1,n2⟩:=h n (by omega)
  refine⟨M+N,?_,?_⟩
  ·rw[Sg,Rat.add_mul,m1,n1,Rat.intCast_add]
  ·have:=Int.natAbs_add_le M N
   rw[aLJ]
   omega
theorem xL.We {s:Int} {g n:Nat} {f:Nat→Rat} (hn:n≤16) (h:∀j,j<n→xL s g (f j)):xL s (g+4) (Sg f n):=by
 obtain⟨M,m1,m2⟩:=xL.sum h
 refine⟨M,m1,?_⟩
 have h1:n*(2^g-1)≤16*(2^g-1):=aLF _ hn
 have h2:=aNn g
 rw[aNf]
 omega
def dQ (h n:Nat) (X:Nat→Rat):Prop:=∃t:Int,t≠0∧t.natAbs<2^h∧∀i,i<n→xL t h (X i)
theorem dQ.bits {h n:Nat} {X:Nat→Rat} (hX:dQ h n X) {i:Nat} (hi:i<n):aL (X i)≤h:=by
 obtain⟨t,h1,h2,h3⟩:=hX
 exact(h3 i hi).bits h1 h2
theorem pR.row {g n m:Nat} {A:Nat→Nat→Rat} (h:pR g n m A) {i:Nat} (hi:i<n):dQ g m (A i):=by
 obtain⟨s,h1,h2,h3⟩:=h
 exact⟨s,h1,h2,fun j hj=>h3 i j hi hj⟩
theorem dQ.mix {g h n:Nat} {c X:Nat→Rat} (hc:dQ g n c) (hX:dQ h n X) (hn:n≤16):aL (Sg (fun j=>c j*X j) n)≤g+h+4:=by
 obtain⟨s,s1,s2,s3⟩:=hc
 obtain⟨t,t1,t2,t3⟩:=hX
 have h1:=xL.We (s:=s*t) (g:=g+h) hn fun j hj=>(s3 j hj).mul (t3 j hj)
 refine h1.bits (Int.mul_ne_zero s1 t1) ?_
 rw[aNj]
 have h2:s.natAbs*t.natAbs<2^g*2^h:=aNg s2 t2
 rw[←aNf] at h2
 exact aLg h2 (aNh (by decide) (by omega))
theorem dQ.some {g n:Nat} {c:Nat→Rat} (hc:dQ g n c) (p:Nat→Prop) [DecidablePred p]:dQ g n fun j=>if p j then 0 else c j:=by
 obtain⟨s,s1,s2,s3⟩:=hc
 refine⟨s,s1,s2,fun j hj => ?_⟩
 by_cases h:p j
 ·simp only[h,if_true]
  exact xL.zero
 ·simp only[h,if_false]
  exact s3 j hj
structure X1 (n k g:Nat) (A:Nat→Nat→Rat) (b X:Nat→Rat):Prop where
 f:Bh n A
 u:Bi n k A
 s:gT n A b X
 z:pR g n n A
structure DgS (n k g:Nat) (A:Nat→Nat→Rat) (b X:Nat→Rat):Prop where
 f:Bh n A
 u:M4 n k A
 s:gT n A b X
 z:pR g n n A
section
variable {n k m g h:Nat} {A:Nat→Nat→Rat} {b X:Nat→Rat}
theorem X1.swp (H:X1 n k g A b X) (hk:k≤m) (hm:m<n):X1 n k g (swp k m A) (swp k m b) X :=
 ⟨Oz (by omega) hm H.f,H.u.swp hk hm,(DZ (by omega) hm).2 H.s,H.z.swp (by omega) hm⟩
theorem DgS.swp (H:DgS n k g A b X) (hk:k≤m) (hm:m<n):DgS n k g (swp k m A) (swp k m b) X :=
 ⟨Oz (by omega) hm H.f,H.u.swp hk hm,(DZ (by omega) hm).2 H.s,H.z.swp (by omega) hm⟩
def M3 (k:Nat) (A:Nat→Nat→Rat):Nat→Rat:=fun i=>if k<i then A i k / A k k else 0
def cDg (k:Nat) (A:Nat→Nat→Rat):Nat→Rat:=fun i=>if i=k then 0 else A i k / A k k
theorem X1.step (H:X1 n k g A b X) (TN:A k k≠0) (hk:k<n):X1 n (k+1) (2*g+1) (Hf (M3 k A) k A) (TY (M3 k A) k b) X:=by
 have hc:M3 k A k=0:=if_neg (Nat.lt_irrefl _)
 refine⟨PG hk hc H.f,H.u.step TN hk,(DU hk hc).2 H.s,H.z.Hf hk hk TN fun i _ => ?_⟩
 unfold M3
 by_cases h:k<i
 ·exact .inr (if_pos h)
 ·exact .inl (if_neg h)
theorem DgS.step (H:DgS n k g A b X) (TN:A k k≠0) (hk:k<n):DgS n (k+1) (2*g+1) (Hf (cDg k A) k A) (TY (cDg k A) k b) X:=by
 have hc:cDg k A k=0:=if_pos rfl
 refine⟨PG hk hc H.f,H.u.step TN hk,(DU hk hc).2 H.s,H.z.Hf hk hk TN fun i _ => ?_⟩
 unfold cDg
 by_cases h:i=k
 ·exact .inl (if_pos h)
 ·exact .inr (if_neg h)
theorem X1.right (H:X1 n k g A b X) (hX:dQ h n X) (hn:n≤16) {i:Nat} (hi:i<n):aL (b i)≤g+h+4:=by
 rw[←H.s i hi]
 exact(H.z.row hi).mix hX hn
theorem DgS.right (H:DgS n k g A b X) (hX:dQ h n X) (hn:n≤16) {i:Nat} (hi:i<n):aL (b i)≤g+h+4:=by
 rw[←H.s i hi]
 exact(H.z.row hi).mix hX hn
theorem DgS.done (H:DgS n n g A b X) {i:Nat} (hi:i<n):X i=b i / A i i:=(H.f.uniq H.s (H.u.akX b)) i hi
def bk (A:Nat→Nat→Rat) (b X:Nat→Rat) (k j:Nat):Rat:=b k-(Sg (fun m=>A k m*X m) j-Sg (fun m=>A k m*X m) (k+1))
theorem amZ:bk A b X k (k+1)=b k:=by unfold bk;grind
theorem asN {j:Nat}:bk A b X k (j+1)=bk A b X k j-A k j*X j:=by unfold bk;rw[Sg];grind
theorem azQ {f:Nat→Rat} {a:Nat}:∀ {j n:Nat},a≤j→j≤n→Sg f n-(Sg f j-Sg f a)=Sg (fun m=>if a≤m∧m<j then 0 else f m) n:=by
 intro j n haj DY
 induction n with
 |
  zero =>
  have h1:j=0:=by omega
  have h2:a=0:=by omega
  subst h1 h2
  simp only[Sg]
  grind
 |
  succ n ih =>
  by_cases hj:j=n+1
  ·subst hj
   have e:Sg (fun m=>if a≤m∧m<n+1 then 0 else f m) (n+1)=Sg f a:=by
    clear ih DY
    have key:∀k,Sg (fun m=>if a≤m∧m<n+1 then 0 else f m) (min k a)=Sg f (min k a):=fun k=>fW fun i hi=>if_neg (by omega)
    have h1:=key (n+1)
    have h2:∀d,a+d≤n+1→Sg (fun m=>if a≤m∧m<n+1 then 0 else f m) (a+d)=Sg (fun m=>if a≤m∧m<n+1 then 0 else f m) a:=by
     intro d
     induction d with
     | zero=>intro _;rfl
     |
      succ d ih =>
      intro hd
      rw[←Nat.add_assoc,Sg,ih (by omega),if_pos ⟨by omega,by omega⟩]
      grind
    have h3:=h2 (n+1-a) (by omega)
    rw[show a+(n+1-a)=n+1 by omega] at h3
    rw[h3]
    have h4:=key a
    rwa [Nat.min_self] at h4
   rw[e]
   grind
  ·rw[Sg,Sg,←ih (by omega),if_neg (by omega)]
   grind
theorem X1.part (H:X1 n n g A b X) (hX:dQ h n X) (hn:n≤16) {j:Nat} (hk:k<n) (hj:k+1≤j) (DY:j≤n):aL (bk A b X k j)≤g+h+4:=by
 have e:bk A b X k j=Sg (fun m=>(if k+1≤m∧m<j then 0 else A k m)*X m) n:=by
  unfold bk
  rw[←H.s k hk,azQ hj DY]
  refine fW fun m _ => ?_
  by_cases hm:k+1≤m∧m<j
  ·rw[if_pos hm,if_pos hm];grind
  ·rw[if_neg hm,if_neg hm]
 rw[e]
 exact((H.z.row hk).some fun m=>k+1≤m∧m<j).mix hX hn
theorem X1.back (H:X1 n n g A b X) (hk:k<n):X k=bk A b X k n / A k k:=H.u.back H.s hk
end
def gk (g:Nat):Nat→Nat
 | 0=>g
 | k+1=>2*gk g k+1
theorem avB {g:Nat}:∀ {k n:Nat},k≤n→gk g k≤2^n*(g+1)
 |
  0,n,_=>by
  have:=Nat.one_le_two_pow (n:=n)
  have h:1*(g+1)≤2^n*(g+1):=aLF _ this
  show g≤_
  omega
 |
  k+1,n,hk=>by
  have key:∀k,gk g k+1=2^k*(g+1):=by
   intro k
   induction k with
   | zero=>simp[gk]
   | succ k ih=>rw[gk,aMF];grind
  have h1:=key (k+1)
  have h2:2^(k+1)*(g+1)≤2^n*(g+1):=aLF _ (aNh (by decide) hk)
  omega
end Go.PM
namespace Go.PM
open Go.Lib
def d10 (n:Nat):UInt8:=UInt8.ofNat (48+n)
def E2:Nat→Nat→List UInt8
 | 0,_=>[]
 | k+1,r=>E2 k (r / 10)++[d10 (r % 10)]
theorem jZ {n:Nat} (h:n<10):decDigits n=[d10 n]:=by rw[decDigits,dif_pos h];rfl
theorem Cf {n:Nat} (h:¬n<10):decDigits n=decDigits (n / 10)++[d10 (n % 10)]:=by rw[decDigits,dif_neg h];rfl
theorem TO (n:Nat):decDigits n≠[]:=by
 by_cases h:n<10
 ·rw[jZ h];simp
 ·rw[Cf h];simp
theorem asF (k r:Nat):(E2 k r).length=k:=by
 induction k generalizing r with
 | zero=>rfl
 | succ k ih=>rw[E2,List.length_append,ih];rfl
theorem aoL (k:Nat):E2 k 0=aL4 k 48:=by
 induction k with
 | zero=>rfl
 | succ k ih=>rw[E2,ih,List.replicate_succ'];rfl
theorem atJ {q:Nat} (hq:0<q) (k r:Nat) (hr:r<10^k):decDigits (q*10^k+r)=decDigits q++E2 k r:=by
 induction k generalizing r with
 |
  zero =>
  have:r=0:=by simp at hr;exact hr
  subst this
  simp[E2]
 |
  succ k ih =>
  rw[aMF] at hr ⊢
  have hp:0<10^k:=Nat.pow_pos (by decide)
  have h1:q*(10^k*10)=10*(q*10^k):=by grind
  have h2:1*1≤q*10^k:=Nat.mul_le_mul hq hp
  rw[Cf (by omega),h1,show (10*(q*10^k)+r) / 10=q*10^k+r / 10 by omega,show (10*(q*10^k)+r) % 10=r % 10 by omega,ih (r / 10) (by omega),E2,aM0]
theorem azI (k r:Nat) (hr:r<10^(k+1)):E2 (k+1) r=aL4 (k+1-(decDigits r).length) 48++decDigits r:=by
 induction k generalizing r with
 |
  zero =>
  have h:r<10:=by simpa using hr
  rw[jZ h,E2,E2,aMI h]
  rfl
 |
  succ k ih =>
  rw[E2]
  by_cases h:r<10
  ·rw[show r / 10=0 by omega,aoL,jZ h,aMI h]
   rfl
  ·rw[ih (r / 10) (by rw[aMF] at hr;omega),Cf h,aM0,List.length_append]
   congr 2
   simp only[List.length_cons,List.length_nil]
   omega
theorem D3 (n:Nat) (k:Nat) (h:n<10^(k+1)):(decDigits n).length≤k+1:=by
 rw[decDigits_length]
 induction k generalizing n with
 | zero=>rw[nDigits_small (by simpa using h)];exact aLe _
 |
  succ k ih =>
  by_cases hn:n<10
  ·rw[nDigits_small hn];omega
  ·rw[nDigits_big hn]
   have:=ih (n / 10) (by rw[aMF] at h;omega)
   omega
theorem Kq {q r:Nat} (hq:0<q) (hr:r<1000000000):decDigits (q*1000000000+r)=decDigits q++E2 9 r:=atJ hq 9 r hr
theorem aqN {r:Nat} (hr:r<1000000000):decDigits (r+1000000000)=d10 1::E2 9 r:=by
 have:=Kq (q:=1) (by decide) hr
 rw[show r+1000000000=1*1000000000+r by omega,this,jZ (by decide)]
 rfl
theorem Xo (xs:List (List UInt8)):join xs []=xs.flatten:=by
 induction xs with
 | nil=>rfl
 |
  cons x xs ih =>
  unfold join at ih ⊢
  cases xs with
  | nil=>simp[List.intercalate]
  |
   cons y ys =>
   rw[List.flatten_cons,←ih]
   simp[List.intercalate,List.intersperse]
end Go.PM
namespace Go.PM
abbrev bE (l:List UInt8):VV := .sc (.string ⟨l.toArray⟩)
theorem VT.DB {f:Nat} {p:List Value→aH→Option Value} {args:List VV} {r:VV} (hp:Me f=some p) (h:∀(V:View) (fB:List Value),VL V args fB→∃pv,p fB V.P=some pv∧∀V',VR V' r pv):VT f args r:=by
 intro F P fB fA hF hl arU
 obtain⟨pv,h1,h2⟩:=h (bare F P) fB hl
 have e:vB f fB fA P=some (pv,P):=by
  show call cfg gH f fB fA P=some (pv,P)
  rw[abU (E:=cfg) (T:=gH) hp]
  have h1':p fB P=some pv:=h1
  rw[h1']
  rfl
 exact⟨P,pv,e,List.prefix_refl _,h2 _⟩
theorem TC.DB {f:Nat} {p:List Value→aH→Option Value} {args:List VV} {r:VV} (hp:Me f=some p) (hr:G5.contains f=false) (ha:aO args=true) (XM:gV r=true) (h:∀(V:View) (fB:List Value),VL V args fB→∃pv,p fB V.P=some pv∧∀V',VR V' r pv):TC f args r :=
 TC.of hr ha (auZ ha XM (VT.DB hp h))
theorem VL.one {V:View} {x:Value} {ps:List Value} (h:VL V [.sc x] ps):ps=[x]:=by
 cases h with
 |
  cons _ v _ vs h hs =>
  cases h
  cases hs
  rfl
theorem VL.two {V:View} {x y:Value} {ps:List Value} (h:VL V [.sc x,.sc y] ps):ps=[x,y]:=by
 cases h with
 |
  cons _ v _ vs h hs =>
  cases h
  rw[hs.one]
theorem VL.three {V:View} {x y z:Value} {ps:List Value} (h:VL V [.sc x,.sc y,.sc z] ps):ps=[x,y,z]:=by
 cases h with
 |
  cons _ v _ vs h hs =>
  cases h
  rw[hs.two]
theorem afT (x:Nat) (h:x<4294967296):TC 198 [.sc (.int .u32 (x:Int))] (VI (32-(Lib.bitLen x:Int))):=by
 refine TC.DB (p:=FY) rfl rfl rfl rfl fun V ps hl => ?_
 rw[hl.one]
 unfold FY
 simp only
 rw[if_pos ⟨by omega,by omega⟩,aMA]
 exact⟨_,rfl,fun _ => .sc _ rfl⟩
theorem awY (n:Nat) (h:n<18446744073709551616):TC 214 [.sc (.int .u64 (n:Int)),VI 10] (bE (Lib.decDigits n)):=by
 refine TC.DB (p:=zL) rfl rfl rfl rfl fun V ps hl => ?_
 rw[hl.two]
 unfold zL
 simp only
 rw[if_pos ⟨trivial,by omega,by omega⟩,aMA]
 exact⟨_,rfl,fun _ => .sc _ rfl⟩
theorem akT (s:List UInt8) (c:Nat) (h:s.length*c≤140737488355328) (hc:c≤9223372036854775807):TC 215 [bE s,VI (c:Int)] (bE (Lib.repeatL s c)):=by
 refine TC.DB (p:=IZ) rfl rfl rfl rfl fun V ps hl => ?_
 rw[hl.two]
 unfold IZ
 simp only
 rw[if_pos ⟨by omega,by omega,by rw[aMA];exact h⟩,aMA]
 exact⟨_,rfl,fun _ => .sc _ rfl⟩
theorem HH {V:View}:∀ {xs:List (List UInt8)} {ps:List Value},VL V ((xs.map bE).flatMap aB) ps→strCells ps=some (xs.map fun x=>⟨x.toArray⟩)
 |
  [],ps,h=>by
  have h':VL V [] ps:=h
  cases h'
  rfl
 |
  x::xs,ps,h=>by
  rw[List.map_cons,List.flatMap_cons] at h
  have h':VL V (bE x::(xs.map bE).flatMap aB) ps:=h
  cases h' with
  |
   cons _ v _ vs h1 h2 =>
   cases h1
   rw[strCells,HH h2]
   rfl
theorem awM (xs:List (List UInt8)) (hx:xs.length≤140737488355328) (hlen:xs.flatten.length≤140737488355328):TC 217 [aC bE xs,bE []] (bE xs.flatten):=by
 refine TC.DB (p:=Wf) rfl rfl (by simp only[aO,mJ (f:=bE) (fun _=>rfl) (fun _=>rfl),Bool.and_true];rfl) rfl fun V ps hl => ?_
 cases hl with
 |
  cons _ v _ vs h hs =>
  rw[hs.one]
  have azC:(xs.map fun x=>(⟨x.toArray⟩:ByteArray)).map (·.data.toList)=xs:=by
   rw[List.map_map]
   exact List.map_id' xs
  have jn:Lib.join ((xs.map fun x=>(⟨x.toArray⟩:ByteArray)).map (·.data.toList)) ([]:List UInt8)=xs.flatten:=by rw[azC,Xo]
  have h':VR V (.tree (xs.map bE) .op) v:=h
  clear h
  generalize Qt:xs.map bE=es at h'
  cases h' with
  |
   pY k hk =>
   have:xs=[]:=List.map_eq_nil_iff.1 Qt
   subst this
   exact⟨_,rfl,fun _ => .sc _ rfl⟩
  |
   tree _ k b o c r e p hF hb ho hc he hk hl =>
   subst Qt
   by_cases h0:xs=[]
   ·subst h0
    exact⟨_,rfl,fun _ => .sc _ rfl⟩
   ·obtain⟨y,ys,rfl⟩:=List.exists_cons_of_ne_nil h0
    have e1:e=1:=(he (bE y) (by simp)).symm
    subst e1
    rw[Nat.mul_one] at ho hl
    have hr:V.P.read b o ((y::ys).map bE).length=some ((r.drop o).take ((y::ys).map bE).length):=by
     unfold aH.read
     rw[hb]
     simp only
     rw[if_pos ho]
    have hn:¬((y::ys).map bE).length=0:=by simp
    refine⟨.string ⟨(y::ys).flatten.toArray⟩,?_,fun _ => .sc _ rfl⟩
    unfold Wf
    simp only[hn,if_false,hr,Option.bind_some,HH hl]
    rw[if_pos ⟨by simp,hc,by simpa using hx,by rw[jn];exact hlen⟩,jn]
theorem atY (s:List UInt8) (c:UInt8):TC 209 [bE s,bE [c]] (VI (Lib.indexByte s c)):=by
 refine TC.DB (p:=SP) rfl rfl rfl rfl fun V ps hl => ?_
 rw[hl.two]
 exact⟨_,rfl,fun _ => .sc _ rfl⟩
theorem aqJ (s:List UInt8) (u:Nat) (hs:s.length≤9223372036854775806) (h:Lib.parseUintB 64 s = .ok u):TC 192 [bE s,VI 10,VI 64] (.eH [.sc (.int .u64 (u:Int)),.sc .nilIface]):=by
 refine TC.DB (p:=Bs) rfl rfl rfl rfl fun V ps hl => ?_
 rw[hl.three]
 unfold Bs
 simp only
 rw[if_pos ⟨trivial,trivial,hs⟩]
 have h':Lib.parseUintB 64 (⟨s.toArray⟩:ByteArray).data.toList = .ok u:=h
 rw[h']
 refine⟨_,rfl,fun V' => ?_⟩
 exact .eH _ _ (.cons _ _ _ _ (.sc _ rfl) (.cons _ _ _ _ (.sc _ rfl) .nil))
end Go.PM
namespace Go.PM
abbrev uV (d:Nat):VV := .sc (.int .u32 (d:Int))
abbrev Ds (ds:List Nat):VV:=aC uV ds
def bO (n:Nat):VV:=Ds (aD 4294967296 n)
theorem Xl:∀d:Nat,(aB (uV d)).length=1:=fun _=>rfl
theorem adA (ds:List Nat):aY (Ds ds)=true:=mJ Xl fun _=>rfl
theorem akS (ds:List Nat):gV (Ds ds)=true:=zX Xl (fun _=>rfl) fun _=>rfl
theorem bT (n:Nat):aY (bO n)=true:=adA _
theorem tZ (n:Nat):gV (bO n)=true:=akS _
theorem Gj:bO 0 = .tree [] .op:=by rw[bO,cC];rfl
theorem Z4 (a b:Nat) (ha:a<18446744073709551616) (hb:0<b):dO .quo (.int .u64 (a:Int)) (.int .u64 (b:Int))=some (.int .u64 ((a / b:Nat):Int)):=by
 have h1:¬((b:Int)=0):=by omega
 have h2:(a:Int).tdiv (b:Int)=((a / b:Nat):Int):=by rw[Int.tdiv_eq_ediv_of_nonneg (by omega)];simp
 have h3:a / b≤a:=Nat.div_le_self _ _
 simp only[dO,if_true,h1,if_false,h2]
 rw[eV _ (by omega)]
theorem Tp (a b:Nat) (hb:0<b):dO .rem (.int .u64 (a:Int)) (.int .u64 (b:Int))=some (.int .u64 ((a % b:Nat):Int)):=by
 have h1:¬((b:Int)=0):=by omega
 have h2:(a:Int).tmod (b:Int)=((a % b:Nat):Int):=by rw[Int.tmod_eq_emod_of_nonneg (by omega)];simp
 simp only[dO,if_true,h1,if_false,h2]
theorem ayR (n s:Nat) (hn:n<4294967296) (hs:s≤31):dO .shl (.int .u64 (n:Int)) (.int .i64 (s:Int))=some (.int .u64 ((n*2^s:Nat):Int)):=by
 have h1:¬((s:Int)<0):=by omega
 have h2:Nat.min (Int.toNat (s:Int)) IntKind.u64.bits=s:=by
  rw[aMA]
  exact aMf (by show s≤64;omega)
 have h3:2^s≤2^31:=aNh (by decide) hs
 have h4:n*2^s≤n*2^31:=aNd _ h3
 simp only[dO,h1,if_false,h2]
 congr 2
 have e:(n:Int)*2^s=((n*2^s:Nat):Int):=by simp
 rw[e]
 exact eV _ (by omega)
theorem alC (n s:Nat) (hs:s≤31):dO .shr (.int .u64 (n:Int)) (.int .i64 (s:Int))=some (.int .u64 ((n / 2^s:Nat):Int)):=by
 have h1:¬((s:Int)<0):=by omega
 have h2:Nat.min (Int.toNat (s:Int)) IntKind.u64.bits=s:=by
  rw[aMA]
  exact aMf (by show s≤64;omega)
 simp only[dO,h1,if_false,h2]
 congr 2
 rw[Int.fdiv_eq_ediv_of_nonneg _ (by exact Int.le_of_lt (Int.pow_pos (by decide)))]
 simp
theorem azD (a m s:Nat) (ha:a<2^s) (hm:m*2^s+a<4294967296):dO .or (.int .u32 (a:Int)) (.int .u32 ((m*2^s:Nat):Int))=some (.int .u32 ((a+m*2^s:Nat):Int)):=by
 have e:a ||| (m*2^s)=a+m*2^s:=by
  have:=Nat.shiftLeft_add_eq_or_of_lt ha m
  rw[Nat.shiftLeft_eq] at this
  rw[Nat.or_comm,←this,Nat.add_comm]
 have e1:(BitVec.ofInt IntKind.u32.bits (a:Int) ||| BitVec.ofInt IntKind.u32.bits ((m*2^s:Nat):Int)).toNat=a+m*2^s:=by
  show (BitVec.ofInt 32 (a:Int) ||| BitVec.ofInt 32 ((m*2^s:Nat):Int)).toNat=a+m*2^s
  rw[BitVec.toNat_or,BitVec.ofInt_natCast,BitVec.ofInt_natCast,BitVec.toNat_ofNat,BitVec.toNat_ofNat,aMI (by omega),aMI (by omega),e]
 simp only[dO,if_true,e1]
 rw[wrap32,aMI (by omega)]
section
variable {rows:List Nat} {b g c n e:Nat} {w:Bool} {H:aA}
theorem Nz {m d:Nat} (hr:aJ H b g=some (rows.map uV,1,w)) (hn:n≤rows.length) (hc:n≤c) (he:rows.take n=aD 4294967296 m):fz (d+2) H (.ref b g 0 n c)=some (bO m):=by
 have:aY (.ref b g 0 n c)=false:=rfl
 unfold fz
 simp only[this,hr,aLQ,if_false]
 have B1:aO ((rows.map uV).take n)=true:=by rw[←aM8];exact fO fun _=>rfl
 rw[if_pos ⟨by simpa using hn,hc⟩,aMq,mapM_pure B1,←aM8,he]
 rfl
theorem TI {m:Nat} (hr:aJ H b g=some (rows.map uV,1,w)) (hn:n≤rows.length) (hc:n≤c) (he:rows.take n=aD 4294967296 m):fz depth H (.ref b g 0 n c)=some (bO m):=Nz (d:=6) hr hn hc he
theorem bN {d:Nat} {u u' v v':VV} (h1:fz (d+1) H u=some u') (h2:fz (d+1) H v=some v'):fz (d+2) H (.eH [u,v])=some (.eH [u',v']):=by
 have e:fz (d+2) H (.eH [u,v])=if aY (.eH [u,v])=true then some (.eH [u,v]) else ([u,v].mapM (fz (d+1) H)).map .eH:=rfl
 rw[e]
 by_cases hp:aY (.eH [u,v])=true
 ·rw[if_pos hp]
  simp only[aY,aO,aLM,and_true] at hp
  rw[aM hp.1] at h1
  rw[aM hp.2] at h2
  cases h1
  cases h2
  rfl
 ·rw[if_neg hp,aMB,h1,aMB,h2]
  rfl
theorem jS {j d:Nat} (hr:aJ H b g=some (rows.map uV,1,w)) (hj:rows[j]? = some d):bG false 1 (.ptr b g j 0) H=some (uV d):=qI hr hj
theorem Tm {xs:List Nat} {m d:Nat} (hm:xs.length=m+1) (hd:xs[m]? = some d) (h:d≠0):xs.getLast? ≠ some 0:=by
 rw[List.getLast?_eq_getElem?,hm,Nat.add_sub_cancel,hd]
 simpa using h
end
theorem anG {rows:List Nat} {b g n c:Nat} {w:Bool} {H:aA} {lo:Nat} (hr:aJ H b g=some (rows.map uV,1,w)) (hn:n≤rows.length) (hc:n≤c) (E5:n≤70368744177664) (hd:∀d∈rows.take n,d<4294967296) :
  mB 182 [.ref b g 0 n c] lo H fun r H'=>H'=H∧∃k,k≤n∧r = .ref b g 0 k c∧rows.take k=aD 4294967296 (val 4294967296 (rows.take n)):=by
 refine mB.walk ⟨true,false⟩ Cv (aM2 rfl) ?_
 simp only[Ac,vR,VX,Nat.reduceEqDiff,Nat.reduceAdd]
 refine aN (fun(k:Nat) ρ H'=>k≤n∧H'=H∧val 4294967296 (rows.take k)=val 4294967296 (rows.take n)∧ρ 0 = .ref b g 0 k c) (fun k=>k) n ⟨aLe _,rfl,rfl,rfl⟩ ?_
 rintro k ρ H' ⟨hk,rfl,hv,h0⟩
 have e0:pV (.ref b g 0 k c) H'=some (VI k):=eI hr
 have done:(rows.take k).getLast? ≠ some 0→rows.take k=aD 4294967296 (val 4294967296 (rows.take n)):=fun fN=>by
  rw[←hv,OB (by decide) (fun d h=>hd d ?_) fN]
  exact(List.take_sublist_take_left hk).mem h
 rcases Nat.eq_zero_or_pos k with hz | hp
 ·subst hz
  simp only[gM,h0,e0,Int.reduceLT,Int.natCast_zero,VX,Nat.reduceEqDiff,Nat.reduceAdd]
  exact⟨0,hk,rfl,done (by simp)⟩
 ·obtain⟨m,rfl⟩:∃m,k=m+1:=⟨k-1,by omega⟩
  obtain⟨d,hdd⟩:∃d,rows[m]? = some d:=⟨_,aLl (by omega)⟩
  have B1:(0:Int)<((m+1:Nat):Int):=by omega
  have w1:IntKind.i64.wrap (((m+1:Nat):Int)-1)=(m:Int):=by rw[wrap64 (by omega) (by omega)];omega
  have e1:bI 1 (.ref b g 0 (m+1) c) (VI m) H'=some (.ptr b g m 0):=by rw[bC hr (by omega),aMM]
  have e2:=jS hr hdd
  by_cases FO:(d:Int)=0
  ·have hd1:d=0:=by omega
   subst hd1
   have e3:G4 1 (.ref b g 0 (m+1) c) none (some (VI m)) none H'=some (.ref b g 0 m c):=rR hr (by omega)
   simp only[gM,h0,e0,B1,w1,e1,e2,e3,FO,VX,Nat.reduceEqDiff,Nat.reduceAdd]
   refine⟨m,by omega,by omega,?_,rfl⟩
   rw[←hv,bF hdd,Nat.mul_zero,aNq]
  ·simp only[gM,h0,e0,B1,w1,e1,e2,FO,VX,Nat.reduceEqDiff,Nat.reduceAdd]
   refine⟨m+1,hk,rfl,done (Tm (m:=m) (d:=d) (by rw[aMN];omega) ?_ (by omega))⟩
   rw[List.getElem?_take_of_lt (by omega)]
   exact hdd
theorem acT (ds:List Nat) (t:TK) {lo:Nat} {H:aA} (h:∀d∈ds,d<4294967296) (hlen:ds.length≤70368744177664) :
  mB 182 [.tree (ds.map uV) t] lo H fun r H'=>H'=H∧∃t',(t'=t∨t' = .op)∧r = .tree ((aD 4294967296 (val 4294967296 ds)).map uV) t':=by
 refine mB.walk ⟨true,false⟩ Cv (aM2 rfl) ?_
 simp only[Ac,vR,VX,Nat.reduceEqDiff,Nat.reduceAdd]
 refine aN (fun(s:List Nat×TK) ρ H'=>(∀d∈s.1,d<4294967296)∧val 4294967296 s.1=val 4294967296 ds∧s.1.length≤ds.length∧H'=H∧(s.2=t∨s.2 = .op)∧ρ 0 = .tree (s.1.map uV) s.2) (fun s=>s.1.length) (ds,t) ⟨h,rfl,aLe _,rfl,.inl rfl,rfl⟩ ?_
 rintro⟨xs,t'⟩ ρ H' ⟨hx,hv,hl,rfl,ht,h0⟩
 simp only at hx hv hl ht h0
 have done:xs.getLast? ≠ some 0→xs=aD 4294967296 (val 4294967296 ds):=fun fN=>by rw[←hv,OB (by decide) hx fN]
 rcases Nat.eq_zero_or_pos xs.length with hz | hp
 ·have hxn:xs=[]:=List.length_eq_zero_iff.1 hz
  subst hxn
  simp only[gM,h0,Int.reduceLT,Int.natCast_zero,VX,Nat.reduceEqDiff,Nat.reduceAdd]
  exact⟨t',ht,by rw[←done (by simp)];rfl⟩
 ·obtain⟨m,hm⟩:∃m,xs.length=m+1:=⟨xs.length-1,by omega⟩
  obtain⟨d,hd⟩:∃d,xs[m]? = some d:=⟨_,aLl (by omega)⟩
  have B1:(0:Int)<((m+1:Nat):Int):=by omega
  have w1:IntKind.i64.wrap (((m+1:Nat):Int)-1)=(m:Int):=by rw[wrap64 (by omega) (by omega)];omega
  have e1:=aF (f:=uV) (t:=t') (H:=H') (size:=1) (k := .i64) hd rfl
  by_cases FO:(d:Int)=0
  ·have hd1:d=0:=by omega
   subst hd1
   have e2:=MF (f:=uV) (size:=1) (t:=t') (H:=H') (k2 := .i64) (xs:=xs) (h:=m) Xl (by omega) (by omega)
   have US:xs=xs.take m++[0]:=by
    have:=List.take_append_drop m xs
    have h3:=(aLd.1 hd)
    rw[aLj h3.1,h3.2,List.drop_of_length_le (by omega)] at this
    exact this.symm
   simp only[gM,h0,hm,B1,w1,e1,e2,FO,VX,Nat.reduceEqDiff,Nat.reduceAdd]
   refine⟨(xs.take m,.op),by simp only[aMN];omega,fun d hd=>hx d (aMb hd),?_,by simp only[aMN];omega,.inr rfl,rfl⟩
   rw[←hv]
   conv=>rhs;rw[US]
   rw[wF]
   simp
  ·simp only[gM,h0,hm,B1,w1,e1,FO,VX,Nat.reduceEqDiff,Nat.reduceAdd]
   exact⟨t',ht,by rw[←done (Tm hm hd (by omega))]⟩
theorem vK {rows:List Nat} {b g n c:Nat} {w:Bool} {H:aA} {K:VV→aA→Prop} {m lo:Nat} (hr:aJ H b g=some (rows.map uV,1,w)) (hn:n≤rows.length) (hc:n≤c) (E5:n≤70368744177664) (hd:∀d∈rows.take n,d<4294967296) (hm:val 4294967296 (rows.take n)=m)
  (hk:∀k,k≤n→rows.take k=aD 4294967296 m→K (.ref b g 0 k c) H):dP 182 [.ref b g 0 n c] lo H K:=by
 refine iN rfl ((anG hr hn hc E5 hd).mono ?_)
 rintro r H' ⟨rfl,k,h1,rfl,h2⟩
 rw[hm] at h2
 exact hk k h1 h2
theorem P4 {ds:List Nat} {t:TK} {lo:Nat} {H:aA} {K:VV→aA→Prop} {m:Nat} (h:∀d∈ds,d<4294967296) (hlen:ds.length≤70368744177664) (hm:val 4294967296 ds=m) (hk:∀t',(t'=t∨t' = .op)→K (.tree ((aD 4294967296 m).map uV) t') H):dP 182 [.tree (ds.map uV) t] lo H K:=by
 refine iN rfl ((acT ds t h hlen).mono ?_)
 rintro r H' ⟨rfl,t',h1,rfl⟩
 rw[hm]
 exact hk t' h1
theorem asA {H:aA} {m:Nat} {t:TK} (ht:t = .cl 1∨t = .op):fz depth H (.tree ((aD 4294967296 m).map uV) t)=some (bO m):=by
 rcases ht with rfl | rfl
 ·exact avW (fO fun _=>rfl)
 ·exact aK (bT m)
end Go.PM
namespace Go.PM
theorem pJ (n:Nat) (h:n<18446744073709551616):TC 139 [VK .u64 n] (bO n):=by
 refine TC.walk ⟨true,false⟩ TP rfl (aM2 rfl) rfl (tZ _) ?_
 have e1:=ahI (H:=[]) (z:=[.int .u32 0]) (u:=uV (n % 4294967296)) (v:=uV (n / 4294967296 % 4294967296)) rfl rfl rfl rfl rfl
 have hm:∀d∈[n % 4294967296,n / 4294967296 % 4294967296],d<4294967296:=by
  intro d hd
  simp only[List.mem_cons,List.not_mem_nil,or_false] at hd
  rcases hd with rfl | rfl<;>exact Nat.mod_lt _ (by decide)
 have hv:val 4294967296 [n % 4294967296,n / 4294967296 % 4294967296]=n:=by
  simp only[val]
  have:=Nat.mod_add_div n 4294967296
  rw[aMI (show n / 4294967296<4294967296 by omega)]
  omega
 simp only[Pg,J8,wrap32,rA,e1,VX,Nat.reduceEqDiff,Nat.reduceAdd]
 refine P4 (ds:=[n % 4294967296,n / 4294967296 % 4294967296]) (t := .cl 1) hm (by show 2≤70368744177664;decide) hv fun t' ht => ?_
 simp only[VX,Nat.reduceEqDiff,Nat.reduceAdd]
 exact asA ht
theorem C9 (n:Nat) (hn:(aD 4294967296 n).length≤17592186044416):TC 193 [bO n] (if (aD 4294967296 n).length≤2 then .eH [VK .u64 n,VB true] else .eH [VK .u64 0,VB false]):=by
 refine TC.walk ⟨true,false⟩ Ir rfl (aM2 rfl) (by simp[aO,bT]) (by split<;>rfl) ?_
 have hv:=cH (b:=4294967296) (by decide) n
 have hl:=gF (b:=4294967296) (by decide) n
 unfold bO Ds
 generalize aD 4294967296 n=ds at *
 have w1:IntKind.i64.wrap ((ds.length:Int)-1)=(ds.length:Int)-1:=wrap64 (by omega) (by omega)
 simp only[C8,Be,w1,VX,Nat.reduceEqDiff,Nat.reduceAdd]
 by_cases h2:ds.length≤2
 ·rw[if_pos h2]
  have c2:(ds.length:Int)≤2:=by omega
  refine aN (fun(j:Nat) ρ H=>j≤ds.length∧H=[]∧ρ 0=aC uV ds∧ρ 4=VK .u64 (val 4294967296 (ds.drop j):Nat)∧ρ 5=VI ((j:Int)-1)) (fun j=>j) ds.length ⟨aLe _,rfl,rfl,by rw[aNr];rfl,rfl⟩ ?_
  rintro j ρ H ⟨hj,rfl,g0,g4,g5⟩
  by_cases hz:(0:Int)≤(j:Int)-1
  ·obtain⟨i,rfl⟩:∃i,j=i+1:=⟨j-1,by omega⟩
   obtain⟨x,hx⟩:∃x,ds[i]? = some x:=⟨_,aLl (by omega)⟩
   have Ea:((i+1:Nat):Int)-1=(i:Int):=by omega
   rw[Ea] at g5 hz
   have e1:=aF (f:=uV) (t := .op) (H:=[]) (size:=1) (k := .i64) hx rfl
   have lx:=hl x (aL8 hx)
   have ld:=rM (b:=4294967296) (xs:=ds.drop (i+1)) fun d hd=>hl d (List.mem_of_mem_drop hd)
   have hle:(ds.drop (i+1)).length≤1:=by rw[List.length_drop];omega
   have hpw:4294967296^(ds.drop (i+1)).length≤4294967296^1:=aNh (by decide) hle
   rw[Nat.pow_one] at hpw
   have w2:IntKind.i64.wrap ((i:Int)-1)=(i:Int)-1:=wrap64 (by omega) (by omega)
   have w3:IntKind.u64.wrap (x:Int)=(x:Int):=eV _ (by omega)
   have w4:IntKind.u64.wrap (((val 4294967296 (ds.drop (i+1))*4294967296:Nat):Int)+(x:Int))=((val 4294967296 (ds.drop i):Nat):Int):=by
    rw[wQ hx,←aNs,eV _ (by omega)]
    congr 1
    omega
   have w5:=Gs (val 4294967296 (ds.drop (i+1))) .u64 (by omega)
   simp only[nG,g0,g4,g5,hz,c2,e1,w2,w3,w4,w5,VX,Nat.reduceEqDiff,Nat.reduceAdd]
   exact⟨i,by omega,by omega,by (repeat' apply aMU)<;>first | rfl | trivial⟩
  ·have YS:j=0:=by omega
   subst YS
   rw[aMq,hv] at g4
   simp only[nG,g0,g4,g5,hz,c2,VX,Nat.reduceEqDiff,Nat.reduceAdd]
   exact aK rfl
 ·rw[if_neg h2]
  have c2:¬(ds.length:Int)≤2:=by omega
  have c3:(0:Int)≤(ds.length:Int)-1:=by omega
  refine aN (fun(j:Nat) ρ H=>H=[]∧ρ 0=aC uV ds∧ρ 4=VK .u64 0∧ρ 5=VI ((ds.length:Int)-1)) (fun j=>j) 0 ⟨rfl,rfl,rfl,rfl⟩ ?_
  rintro j ρ H ⟨rfl,g0,g4,g5⟩
  simp only[nG,g0,g4,g5,c2,c3,VX,Nat.reduceEqDiff,Nat.reduceAdd]
  exact aK rfl
theorem lI (a b:Nat) (ha:(aD 4294967296 a).length≤17592186044416) (hb:(aD 4294967296 b).length≤17592186044416):TC 142 [bO a,bO b] (VI (gA a b)):=by
 refine TC.walk ⟨true,false⟩ K4 rfl (aM2 rfl) (by simp[aO,bT]) rfl ?_
 have fin:∀ {x:Int},x=gA a b→fz depth [] (VI x)=some (VI (gA a b)):=fun h=>by rw[h];exact aK rfl
 unfold bO Ds
 by_cases hl:(((aD 4294967296 a).length:Nat):Int)=(((aD 4294967296 b).length:Nat):Int)
 ·have FA:(aD 4294967296 a).length=(aD 4294967296 b).length:=by omega
  have w1:IntKind.i64.wrap ((((aD 4294967296 b).length:Nat):Int)-1)=(((aD 4294967296 b).length:Nat):Int)-1:=wrap64 (by omega) (by omega)
  simp only[wI,sK,hl,w1,VX,Nat.reduceEqDiff,Nat.reduceAdd]
  refine aN (fun(j:Nat) ρ H=>j≤(aD 4294967296 b).length∧H=[]∧(aD 4294967296 a).drop j=(aD 4294967296 b).drop j∧ρ 0=aC uV (aD 4294967296 a)∧ρ 1=aC uV (aD 4294967296 b)∧ρ 5=VI ((j:Int)-1)) (fun j=>j) (aD 4294967296 b).length ⟨aLe _,rfl,by rw[aNr,←FA,aNr],rfl,rfl,rfl⟩ ?_
  rintro j ρ H ⟨hj,rfl,hd,h0,h1,h5⟩
  by_cases hz:(0:Int)≤(j:Int)-1
  ·obtain⟨i,rfl⟩:∃i,j=i+1:=⟨j-1,by omega⟩
   obtain⟨x,hx⟩:∃x,(aD 4294967296 a)[i]? = some x:=⟨_,aLl (by omega)⟩
   obtain⟨y,hy⟩:∃y,(aD 4294967296 b)[i]? = some y:=⟨_,aLl (by omega)⟩
   have Ea:((i+1:Nat):Int)-1=(i:Int):=by omega
   have e1:=aF (f:=uV) (t := .op) (H:=[]) (size:=1) (k := .i64) hx rfl
   have e2:=aF (f:=uV) (t := .op) (H:=[]) (size:=1) (k := .i64) hy rfl
   rw[Ea] at h5 hz
   have w2:IntKind.i64.wrap ((i:Int)-1)=(i:Int)-1:=wrap64 (by omega) (by omega)
   by_cases CT:(x:Int)=(y:Int)
   ·simp only[mR,h0,h1,h5,hz,e1,e2,CT,w2,VX,Nat.reduceEqDiff,Nat.reduceAdd]
    have ayP:x=y:=by omega
    subst ayP
    refine⟨i,by omega,by omega,?_⟩
    obtain⟨g1,g2⟩:=aLd.1 hx
    obtain⟨g3,g4⟩:=aLd.1 hy
    rw[aLj g1,aLj g3,g2,g4,hd]
    exact⟨rfl,rfl⟩
   ·by_cases bH:(x:Int)<(y:Int)
    ·simp only[mR,h0,h1,h5,hz,e1,e2,CT,bH,VX,Nat.reduceEqDiff,Nat.reduceAdd]
     refine fin ?_
     have:=GI (gF (by decide) a) FA hx hy hd (by omega)
     rw[cH (by decide),cH (by decide)] at this
     simp[gA,this]
    ·simp only[mR,h0,h1,h5,hz,e1,e2,CT,bH,VX,Nat.reduceEqDiff,Nat.reduceAdd]
     refine fin ?_
     have:=GI (gF (by decide) b) FA.symm hy hx hd.symm (by omega)
     rw[cH (by decide),cH (by decide)] at this
     rw[gA,if_neg (by omega),if_neg (by omega)]
  ·have YS:j=0:=by omega
   subst YS
   simp only[mR,h0,h1,h5,hz,VX,Nat.reduceEqDiff,Nat.reduceAdd]
   refine fin ?_
   have:=W0 (b:=4294967296) (by decide) (by simpa using hd)
   subst this
   simp[gA]
 ·by_cases bH:(((aD 4294967296 a).length:Nat):Int)<(((aD 4294967296 b).length:Nat):Int)
  ·simp only[wI,sK,hl,bH,VX,Nat.reduceEqDiff,Nat.reduceAdd]
   refine fin ?_
   have:=GF (b:=4294967296) (by decide) (m:=a) (n:=b) (by omega)
   simp[gA,this]
  ·simp only[wI,sK,hl,bH,VX,Nat.reduceEqDiff,Nat.reduceAdd]
   refine fin ?_
   have:=GF (b:=4294967296) (by decide) (m:=b) (n:=a) (by omega)
   rw[gA,if_neg (by omega),if_neg (by omega)]
end Go.PM
namespace Go.PM
theorem kS {es:List VV} {g e:Nat} {w:Bool}:aJ [.row g es e w] 0 g=some (es,e,w):=aQ
theorem Vj {x y:Nat} {ρ:cV} {Q:VQ} (hx:(aD 4294967296 x).length≤17592186044416) (hl:(aD 4294967296 y).length≤(aD 4294967296 x).length) (h0:ρ 0=bO x) (h1:ρ 1=bO y) (h5:ρ 5 = .ref 0 0 0 ((aD 4294967296 x).length+1) ((aD 4294967296 x).length+1)) (h6:ρ 6=VK .u64 0) (h20:ρ 20=VI (aD 4294967296 x).length) (h21:ρ 21=VI 0)
  (hQ:∀(aP:cV) (outs:List Nat) (c:Nat),aP 0=bO x→aP 5 = .ref 0 0 0 ((aD 4294967296 x).length+1) ((aD 4294967296 x).length+1)→aP 6=VK .u64 (c:Nat)→outs.length=(aD 4294967296 x).length+1→(∀d∈outs,d<4294967296)→c≤1→x+y=val 4294967296 (outs.take (aD 4294967296 x).length)+4294967296^(aD 4294967296 x).length*c→Q (.exit 0) aP [.row 0 (outs.map uV) 1 true]) :
  VW ⟨true,false⟩ 0 (.loop mO) Q ρ [.row 0 ((aL4 ((aD 4294967296 x).length+1) 0).map uV) 1 true]:=by
 unfold bO at h0 h1 hQ
 have vx:=cH (b:=4294967296) (by decide) x
 have vy:=cH (b:=4294967296) (by decide) y
 have lx:=gF (b:=4294967296) (by decide) x
 have ly:=gF (b:=4294967296) (by decide) y
 generalize aD 4294967296 x=xs at *
 generalize aD 4294967296 y=ys at *
 refine aN (fun(s:Nat×List Nat×Nat) ρ H=>s.1≤xs.length∧H=[.row 0 (s.2.1.map uV) 1 true]∧s.2.1.length=xs.length+1∧(∀d∈s.2.1,d<4294967296)∧s.2.2≤1∧val 4294967296 (xs.take s.1)+val 4294967296 (ys.take s.1)=val 4294967296 (s.2.1.take s.1)+4294967296^s.1*s.2.2 ∧
  ρ 0=Ds xs∧ρ 1=Ds ys∧ρ 5 = .ref 0 0 0 (xs.length+1) (xs.length+1)∧ρ 6=VK .u64 s.2.2∧ρ 20=VI xs.length∧ρ 21=VI s.1) (fun s=>xs.length-s.1) (0,aL4 (xs.length+1) 0,0) ?_ ?_
 ·exact⟨aLI _,rfl,by simp,Cx (by decide) _,by simp,by simp[val],h0,h1,h5,h6,h20,h21⟩
 ·rintro⟨i,outs,c⟩ ρ H ⟨hi,rfl,hJ,nF,hc,hv,g0,g1,g5,g6,g20,g21⟩
  simp only at hi hJ nF hc hv g6 g21
  by_cases bX:(i:Int)<(xs.length:Int)
  ·obtain⟨a,ha⟩:∃a,xs[i]? = some a:=⟨_,aLl (by omega)⟩
   have la:=lx a (aL8 ha)
   have e1:=aF (f:=uV) (t := .op) (H:=[.row 0 (outs.map uV) 1 true]) (size:=1) (k := .i64) ha rfl
   have w1:IntKind.u64.wrap (a:Int)=(a:Int):=eV _ (by omega)
   have w2:IntKind.u64.wrap ((c:Int)+(a:Int))=((c+a:Nat):Int):=by rw[←aNs];exact eV _ (by omega)
   have wi:IntKind.i64.wrap ((i:Int)+1)=((i+1:Nat):Int):=wrapN (i+1) (by omega) (by omega)
   have e3:=bC (H:=[.row 0 (outs.map uV) 1 true]) (b:=0) (g:=0) (o:=0) (n:=xs.length+1) (c:=xs.length+1) (i:=i) (k := .i64) kS (by omega)
   have e4:∀s:Nat,bM 0 1 (.ptr 0 0 i 0) (uV s) [.row 0 (outs.map uV) 1 true]=some [.row 0 ((outs.set i s).map uV) 1 true]:=fun s=>by
    rw[eG (f:=uV) (e:=1) kS (by omega) (aLe _) rfl rfl]
    rfl
   have step:∀b,b<4294967296→(∀d,ys[i]? = some d→d=b)→(ys.length≤i→b=0) →
     (i+1≤xs.length∧(outs.set i ((c+a+b) % 4294967296)).length=xs.length+1∧(∀d∈outs.set i ((c+a+b) % 4294967296),d<4294967296)∧(c+a+b) / 4294967296≤1∧val 4294967296 (xs.take (i+1))+val 4294967296 (ys.take (i+1))=val 4294967296 ((outs.set i ((c+a+b) % 4294967296)).take (i+1))+4294967296^(i+1)*((c+a+b) / 4294967296)):=by
    intro b hb h1 h2
    refine⟨by omega,by rw[aNt];exact hJ,oD nF (Nat.mod_lt _ (by decide)),by omega,?_⟩
    have hy:val 4294967296 (ys.take (i+1))=val 4294967296 (ys.take i)+4294967296^i*b:=by
     cases YV:ys[i]? with
     | some d=>rw[bF YV,h1 d YV]
     |
      none =>
      have hle:=List.getElem?_eq_none_iff.1 YV
      rw[h2 hle,kY hle,kY (by omega),Nat.mul_zero,aNq]
    rw[bF ha,hy,fI (by omega),aMF]
    exact IQ hv rfl (Nat.mod_add_div _ _)
   by_cases bH:(i:Int)<(ys.length:Int)
   ·obtain⟨b,hb⟩:∃b,ys[i]? = some b:=⟨_,aLl (by omega)⟩
    have lb:=ly b (aL8 hb)
    have e2:=aF (f:=uV) (t := .op) (H:=[.row 0 (outs.map uV) 1 true]) (size:=1) (k := .i64) hb rfl
    have w3:IntKind.u64.wrap (b:Int)=(b:Int):=eV _ (by omega)
    have w4:IntKind.u64.wrap (((c+a:Nat):Int)+(b:Int))=((c+a+b:Nat):Int):=by rw[←aNs];exact eV _ (by omega)
    obtain⟨s1,s2,s3,s4,s5⟩:=step b lb (fun d hd=>by rw[hb] at hd;injection hd with hd;exact hd.symm) (fun h=>by omega)
    simp only[mO,g0,g1,g5,g6,g20,g21,bX,bH,e1,e2,e3,e4,w1,w2,w3,w4,wi,wrap32,rA,VX,Nat.reduceEqDiff,Nat.reduceAdd]
    exact⟨(i+1,outs.set i ((c+a+b) % 4294967296),(c+a+b) / 4294967296),by simp only;omega,s1,rfl,s2,s3,s4,s5,by (repeat' apply aMU)<;>first | rfl | trivial⟩
   ·obtain⟨s1,s2,s3,s4,s5⟩:=step 0 (by decide) (fun d hd=>by have:=(aLd.1 hd).1;omega) (fun _=>rfl)
    simp only[aNq] at s2 s3 s4 s5
    simp only[mO,g0,g1,g5,g6,g20,g21,bX,bH,e1,e3,e4,w1,w2,wi,wrap32,rA,VX,Nat.reduceEqDiff,Nat.reduceAdd]
    exact⟨(i+1,outs.set i ((c+a) % 4294967296),(c+a) / 4294967296),by simp only;omega,s1,rfl,s2,s3,s4,s5,by (repeat' apply aMU)<;>first | rfl | trivial⟩
  ·have mZ:i=xs.length:=by omega
   subst mZ
   simp only[mO,g0,g1,g5,g6,g20,g21,bX,VX,Nat.reduceEqDiff,Nat.reduceAdd]
   refine hQ _ outs c g0 g5 g6 hJ nF hc ?_
   rw[List.take_length,aL7 (l:=ys) hl,vx,vy] at hv
   exact hv
theorem FE (a b:Nat) (ha:(aD 4294967296 a).length≤17592186044416) (hb:(aD 4294967296 b).length≤17592186044416):TC 145 [bO a,bO b] (bO (a+b)):=by
 refine TC.walk ⟨true,false⟩ Kp rfl (aM2 rfl) (by simp[aO,bT]) (tZ _) ?_
 have mk:∀n:Nat,n≤17592186044416→BR [.int .u32 0] 4 (VI ((n+1:Nat):Int)) (VI ((n+1:Nat):Int)) []=some (.ref 0 0 0 (n+1) (n+1),[.row 0 ((aL4 (n+1) 0).map uV) 1 true]):=fun n hn=>nX (f:=uV) (x:=0) rfl (by omega) (by omega)
 have fin:∀(x y:Nat) (outs:List Nat) (c:Nat),(aD 4294967296 x).length≤17592186044416→x+y=a+b→outs.length=(aD 4294967296 x).length+1→(∀d∈outs,d<4294967296)→c≤1→x+y=val 4294967296 (outs.take (aD 4294967296 x).length)+4294967296^(aD 4294967296 x).length*c →
   bI 1 (.ref 0 0 0 ((aD 4294967296 x).length+1) ((aD 4294967296 x).length+1)) (VI ((aD 4294967296 x).length:Nat)) [.row 0 (outs.map uV) 1 true]=some (.ptr 0 0 (0+(aD 4294967296 x).length) 0) ∧
   bM 0 1 (.ptr 0 0 (aD 4294967296 x).length 0) (uV (c % 4294967296)) [.row 0 (outs.map uV) 1 true]=some [.row 0 ((outs.set (aD 4294967296 x).length (c % 4294967296)).map uV) 1 true] ∧
   ∀lo K,(∀k,k≤(aD 4294967296 x).length+1→(outs.set (aD 4294967296 x).length (c % 4294967296)).take k=aD 4294967296 (a+b)→K (.ref 0 0 0 k ((aD 4294967296 x).length+1)) [.row 0 ((outs.set (aD 4294967296 x).length (c % 4294967296)).map uV) 1 true]) →
    dP 182 [.ref 0 0 0 ((aD 4294967296 x).length+1) ((aD 4294967296 x).length+1)] lo [.row 0 ((outs.set (aD 4294967296 x).length (c % 4294967296)).map uV) 1 true] K:=by
  intro x y outs c hx CT hJ nF hc hv
  have KW:=oD (i:=(aD 4294967296 x).length) nF (show c % 4294967296<4294967296 from Nat.mod_lt _ (by decide))
  have Cw:val 4294967296 (outs.set (aD 4294967296 x).length (c % 4294967296))=a+b:=by
   have h1:=fI (b:=4294967296) (xs:=outs) (i:=(aD 4294967296 x).length) (d:=c % 4294967296) (by omega)
   rw[aL7 (by rw[aNt];omega)] at h1
   rw[h1,aMI (Nat.lt_of_le_of_lt hc (by decide)),←hv,CT]
  refine⟨bC kS (by omega),?_,?_⟩
  ·rw[eG (f:=uV) (e:=1) kS (by omega) (aLe _) rfl rfl]
   rfl
  ·intro lo K hk
   have aAh:(outs.set (aD 4294967296 x).length (c % 4294967296)).length=(aD 4294967296 x).length+1:=by rw[aNt];exact hJ
   exact vK kS (by omega) (aLe _) (by omega) (fun d hd=>KW d (aMb hd)) (by rw[aL7 (by omega)];exact Cw) hk
 by_cases hsw:(((aD 4294967296 a).length:Nat):Int)<(((aD 4294967296 b).length:Nat):Int)
 ·have w1:IntKind.i64.wrap (((aD 4294967296 b).length:Int)+1)=(((aD 4294967296 b).length+1:Nat):Int):=wrapN _ (by omega) (by omega)
  simp only[BK,yC,bO,hsw,w1,mk _ hb,VX,Nat.reduceEqDiff,Nat.reduceAdd]
  refine Vj (x:=b) (y:=a) hb (by omega) rfl rfl rfl rfl rfl rfl ?_
  intro aP outs c g0 g5 g6 hJ nF hc hv
  obtain⟨e1,e2,e3⟩:=fin b a outs c hb (by omega) hJ nF hc hv
  simp only[g0,g5,g6,bO,wrap32,e1,e2,VX,Nat.reduceEqDiff,Nat.reduceAdd]
  refine e3 _ _ fun k hk he => ?_
  simp only[VX,Nat.reduceEqDiff,Nat.reduceAdd]
  exact TI kS (by rw[aNt];omega) hk he
 ·have w1:IntKind.i64.wrap (((aD 4294967296 a).length:Int)+1)=(((aD 4294967296 a).length+1:Nat):Int):=wrapN _ (by omega) (by omega)
  simp only[BK,yC,bO,hsw,w1,mk _ ha,VX,Nat.reduceEqDiff,Nat.reduceAdd]
  refine Vj (x:=a) (y:=b) ha (by omega) rfl rfl rfl rfl rfl rfl ?_
  intro aP outs c g0 g5 g6 hJ nF hc hv
  obtain⟨e1,e2,e3⟩:=fin a b outs c ha rfl hJ nF hc hv
  simp only[g0,g5,g6,bO,wrap32,e1,e2,VX,Nat.reduceEqDiff,Nat.reduceAdd]
  refine e3 _ _ fun k hk he => ?_
  simp only[VX,Nat.reduceEqDiff,Nat.reduceAdd]
  exact TI kS (by rw[aNt];omega) hk he
end Go.PM