/- Texts of a claim, in one: part 7. -/
import Derived.KernelRfl
import Derived.Lib.ItoaNum
import Derived.Lib.Join
import Derived.Test.YtjmflicajplclaaGreatDoorKBf
open Array renaming getD_eq_getD_getElem? → aKJ,getElem?_eq_getElem → aMy
open Bool renaming and_eq_true → aK9,false_eq_true → aLd
open Int renaming toNat_natCast → aLX
open List renaming all_eq_true → aKP,append_assoc → aMn,append_nil → aLJ,drop_zero → aLN,eq_of_mem_replicate → aLM,getElem?_append_left → aKS,getElem?_append_right → aKT,getElem?_eq_getElem → aKI,getElem?_eq_some_iff → aKA,getElem?_of_mem → aMw,length_append → aKM,length_cons → aKL,length_nil → aMe,length_replicate → aMq,length_set → aMz,length_take → aMa,mapM_cons → aLY,mem_append → aLx,mem_of_getElem? → aLv,mem_of_mem_take → aLy,mem_singleton → aLH,prefix_append → aMv,replicate → aLr,take_of_length_le → aLu
open Nat renaming add_sub_cancel_left → aMs,le_add_right → aMt,le_of_ble_eq_true → aMp,le_refl → aKB,lt_of_mul_lt_mul_right → aMB,lt_or_ge → aKE,min_eq_left → aLC,mul_le_mul_left → aMA,mul_le_mul_right → aK2,ne_of_lt → aMx,pow_succ → aL2,zero_add → aL9,zero_le → aK5
set_option linter.unusedSimpArgs false
set_option linter.unusedVariables false
namespace Go.PM
def tP (n:Nat) (H:aA) (bare:Bool) (x:List ByteArray) (c:VV):Prop :=
 (bare=true∧x=[]∧c = .tree [] .nil)∨∃b,n<b∧c = .ref b 0 0 x.length (x.length+room x.length)∧aG H b 0=some ((mB kU x).map sV,1,true)
def HK (n:Nat) (H:aA) (c:VV):Prop:=∃b,n<b∧c = .ref b 0 0 1 1∧aG H b 0=some ([sV kU],1,true)
theorem tP.dB {n:Nat} {H H':aA} {bare:Bool} {x:List ByteArray} {c:VV} (h:tP n H bare x c) (hk:∀b g x,n<b→aG H b g=some x→aG H' b g=some x):tP n H' bare x c:=by
 rcases h with h | ⟨b,h1,h2,h3⟩
 ·exact .inl h
 ·exact .inr ⟨b,h1,h2,hk _ _ _ h1 h3⟩
theorem HK.dB {n:Nat} {H H':aA} {c:VV} (h:HK n H c) (hk:∀b g x,n<b→aG H b g=some x→aG H' b g=some x):HK n H' c:=by
 obtain⟨b,h1,h2,h3⟩:=h
 exact⟨b,h1,h2,hk _ _ _ h1 h3⟩
theorem tP.cell {n:Nat} {H:aA} {bare:Bool} {x:List ByteArray} {c:VV} (h:tP n H bare x c):aB c=[c]∧bN c=true∧∀k,k≤n→jR k c=true:=by
 rcases h with⟨_,_,rfl⟩ | ⟨b,h1,rfl,_⟩
 ·exact⟨rfl,rfl,fun _ _=>rfl⟩
 ·exact⟨rfl,rfl,fun k hk=>by simp[jR];omega⟩
theorem HK.cell {n:Nat} {H:aA} {c:VV} (h:HK n H c):aB c=[c]∧bN c=true∧∀k,k≤n→jR k c=true:=by
 obtain⟨b,h1,rfl,_⟩:=h
 exact⟨rfl,rfl,fun k hk=>by simp[jR];omega⟩
theorem tP.fz {n d:Nat} {H:aA} {bare:Bool} {x:List ByteArray} {c:VV} (h:tP n H bare x c):PM.fz (d+2) H c=some (gM x):=by
 rcases h with⟨_,rfl,rfl⟩ | ⟨b,h1,rfl,h3⟩
 ·show PM.fz ((d+1)+1) H _=_
  unfold PM.fz
  have:bA (.tree [] .nil)=false:=rfl
  simp only[this,aLd,if_false]
  rfl
 ·show PM.fz ((d+1)+1) H _=_
  unfold PM.fz
  have:bA (.ref b 0 0 x.length (x.length+room x.length))=false:=rfl
  simp only[this,h3,aLd,if_false]
  rw[if_pos ⟨by simp[mB],aMt _ _⟩,aLN,←List.map_take,TT,mapM_pure (n:=d) (fQ fun _=>rfl)]
  rfl
theorem HK.fz {n d:Nat} {H:aA} {c:VV} (h:HK n H c):PM.fz (d+2) H c=some (gM [kU]):=by
 obtain⟨b,h1,rfl,h3⟩:=h
 show PM.fz ((d+1)+1) H _=_
 unfold PM.fz
 have:bA (.ref b 0 0 1 1)=false:=rfl
 simp only[this,h3,aLd,if_false]
 rw[if_pos ⟨by simp,aKB _⟩,aLN,aLu (by simp),mapM_pure (n:=d) (by rfl)]
 rfl
def xI (H:aA) (bare:Bool) (xs:List (List ByteArray)) (b:Nat):Prop :=
 ∃cells iV,aG H b 0=some (cells++iV,1,true)∧cells.length=xs.length∧iV.length=room xs.length∧(∀(i:Nat) x,xs[i]? = some x→∃c,cells[i]? = some c∧tP b H bare x c)∧∀c∈iV,HK b H c
theorem xI.dB {H H':aA} {bare:Bool} {xs:List (List ByteArray)} {b:Nat} (h:xI H bare xs b) (hk:∀b' g x,b≤b'→aG H b' g=some x→aG H' b' g=some x):xI H' bare xs b:=by
 obtain⟨cells,iV,h1,h2,h3,h4,h5⟩:=h
 exact⟨cells,iV,hk _ _ _ (aKB _) h1,h2,h3,fun i x hx=>by
  obtain⟨c,k1,k2⟩:=h4 i x hx
  exact⟨c,k1,k2.dB fun b' g x hb=>hk b' g x (Nat.le_of_lt hb)⟩,fun c hc=>(h5 c hc).dB fun b' g x hb=>hk b' g x (Nat.le_of_lt hb)⟩
theorem xI.pre {H H':aA} {bare:Bool} {xs:List (List ByteArray)} {b:Nat} (h:xI H bare xs b) (hh:H <+: H'):xI H' bare xs b:=h.dB fun _ _ _ _=>cL hh
def aDq (xs:List (List ByteArray)) (bare:Bool) (n:Nat) (r:VV) (L:aA):Prop :=
 (bare=true∧xs=[]∧r = .tree [] .nil∧L=[])∨(r = .ref n 0 0 xs.length (xs.length+room xs.length)∧xI (aLr n .dead++L) bare xs n)
theorem C3.pre {n:Nat} {H L:aA} (h:C3 n H) (hL:mZ n L=true):C3 n (H++L):=by
 obtain⟨L0,rfl,h0⟩:=h
 refine⟨L0++L,by rw[aMn],?_⟩
 unfold mZ at *
 rw[List.all_append,h0,hL]
 rfl
theorem asY {n:Nat} {x:List ByteArray} {bare:Bool} {H:aA} {K:VV→aA→Prop} (hx:x.length≤1000000000) (hH:C3 n H) (bI:n<H.length)
  (hk:∀c H',H <+: H'→C3 n H'→tP n H' bare x c→K c H'):dI 34 [gM x,.sc (.bool bare)] n H K:=by
 refine(C1 x bare hx).call rfl (mapM_pure (n:=7) (by simp[aO,kQ];rfl)) ?_
 rintro r L (⟨hb,rfl,rfl,rfl⟩ | ⟨rfl,rfl⟩)
 ·rw[aLJ]
  exact hk _ _ (List.prefix_refl _) hH (.inl ⟨hb,rfl,rfl⟩)
 ·exact hk _ _ (aMv _ _) (hH.app (Qe (fun _=>rfl) _)) (.inr ⟨_,bI,rfl,Gl (i:=0) rfl⟩)
set_option maxHeartbeats 2000000 in
theorem Jz (xs:List (List ByteArray)) (bare:Bool) (hn:xs.length≤1000000000) (hx:∀x∈xs,x.length≤1000000000):FC 17 [lQ xs,.sc (.bool bare)] (aDq xs bare):=by
 refine FC.walk ⟨true,true⟩ Jq (aMp rfl) fun n => ?_
 have hr:=room_le xs.length
 by_cases hb:bare=true∧(xs.length:Int)=0
 ·obtain⟨rfl,h0⟩:=hb
  simp only[uH,qT,h0,VX,Nat.reduceEqDiff,Nat.reduceAdd]
  refine⟨[],by simp,rfl,rfl,.inl ⟨rfl,?_,rfl,rfl⟩⟩
  cases xs with
  | nil=>rfl
  | cons x xs=>simp at h0;omega
 have xJ:bare=true→¬(xs.length:Int)=0:=fun h h'=>hb ⟨h,h'⟩
 clear hb
 have w1:IntKind.i64.wrap ((xs.length:Int)+(room xs.length:Int))=((xs.length+room xs.length:Nat):Int):=wrapN _ (by omega) (by omega)
 have em:=nY (H:=aLr n fC.dead) (z:=[.slice none 0 0]) (bytes:=24) (n:=xs.length+room xs.length) (f:=fun v:VV=>v) (x := .tree [] .nil) rfl (by omega) (by omega)
 rw[aMq,List.map_id'] at em
 have main:∀ρ:cW,ρ 0=lQ xs→ρ 1 = .sc (.bool bare)→ρ 5 = .ref n 0 0 (xs.length+room xs.length) (xs.length+room xs.length)→ρ 6=VI 0→∀Q:VQ,
   (∀(aQ:cW) (H:aA) (cells:List VV),aQ 0=lQ xs→aQ 5 = .ref n 0 0 (xs.length+room xs.length) (xs.length+room xs.length)→C3 n H→cells.length=xs.length→aG H n 0=some (cells++aLr (room xs.length) (.tree [] .nil),1,true) →
    (∀(i:Nat) x,xs[i]? = some x→∃c,cells[i]? = some c∧tP n H bare x c)→Q (.exit 0) aQ H) →
   VW ⟨true,true⟩ n (.loop pF) Q ρ (aLr n fC.dead++[.row 0 (aLr (xs.length+room xs.length) (.tree [] .nil)) 1 true]):=by
  intro ρ h0 h1 h5 h6 Q hQ
  refine aP (fun(s:Nat×List VV) ρ H=>s.1≤xs.length∧s.2.length=s.1∧C3 n H∧aG H n 0=some (s.2++aLr (xs.length+room xs.length-s.1) (.tree [] .nil),1,true)∧(∀(i:Nat) x,i<s.1→xs[i]? = some x→∃c,s.2[i]? = some c∧tP n H bare x c) ∧
   ρ 0=lQ xs∧ρ 1 = .sc (.bool bare)∧ρ 5 = .ref n 0 0 (xs.length+room xs.length) (xs.length+room xs.length)∧ρ 6=VI s.1) (fun s=>xs.length-s.1) (0,[])
   ⟨aK5 _,rfl,⟨_,rfl,by simp[mZ,zW,jR]⟩,by rw[NN,aT];rfl,fun i x h=>absurd h (Nat.not_lt_zero _),h0,h1,h5,h6⟩ ?_
  rintro⟨i,cells⟩ ρ H ⟨hi,mQ,hO,lT,rO,h0,h1,h5,h6⟩
  simp only at hi mQ lT rO h6
  by_cases bZ:(i:Int)<(xs.length:Int)
  ·obtain⟨x,Kg⟩:∃x,xs[i]? = some x:=⟨_,aKI (by omega)⟩
   have e1:=aI (f:=gM) (t := .op) (H:=H) (size:=1) (k := .i64) Kg rfl
   have wi:IntKind.i64.wrap ((i:Int)+1)=((i+1:Nat):Int):=wrapN (i+1) (by omega) (by omega)
   simp only[pF,h0,h1,h5,h6,bZ,e1,VX,Nat.reduceEqDiff,Nat.reduceAdd]
   refine asY (hx x (aLv Kg)) hO (iT lT) fun c H' hh hO' hc => ?_
   have PR:=cL hh lT
   have e3:=bB (o:=0) (n:=xs.length+room xs.length) (c:=xs.length+room xs.length) (i:=i) (k := .i64) PR (by omega)
   have e4:=bS (j:=i) (lo:=n) (v:=c) PR (by simp;omega) (aKB _) (by rw[hc.cell.1];rfl) (by rw[hc.cell.1];simp[hc.cell.2.1])
   have wU:=J7 cells (xs.length+room xs.length-(i+1)) (.tree [] .nil) c
   rw[mQ,show xs.length+room xs.length-(i+1)+1=xs.length+room xs.length-i by omega] at wU
   rw[wU] at e4
   simp only[h6,e3,e4,wi,aL9,VX,Nat.reduceEqDiff,Nat.reduceAdd]
   refine⟨(i+1,cells++[c]),by simp only;omega,by simp only;omega,by simp[mQ],?_,bQ PR,?_,h0,h1,by (repeat' apply And.intro)<;>first | rfl | trivial⟩
   ·refine hO'.set (aKB _) (zW.2 fun y hy => ?_)
    rcases aLx.1 hy with hy | hy
    ·rcases aLx.1 hy with hy | hy
     ·obtain⟨j,hj⟩:=aMw hy
      have hjl:=(aKA.1 hj).1
      obtain⟨z,hz⟩:∃z,xs[j]? = some z:=⟨_,aKI (by omega)⟩
      obtain⟨c',k1,k2⟩:=rO j z (by omega) hz
      rw[hj] at k1
      injection k1 with k1
      subst k1
      exact k2.cell.2.2 _ (aKB _)
     ·rw[aLH] at hy
      subst hy
      exact hc.cell.2.2 _ (aKB _)
    ·rw[aLM hy]
     rfl
   ·intro j z hj hz
    by_cases Ed:j<i
    ·obtain⟨c',k1,k2⟩:=rO j z Ed hz
     exact⟨c',by rw[aKS (by omega)];exact k1,k2.dB fun b g y hb h=>aZ (aMx hb) (cL hh h)⟩
    ·have:j=i:=by simp only at hj;omega
     subst this
     rw[Kg] at hz
     injection hz with hz
     subst hz
     exact⟨c,by rw[aKT (by omega),mQ,Nat.sub_self];rfl,hc.dB fun b g y hb h=>aZ (aMx hb) h⟩
  ·have mC:i=xs.length:=by omega
   subst mC
   simp only[pF,h0,h1,h5,h6,bZ,VX,Nat.reduceEqDiff,Nat.reduceAdd]
   rw[aMs] at lT
   exact hQ _ _ cells h0 h5 hO mQ lT fun i x hx=>rO i x (aKA.1 hx).1 hx
 have Wm:∀(ρ:cW) (H:aA) (cells:List VV),ρ 0=lQ xs→ρ 5 = .ref n 0 0 (xs.length+room xs.length) (xs.length+room xs.length)→ρ 7=VI xs.length→C3 n H→cells.length=xs.length→aG H n 0=some (cells++aLr (room xs.length) (.tree [] .nil),1,true) →
    (∀(i:Nat) x,xs[i]? = some x→∃c,cells[i]? = some c∧tP n H bare x c)→∀Q:VQ,
   (∀(aQ:cW) (H:aA),aQ 0=lQ xs→aQ 5 = .ref n 0 0 (xs.length+room xs.length) (xs.length+room xs.length)→C3 n H→xI H bare xs n→Q (.exit 2) aQ H) →
   VW ⟨true,true⟩ n (.loop pC) Q ρ H:=by
  intro ρ H cells h0 h5 h7 hO mQ lT rO Q hQ
  have aES:∀y∈cells,jR n y=true:=fun y hy=>by
   obtain⟨j,hj⟩:=aMw hy
   have hjl:=(aKA.1 hj).1
   obtain⟨z,hz⟩:∃z,xs[j]? = some z:=⟨_,aKI (by omega)⟩
   obtain⟨c',k1,k2⟩:=rO j z hz
   rw[hj] at k1
   injection k1 with k1
   subst k1
   exact k2.cell.2.2 _ (aKB _)
  refine aP (fun(s:Nat×List VV) ρ H=>s.1≤room xs.length∧s.2.length=s.1∧C3 n H∧aG H n 0=some (cells++s.2++aLr (room xs.length-s.1) (.tree [] .nil),1,true)∧(∀(i:Nat) x,xs[i]? = some x→∃c,cells[i]? = some c∧tP n H bare x c)∧(∀c∈s.2,HK n H c) ∧
   ρ 0=lQ xs∧ρ 5 = .ref n 0 0 (xs.length+room xs.length) (xs.length+room xs.length)∧ρ 7=VI (xs.length+s.1:Nat)) (fun s=>room xs.length-s.1) (0,[])
   ⟨aK5 _,rfl,hO,by rw[aLJ];exact lT,rO,fun c hc=>(by cases hc),h0,h5,h7⟩ ?_
  rintro⟨i,fs⟩ ρ H ⟨hi,hfl,hO,lT,rO,hfs,h0,h5,h7⟩
  simp only at hi hfl lT rO h7 hfs
  have el:=eK (o:=0) (n:=xs.length+room xs.length) (c:=xs.length+room xs.length) lT
  by_cases bZ:((xs.length+i:Nat):Int)<((xs.length+room xs.length:Nat):Int)
  ·have eL:mW true [.string ⟨#[]⟩] 1 [(0,.sc (.string ⟨#[126,115,112,97,114,101,126]⟩))] H=some (.ref H.length 0 0 1 1,H++[.row 0 [sV kU] 1 true]):=adS rfl rfl rfl
   have PR:=dU (L:=[.row 0 [sV kU] 1 true]) lT
   have bI:=iT lT
   have e3:=bB (o:=0) (n:=xs.length+room xs.length) (c:=xs.length+room xs.length) (i:=xs.length+i) (k := .i64) PR (by omega)
   have e4:=bS (j:=xs.length+i) (lo:=n) (v := .ref H.length 0 0 1 1) PR (by simp;omega) (aKB _) rfl rfl
   have wU:=J7 (cells++fs) (room xs.length-(i+1)) (.tree [] .nil) (.ref H.length 0 0 1 1)
   rw[show (cells++fs).length=xs.length+i by simp[mQ,hfl],show room xs.length-(i+1)+1=room xs.length-i by omega] at wU
   rw[wU] at e4
   have wi:IntKind.i64.wrap (((xs.length+i:Nat):Int)+1)=((xs.length+(i+1):Nat):Int):=wrapN _ (by omega) (by omega)
   simp only[pC,h0,h5,h7,bZ,el,eL,e3,e4,wi,aL9,VX,Nat.reduceEqDiff,Nat.reduceAdd]
   have tW:∀b g x,n<b→aG H b g=some x→aG ((H++[fC.row 0 [sV kU] 1 true]).set n (fC.row 0 (cells++fs++[VV.ref H.length 0 0 1 1]++aLr (room xs.length-(i+1)) (VV.tree [] TK.nil)) 1 true)) b g=some x:=fun b g x hb h=>aZ (aMx hb) (dU h)
   refine⟨(i+1,fs++[.ref H.length 0 0 1 1]),by simp only;omega,by simp only;omega,by simp[hfl],?_,?_,?_,?_,by (repeat' apply And.intro)<;>first | rfl | trivial | assumption⟩
   ·refine(hO.app rfl).set (aKB _) (zW.2 fun y hy => ?_)
    rcases aLx.1 hy with hy | hy
    ·rcases aLx.1 hy with hy | hy
     ·rcases aLx.1 hy with hy | hy
      ·exact aES y hy
      ·exact(hfs y hy).cell.2.2 _ (aKB _)
     ·rw[aLH] at hy
      subst hy
      simp[jR];omega
    ·rw[aLM hy]
     rfl
   ·rw[bQ PR]
    simp only[aMn]
   ·intro j z hz
    obtain⟨c',k1,k2⟩:=rO j z hz
    exact⟨c',k1,k2.dB tW⟩
   ·intro c hc
    rcases aLx.1 hc with hc | hc
    ·exact(hfs c hc).dB tW
    ·rw[aLH] at hc
     subst hc
     exact⟨_,bI,rfl,aZ (aMx bI) jD⟩
  ·have mC:i=room xs.length:=by omega
   subst mC
   simp only[pC,h0,h5,h7,bZ,el,VX,Nat.reduceEqDiff,Nat.reduceAdd]
   rw[Nat.sub_self,List.replicate_zero,aLJ] at lT
   exact hQ _ _ h0 h5 hO ⟨cells,fs,lT,mQ,hfl,rO,hfs⟩
 have goal:∀(ρ0:cW),ρ0 0=lQ xs→ρ0 1 = .sc (.bool bare)→ρ0 5 = .ref n 0 0 (xs.length+room xs.length) (xs.length+room xs.length)→True:=fun _ _ _ _=>trivial
 cases bare with
 |
  true =>
  have Qq:=xJ rfl
  simp only[uH,qT,Qq,w1,em,kI,VX,Nat.reduceEqDiff,Nat.reduceAdd]
  refine main _ rfl rfl rfl rfl _ fun aQ H cells h0 h5 hO mQ lT rO => ?_
  simp only[h0,h5,VX,Nat.reduceEqDiff,Nat.reduceAdd]
  refine Wm _ _ cells (by exact h0) (by exact h5) rfl hO mQ lT rO _ fun BZ H h0 h5 hO hS => ?_
  obtain⟨cs,fs,k1,k2⟩:=hS
  have es:=rJ (o:=0) (n:=xs.length+room xs.length) (c:=xs.length+room xs.length) (h:=xs.length) (k2 := .i64) k1 (by omega)
  simp only[h0,h5,es,VX,Nat.reduceEqDiff,Nat.reduceAdd]
  obtain⟨L,rfl,hL⟩:=hO
  exact⟨L,rfl,by simp[jR],hL,.inr ⟨rfl,cs,fs,k1,k2⟩⟩
 |
  false =>
  simp only[uH,qT,w1,em,kI,VX,Nat.reduceEqDiff,Nat.reduceAdd]
  refine main _ rfl rfl rfl rfl _ fun aQ H cells h0 h5 hO mQ lT rO => ?_
  simp only[h0,h5,VX,Nat.reduceEqDiff,Nat.reduceAdd]
  refine Wm _ _ cells (by exact h0) (by exact h5) rfl hO mQ lT rO _ fun BZ H h0 h5 hO hS => ?_
  obtain⟨cs,fs,k1,k2⟩:=hS
  have es:=rJ (o:=0) (n:=xs.length+room xs.length) (c:=xs.length+room xs.length) (h:=xs.length) (k2 := .i64) k1 (by omega)
  simp only[h0,h5,es,VX,Nat.reduceEqDiff,Nat.reduceAdd]
  obtain⟨L,rfl,hL⟩:=hO
  exact⟨L,rfl,by simp[jR],hL,.inr ⟨rfl,cs,fs,k1,k2⟩⟩
end Go.PM
namespace Go.PM
structure vJ where
 b:List ByteArray
 g:List (List ByteArray)
 e:List ByteArray
def vW (s:vJ):VV := .agg [gM s.b,lQ s.g,gM s.e]
theorem rS (s:vJ):bA (vW s)=true:=by
 show aO [gM s.b,lQ s.g,gM s.e]=true
 simp only[aO,kQ,AW,Bool.and_self]
def aqI (s:vJ):Prop:=okS s.b∧aAQ s.g∧okS s.e
mutual
theorem KQ {n n':Nat} (h:n≤n') (v:VV) (hv:jR n' v=true):jR n v=true:=by
 cases v with
 | any=>cases hv
 | sc v=>exact hv
 | agg cs=>exact GY h cs hv
 | eJ cs=>exact GY h cs hv
 | tree es k=>exact hv
 | cJ=>cases hv
 | ref b g o n c=>simp only[jR,decide_eq_true_eq] at hv ⊢;omega
 | ptr b g j o=>simp only[jR,decide_eq_true_eq] at hv ⊢;omega
 | xU=>cases hv
theorem GY {n n':Nat} (h:n≤n') (vs:List VV) (hv:AB n' vs=true):AB n vs=true:=by
 cases vs with
 | nil=>rfl
 |
  cons x xs =>
  simp only[AB,aK9] at hv ⊢
  exact⟨KQ h x hv.1,GY h xs hv.2⟩
end
def Ls (n k:Nat) (H:aA):Prop:=∀(b g:Nat) (es:List VV) (e:Nat) (w:Bool),k≤b→H[b]? = some (.row g es e w)→AB n es=true
theorem Ls.app {n k:Nat} {H L:aA} (h:Ls n k H) (hn:n≤H.length) (hL:mZ H.length L=true):Ls n k (H++L):=by
 intro b g es e w hb hr
 rcases aKE b H.length with bI | Hl
 ·rw[aKS bI] at hr
  exact h b g es e w hb hr
 ·rw[aKT Hl] at hr
  exact GY hn _ (aKP.1 hL _ (aLv hr))
theorem Ls.set {n k b:Nat} {H:aA} {x:fC} (h:Ls n k H) (hb:b<k):Ls n k (H.set b x):=by
 intro b' g es e w xJ hr
 rw[List.getElem?_set_ne (by omega)] at hr
 exact h b' g es e w xJ hr
theorem aiX {n k:Nat} {H:aA} (hk:n≤k) (hl:k≤H.length) (hO:Ls n k H):∃L,Vu H (aLr n .dead++L)∧mZ n L=true∧∀b g x,k≤b→aG H b g=some x→aG (aLr n .dead++L) b g=some x:=by
 have e:aLr n fC.dead++(aLr (k-n) .dead++H.drop k)=aLr k .dead++H.drop k:=by
  rw[←aMn,List.replicate_append_replicate,Nat.add_sub_cancel' hk]
 have get:∀b,k≤b→(aLr k fC.dead++H.drop k)[b]? = H[b]? := fun b hb=>by
  rw[aKT (by simpa using hb),aMq,List.getElem?_drop]
  congr 1
  omega
 refine⟨aLr (k-n) .dead++H.drop k,⟨?_,?_⟩,?_,?_⟩
 ·rw[e];simp;omega
 ·intro b g es e' w hb
  rw[e] at hb
  rcases aKE b k with h | h
  ·rw[aKS (by simpa using h)] at hb
   have:=aLM (aLv hb)
   cases this
  ·rw[get b h] at hb
   exact hb
 ·unfold mZ
  rw[List.all_append,aK9]
  constructor
  ·rw[aKP]
   intro x hx
   rw[aLM hx]
  ·rw[aKP]
   intro x hx
   obtain⟨j,hj⟩:=aMw hx
   rw[List.getElem?_drop] at hj
   cases x with
   | dead=>rfl
   | row g es e' w=>exact hO _ _ _ _ _ (aMt _ _) hj
 ·intro b g x hb h
  obtain⟨es,e',w⟩:=x
  rw[cB] at h ⊢
  rw[e,get b hb]
  exact h
def vS (n:Nat) (H:aA) (bare:Bool) (xs:List (List ByteArray)) (c:VV):Prop :=
 (bare=true∧xs=[]∧c = .tree [] .nil)∨∃b,n<b∧c = .ref b 0 0 xs.length (xs.length+room xs.length)∧xI H bare xs b
theorem vS.dB {n:Nat} {H H':aA} {bare:Bool} {xs:List (List ByteArray)} {c:VV} (h:vS n H bare xs c) (hk:∀b g x,n<b→aG H b g=some x→aG H' b g=some x):vS n H' bare xs c:=by
 rcases h with h | ⟨b,h1,h2,h3⟩
 ·exact .inl h
 ·exact .inr ⟨b,h1,h2,h3.dB fun b' g x hb=>hk b' g x (by omega)⟩
theorem vS.cell {n:Nat} {H:aA} {bare:Bool} {x:List (List ByteArray)} {c:VV} (h:vS n H bare x c):aB c=[c]∧bN c=true:=by
 rcases h with⟨_,_,rfl⟩ | ⟨b,h1,rfl,_⟩
 ·exact⟨rfl,rfl⟩
 ·exact⟨rfl,rfl⟩
theorem xI.fz {d b:Nat} {H:aA} {bare:Bool} {xs:List (List ByteArray)} (h:xI H bare xs b):PM.fz (d+3) H (.ref b 0 0 xs.length (xs.length+room xs.length))=some (lQ xs):=by
 obtain⟨cells,iV,h1,h2,h3,h4,h5⟩:=h
 show PM.fz ((d+2)+1) H _=_
 unfold PM.fz
 have:bA (.ref b 0 0 xs.length (xs.length+room xs.length))=false:=rfl
 simp only[this,h1,aLd,if_false]
 rw[if_pos ⟨by simp;omega,aMt _ _⟩,aLN,List.take_left' h2]
 have:∀(xs:List (List ByteArray)) (cells:List VV),cells.length=xs.length→(∀(i:Nat) x,xs[i]? = some x→∃c,cells[i]? = some c∧tP b H bare x c)→cells.mapM (PM.fz (d+2) H)=some (xs.map gM):=by
  intro xs
  induction xs with
  |
   nil=>intro cells hl _;cases cells with
   | nil=>rfl
   | cons=>cases hl
  |
   cons x xs ih =>
   intro cells hl hc
   cases cells with
   | nil=>cases hl
   |
    cons c cells =>
    obtain⟨c',k1,k2⟩:=hc 0 x rfl
    injection k1 with k1
    subst k1
    rw[aLY,k2.fz,ih cells (by simpa using hl) fun i x hx=>hc (i+1) x hx]
    rfl
 rw[this xs cells h2 h4]
 rfl
theorem PW {d:Nat} {H:aA}:PM.fz (d+1) H (.tree [] .nil)=some (.tree [] .op):=by
 unfold PM.fz
 have:bA (.tree [] .nil)=false:=rfl
 simp only[this,aLd,if_false]
 rfl
theorem vS.fz {n d:Nat} {H:aA} {bare:Bool} {xs:List (List ByteArray)} {c:VV} (h:vS n H bare xs c):PM.fz (d+3) H c=some (lQ xs):=by
 rcases h with⟨_,rfl,rfl⟩ | ⟨b,h1,rfl,h3⟩
 ·exact PW
 ·exact h3.fz
def vK (n:Nat) (H:aA) (bare:Bool) (s:vJ) (r:VV):Prop:=∃c0 c1 c2,r = .agg [c0,c1,c2]∧tP n H bare s.b c0∧vS n H bare s.g c1∧tP n H bare s.e c2
theorem vK.dB {n:Nat} {H H':aA} {bare:Bool} {s:vJ} {c:VV} (h:vK n H bare s c) (hk:∀b g x,n<b→aG H b g=some x→aG H' b g=some x):vK n H' bare s c:=by
 obtain⟨c0,c1,c2,rfl,h0,h1,h2⟩:=h
 exact⟨c0,c1,c2,rfl,h0.dB hk,h1.dB hk,h2.dB hk⟩
theorem vK.pre {n:Nat} {H H':aA} {bare:Bool} {s:vJ} {c:VV} (h:vK n H bare s c) (hh:H <+: H'):vK n H' bare s c:=h.dB fun _ _ _ _=>cL hh
theorem vK.fz {n:Nat} {H:aA} {bare:Bool} {s:vJ} {c:VV} (h:vK n H bare s c):PM.fz depth H c=some (vW s):=by
 obtain⟨c0,c1,c2,rfl,h0,h1,h2⟩:=h
 cases hp:bA (.agg [c0,c1,c2]) with
 |
  true =>
  simp only[bA,aO,aK9] at hp
  have f0:=h0.fz (d:=0)
  have f1:=h1.fz (d:=0)
  have f2:=h2.fz (d:=0)
  rw[aN hp.1] at f0
  rw[aN hp.2.1] at f1
  rw[aN hp.2.2.1] at f2
  injection f0 with f0
  injection f1 with f1
  injection f2 with f2
  subst f0 f1 f2
  exact aL (rS s)
 |
  false =>
  show PM.fz (7+1) H _=_
  unfold PM.fz
  simp only[hp,aLd,if_false]
  rw[aLY,h0.fz (d:=5),aLY,h1.fz (d:=4),aLY,h2.fz (d:=5)]
  rfl
theorem aA7 {n m lo:Nat} {x:List ByteArray} {bare:Bool} {H:aA} {K:VV→aA→Prop} (hx:x.length≤1000000000) (hn:n≤H.length) (hm:m<H.length) (hO:Ls n (m+1) H)
  (hk:∀c H',H <+: H'→Ls n (m+1) H'→tP m H' bare x c→jR n c=true→K c H'):dI 34 [gM x,.sc (.bool bare)] lo H K:=by
 refine(C1 x bare hx).avL rfl (mapM_pure (n:=7) (by simp[aO,kQ];rfl)) ?_
 rintro r L hR hv hL
 refine hk r _ (aMv _ _) (hO.app hn hL) ?_ (KQ hn _ hv)
 rcases hR with⟨hb,rfl,rfl,rfl⟩ | ⟨rfl,rfl⟩
 ·exact .inl ⟨hb,rfl,rfl⟩
 ·exact .inr ⟨_,hm,rfl,Gl (i:=0) rfl⟩
theorem aAT {n m lo:Nat} {xs:List (List ByteArray)} {bare:Bool} {H:aA} {K:VV→aA→Prop} (hl:xs.length≤1000000000) (hx:∀x∈xs,x.length≤1000000000) (hn:n≤H.length) (hm:m<H.length) (hO:Ls n (m+1) H)
  (hk:∀c H',H <+: H'→Ls n (m+1) H'→vS m H' bare xs c→jR n c=true→K c H'):dI 17 [lQ xs,.sc (.bool bare)] lo H K:=by
 refine(Jz xs bare hl hx).avL rfl (mapM_pure (n:=7) (by simp[aO,AW];rfl)) ?_
 rintro r L hR hv hL
 refine hk r _ (aMv _ _) (hO.app hn hL) ?_ (KQ hn _ hv)
 rcases hR with⟨hb,rfl,rfl,rfl⟩ | ⟨rfl,h⟩
 ·exact .inl ⟨hb,rfl,rfl⟩
 ·exact .inr ⟨_,hm,rfl,h.dB fun b' g x hb h=>LU hb h⟩
end Go.PM
namespace Go.Proofs.YtjmflicajplclaaGreatDoor
open Go.ChangeShapes Go.WideShapes Go.ChangeAt Go.RowKit Go.PM
theorem Iu {P:Program} {W:World} {base:Nat} {u e:TypeId} {v:Value} (ht:P.underlying u=some (.slice e)) (h:Cell.okWide P W .any base u v) (hB:¬Gy W):v = .slice none 0 0:=by
 simp only[Cell.okWide,ht,Cell.ok] at h
 split at h
 case h_7=>rfl
 case h_9 =>
  obtain⟨_,_,_,_,row,n,hs,_⟩:=h
  exfalso
  apply hB
  unfold World.shape? at hs
  split at hs
  ·rename_i arr e' fz hb
   exact⟨_,arr,e',fz,hb⟩
  ·cases hs
 all_goals first | exact h.elim | (rename_i hx;cases hx) | (rename_i hx _;cases hx)
theorem Ig {T:Type} {Ak:TypeId×Value→T} {W:World} (hB:Gy W):F3 Ak Tryz.prog W 33 1 fun vs=>∃s:List ByteArray,s.length≤maxLen∧(∀x∈s,x.size≤maxLen)∧vs=[gM s] :=
 Mz (f:=sV) (aiH:=fun x=>x.size≤maxLen) Tryz.underlying33 (by kernel_rfl) (by decide) hB aiF (TD Tryz.underlying9)
theorem VF {T:Type} {Ak:TypeId×Value→T} {W:World} (hB:Gy W):F3 Ak Tryz.prog W 22 1 fun vs=>∃s:List (List ByteArray),s.length≤maxLen∧(∀x∈s,x.length≤maxLen∧∀y∈x,y.size≤maxLen)∧vs=[lQ s]:=by
 refine Mz (f:=gM) (aiH:=fun x=>x.length≤maxLen∧∀y∈x,y.size≤maxLen) Tryz.underlying22 (by kernel_rfl) (by decide) hB (fun _=>rfl) ?_
 intro fuel cs y h m H hI
 obtain⟨hl,m',L,Li,vs,ho,s,h1,h2,rfl⟩:=Ig hB fuel cs y h m H hI
 exact⟨hl,m',L,Li,_,ho,s,⟨h1,h2⟩,rfl⟩
theorem aeI {T:Type} {Ak:TypeId×Value→T} {W:World} (hB:Gy W):F3 Ak Tryz.prog W 57 3 fun vs=>∃s:vJ,aqI s∧vs=aB (vW s):=by
 intro fuel cs y h m H hI
 obtain⟨hl,m',L,Li,vs,ho,a,b,c,⟨sa,a1,a2,rfl⟩,⟨sb,b1,b2,rfl⟩,⟨sc,c1,c2,rfl⟩,rfl⟩:=U8 Tryz.underlying57 (by kernel_rfl) ⟨_,rfl,rfl,rfl⟩ ⟨_,rfl,rfl,rfl⟩ ⟨_,rfl,rfl,rfl⟩ rfl (by kernel_rfl) (by kernel_rfl) (by kernel_rfl)
  (Ig hB) (VF hB) (Ig hB) fuel cs y h m H hI
 exact⟨hl,m',L,Li,_,ho,⟨sa,sb,sc⟩,⟨⟨a1,a2⟩,⟨b1,b2⟩,⟨c1,c2⟩⟩,rfl⟩
theorem WH (xs:List Value) (i:Nat):xs.toArray.getD i Go.undef=xs.getD i Go.undef:=by
 simp[aKJ,List.getD_eq_getElem?_getD]
set_option maxRecDepth 100000 in
theorem aiG {T:Type} {Ak:TypeId×Value→T} {W:World} {v:Value} {d:DataW T} {ps:List MemPlace} {base:Nat} {m:dO} {H:aJ} (h:DataW.Trod Ak Tryz.prog W 0 (fun _=>true) true 57 v d ps) (hv:Value.okWide Tryz.prog W .any base 57 v) (hI:In m H W) :
  ∃m' L pv s,In m' (H++L) W∧(∀b l,m b=some l→m' b=some l)∧RV m' pv v∧VR (bare (· < (H++L).length) (H++L)) (vW s) pv∧aqI s:=by
 have hv':=hv
 obtain⟨cs,rfl,P4⟩:=okWide_struct Tryz.underlying57 hv
 by_cases hB:Gy W
 ·obtain⟨fuel,hf⟩:=h
  have e:(Value.agg cs).cells.toList=cs.toList:=rfl
  rw[e] at hf
  obtain⟨hl,m',L,Li,vs,ho,s,hs,rfl⟩:=aeI hB fuel _ _ hf m H hI
  refine⟨m',L,.agg Li.toArray,s,ho.inn,ho.ext,.agg _ _ ?_ fun i hi => ?_,.agg _ _ ho.tree,hs⟩
  ·have:=ho.len
   simpa using this
  ·have qL:i<cs.toList.length:=by have:=ho.len;simp at hi ⊢;simp at this;omega
   have:=ho.rv i qL
   rw[WH]
   have e2:cs.getD i Go.undef=cs.toList.getD i Go.undef:=by
    rw[←WH]
   rw[e2]
   exact this
 ·have hts:Tryz.prog.cellTypes Tryz.prog.depth 57=some [33,22,33]:=by kernel_rfl
  have h3:Tryz.prog.cellsOf 57=3:=by kernel_rfl
  rw[h3] at P4
  simp only[Value.okWide,Tryz.underlying57] at hv'
  obtain⟨CH,e1,_,ts,e2,_,hc⟩:=hv'
  cases e1
  rw[hts] at e2
  cases e2
  have c0:cs[0]? = some (.slice none 0 0):=by
   have e:cs[0]? = some cs[0]:=aMy (by omega)
   obtain⟨u,hu,hk⟩:=hc 0 _ e
   cases hu
   rw[e,Iu Tryz.underlying33 hk hB]
  have c1:cs[1]? = some (.slice none 0 0):=by
   have e:cs[1]? = some cs[1]:=aMy (by omega)
   obtain⟨u,hu,hk⟩:=hc 1 _ e
   cases hu
   rw[e,Iu Tryz.underlying22 hk hB]
  have c2:cs[2]? = some (.slice none 0 0):=by
   have e:cs[2]? = some cs[2]:=aMy (by omega)
   obtain⟨u,hu,hk⟩:=hc 2 _ e
   cases hu
   rw[e,Iu Tryz.underlying33 hk hB]
  refine⟨m,[],.agg #[.slice none 0 0,.slice none 0 0,.slice none 0 0],⟨[],[],[]⟩,by rw[aLJ];exact hI,fun _ _ h=>h,.agg _ _ (by rw[P4];rfl) fun i hi => ?_,.agg [.tree [] .op,.tree [] .op,.tree [] .op] [.slice none 0 0,.slice none 0 0,.slice none 0 0] (.cons _ _ _ _ (.pP _ (.inl rfl)) (.cons _ _ _ _ (.pP _ (.inl rfl)) (.cons _ _ _ _ (.pP _ (.inl rfl)) .nil))),⟨aK5 _,fun x hx=>(by cases hx)⟩,⟨aK5 _,fun x hx=>(by cases hx)⟩,⟨aK5 _,fun x hx=>(by cases hx)⟩⟩
  match i,hi with
  | 0,_=>rw[show cs.getD 0 Go.undef = .slice none 0 0 by rw[aKJ,c0];rfl];exact .Nj
  | 1,_=>rw[show cs.getD 1 Go.undef = .slice none 0 0 by rw[aKJ,c1];rfl];exact .Nj
  | 2,_=>rw[show cs.getD 2 Go.undef = .slice none 0 0 by rw[aKJ,c2];rfl];exact .Nj
end Go.Proofs.YtjmflicajplclaaGreatDoor
namespace Go.Proofs.YtjmflicajplclaaGreatDoor
open Go.ChangeShapes Go.WideShapes Go.ChangeAt Go.RowKit Go.PM
end Go.Proofs.YtjmflicajplclaaGreatDoor
namespace Go.PM
def Sg (f:Nat→Rat):Nat→Rat
 | 0=>0
 | n+1=>Sg f n+f n
theorem gT {f g:Nat→Rat}:∀ {n:Nat},(∀i,i<n→f i=g i)→Sg f n=Sg g n
 | 0,_=>rfl
 | n+1,h=>by rw[Sg,Sg,gT fun i hi=>h i (by omega),h n (by omega)]
theorem NA {f:Nat→Rat} {n:Nat} (h:∀i,i<n→f i=0):Sg f n=0:=by
 induction n with
 | zero=>rfl
 | succ n ih=>rw[Sg,ih fun i hi=>h i (by omega),h n (by omega)];grind
theorem amU (f g:Nat→Rat) (n:Nat):Sg (fun i=>f i+g i) n=Sg f n+Sg g n:=by
 induction n with
 | zero=>simp only[Sg];grind
 | succ n ih=>simp only[Sg,ih];grind
theorem DR (c:Rat) (f:Nat→Rat) (n:Nat):Sg (fun i=>c*f i) n=c*Sg f n:=by
 induction n with
 | zero=>simp only[Sg];grind
 | succ n ih=>simp only[Sg,ih];grind
theorem N0 (f g:Nat→Rat) (n:Nat):Sg (fun i=>f i-g i) n=Sg f n-Sg g n:=by
 induction n with
 | zero=>simp only[Sg];grind
 | succ n ih=>simp only[Sg,ih];grind
theorem Oj {f:Nat→Rat} {n k:Nat} (hk:k<n) (h:∀i,i<n→i≠k→f i=0):Sg f n=f k:=by
 induction n with
 | zero=>omega
 |
  succ n ih =>
  rw[Sg]
  by_cases T2:k=n
  ·subst T2
   rw[NA fun i hi=>h i (by omega) (by omega)]
   grind
  ·rw[ih (by omega) fun i hi=>h i (by omega),h n (by omega) (by omega)]
   grind
theorem aqX {f:Nat→Rat} {n k:Nat} (hk:k<n) (h:∀i,k<i→i<n→f i=0):Sg f n=Sg f k+f k:=by
 induction n with
 | zero=>omega
 |
  succ n ih =>
  by_cases T2:k=n
  ·subst T2;rfl
  ·rw[Sg,ih (by omega) fun i hi hn=>h i hi (by omega),h n (by omega) (by omega)]
   grind
theorem LP {f:Nat→Rat} {n:Nat} (h:∀i,i<n→0≤f i):0≤Sg f n:=by
 induction n with
 | zero=>exact Rat.le_refl
 |
  succ n ih =>
  have h1:=ih fun i hi=>h i (by omega)
  have h2:=h n (by omega)
  rw[Sg];grind
theorem aAH {f g:Nat→Rat} {n:Nat} (h:∀i,i<n→f i≤g i):Sg f n≤Sg g n:=by
 induction n with
 | zero=>exact Rat.le_refl
 |
  succ n ih =>
  have h1:=ih fun i hi=>h i (by omega)
  have h2:=h n (by omega)
  rw[Sg,Sg];grind
theorem apZ (F:Nat→Nat→Rat) (n m:Nat):Sg (fun i=>Sg (F i) m) n=Sg (fun j=>Sg (fun i=>F i j) n) m:=by
 induction n with
 | zero=>simp only[Sg];rw[NA];intros;rfl
 | succ n ih=>simp only[Sg,ih];rw[amU]
def eU (n:Nat) (A:Nat→Nat→Rat) (b x:Nat→Rat):Prop:=∀i,i<n→Sg (fun j=>A i j*x j) n=b i
def B0 (n:Nat) (A:Nat→Nat→Rat):Prop:=∀x,eU n A (fun _=>0) x→∀j,j<n→x j=0
theorem B0.uniq {n:Nat} {A:Nat→Nat→Rat} {b x y:Nat→Rat} (h:B0 n A) (hx:eU n A b x) (hy:eU n A b y):∀j,j<n→x j=y j:=by
 intro j hj
 have:=h (fun j=>x j-y j) (fun i hi=>by
  have e:Sg (fun j=>A i j*(x j-y j)) n=Sg (fun j=>A i j*x j) n-Sg (fun j=>A i j*y j) n:=by
   rw[←N0]
   exact gT fun j _=>by grind
  rw[e,hx i hi,hy i hi]
  grind) j hj
 grind
def Hr (c:Nat→Rat) (k:Nat) (A:Nat→Nat→Rat):Nat→Nat→Rat:=fun i j=>A i j-c i*A k j
def T6 (c:Nat→Rat) (k:Nat) (b:Nat→Rat):Nat→Rat:=fun i=>b i-c i*b k
theorem DU {n k:Nat} {A:Nat→Nat→Rat} {b x c:Nat→Rat} (hk:k<n) (hc:c k=0):eU n (Hr c k A) (T6 c k b) x↔eU n A b x:=by
 have e:∀i,Sg (fun j=>Hr c k A i j*x j) n=Sg (fun j=>A i j*x j) n-c i*Sg (fun j=>A k j*x j) n:=by
  intro i
  rw[←DR,←N0]
  exact gT fun j _=>by unfold Hr;grind
 constructor
 ·intro h
  have hk':=h k hk
  rw[e] at hk'
  unfold T6 at hk'
  rw[hc] at hk'
  intro i hi
  have:=h i hi
  rw[e] at this
  unfold T6 at this
  grind
 ·intro h i hi
  rw[e,h i hi,h k hk]
  rfl
theorem Pc {n k:Nat} {A:Nat→Nat→Rat} {c:Nat→Rat} (hk:k<n) (hc:c k=0) (h:B0 n A):B0 n (Hr c k A):=by
 intro x hx
 refine h x ((DU (b:=fun _=>0) hk hc).1 fun i hi => ?_)
 rw[hx i hi]
 unfold T6
 grind
def swp {α:Type} (k m:Nat) (A:Nat→α):Nat→α:=fun i=>if i=k then A m else if i=m then A k else A i
theorem D4 {n k m:Nat} {A:Nat→Nat→Rat} {b x:Nat→Rat} (hk:k<n) (hm:m<n):eU n (swp k m A) (swp k m b) x↔eU n A b x:=by
 constructor
 ·intro h i hi
  by_cases h1:i=k
  ·subst h1
   have:=h m hm
   unfold swp at this
   by_cases h2:m=i
   ·subst h2;simpa using this
   ·simpa[h2] using this
  ·by_cases h2:i=m
   ·subst h2
    have:=h k hk
    unfold swp at this
    simpa using this
   ·have:=h i hi
    unfold swp at this
    simpa[h1,h2] using this
 ·intro h i hi
  unfold swp
  by_cases h1:i=k
  ·subst h1
   simpa using h m hm
  ·by_cases h2:i=m
   ·subst h2
    simpa[h1] using h k hk
   ·simpa[h1,h2] using h i hi
theorem Oo {n k m:Nat} {A:Nat→Nat→Rat} (hk:k<n) (hm:m<n) (h:B0 n A):B0 n (swp k m A):=by
 intro x hx
 refine h x ((D4 (b:=fun _=>0) hk hm).1 fun i hi => ?_)
 rw[hx i hi]
 unfold swp
 split<;>(try split)<;>rfl
def Bn (n k:Nat) (A:Nat→Nat→Rat):Prop:=(∀i j,i<n→j<k→j<i→A i j=0)∧∀j,j<k→A j j≠0
theorem Bn.solve {k:Nat} {A:Nat→Nat→Rat}:∀ {m:Nat},m≤k→Bn k k A→∀b:Nat→Rat,(∀i,m≤i→b i=0)→∃x:Nat→Rat,(∀i,m≤i→x i=0)∧eU k A b x
 | 0,_,_,b,hb=>⟨fun _=>0,fun _ _=>rfl,fun i _=>by rw[NA fun j _=>by grind,hb i (aK5 _)]⟩
 |
  m+1,hm,hU,b,hb=>by
  let t:=b m / A m m
  obtain⟨x,RY,hx⟩:=Bn.solve (m:=m) (by omega) hU (fun i=>if i<m then b i-A i m*t else 0) (fun i hi=>if_neg (by omega))
  refine⟨fun i=>if i=m then t else x i,fun i hi => ?_,fun i hi => ?_⟩
  ·simp only[]
   rw[if_neg (by omega)]
   exact RY i (by omega)
  ·have e:Sg (fun j=>A i j*(if j=m then t else x j)) k=Sg (fun j=>A i j*x j) k+A i m*t:=by
    have e1:Sg (fun j=>if j=m then A i m*t else 0) k=A i m*t:=by
     rw[Oj (k:=m) (by omega) fun j _ hj=>if_neg hj,if_pos rfl]
    rw[←e1,←amU]
    refine gT fun j _ => ?_
    by_cases hj:j=m
    ·subst hj
     rw[if_pos rfl,if_pos rfl,RY j (aKB _)]
     grind
    ·rw[if_neg hj,if_neg hj]
     grind
   rw[e,hx i hi]
   simp only[]
   have hmm:=hU.2 m (by omega)
   by_cases h1:i<m
   ·rw[if_pos h1];grind
   ·rw[if_neg h1]
    by_cases h2:i=m
    ·subst h2
     show 0+A i i*(b i / A i i)=b i
     grind
    ·rw[hU.1 i m hi (by omega) (by omega),hb i (by omega)]
     grind
theorem B0.ahT {n k:Nat} {A:Nat→Nat→Rat} (hF:B0 n A) (hk:k<n) (hU:Bn n k A):∃m,k≤m∧m<n∧A m k≠0:=by
 apply Classical.byContradiction
 intro hno
 have hz:∀m,k≤m→m<n→A m k=0:=fun m h1 h2=>Classical.byContradiction fun h=>hno ⟨m,h1,h2,h⟩
 have hU':Bn k k A:=⟨fun i j hi hj=>hU.1 i j (by omega) hj,hU.2⟩
 obtain⟨x,RY,hx⟩:=hU'.solve (m:=k) (aKB _) (fun i=>if i<k then-A i k else 0) (fun i hi=>if_neg (by omega))
 have:=hF (fun j=>if j=k then 1 else x j) (fun i hi=>by
  have e:Sg (fun j=>A i j*(if j=k then 1 else x j)) n=Sg (fun j=>A i j*x j) k+A i k:=by
   rw[aqX hk fun j h1 h2=>by rw[if_neg (by omega),RY j (by omega)];grind]
   rw[if_pos rfl,gT (g:=fun j=>A i j*x j) fun j hj=>by rw[if_neg (by omega)]]
   grind
  rw[e]
  by_cases Wn:i<k
  ·rw[hx i Wn];simp only[];rw[if_pos Wn];grind
  ·rw[hz i (by omega) hi,NA fun j hj=>by rw[hU.1 i j hi hj (by omega)];grind]
   grind) k hk
 rw[if_pos rfl] at this
 exact absurd this (by decide)
theorem Bn.step {n k:Nat} {A:Nat→Nat→Rat} (hU:Bn n k A) (S9:A k k≠0) (hk:k<n):Bn n (k+1) (Hr (fun i=>if k<i then A i k / A k k else 0) k A):=by
 refine⟨fun i j hi hj Ed => ?_,fun j hj => ?_⟩
 ·unfold Hr
  by_cases Tl:j=k
  ·subst Tl
   simp only[]
   rw[if_pos Ed]
   grind
  ·rw[hU.1 i j hi (by omega) Ed,hU.1 k j hk (by omega) (by omega)]
   grind
 ·unfold Hr
  by_cases Tl:j=k
  ·subst Tl
   simp only[]
   rw[if_neg (by omega)]
   grind
  ·simp only[]
   rw[if_neg (by omega)]
   have:=hU.2 j (by omega)
   grind
theorem Bn.swp {n k m:Nat} {A:Nat→Nat→Rat} (hU:Bn n k A) (hk:k≤m) (hm:m<n):Bn n k (swp k m A):=by
 refine⟨fun i j hi hj Ed => ?_,fun j hj => ?_⟩
 ·unfold Go.PM.swp
  split
  ·exact hU.1 m j hm hj (by omega)
  ·split
   ·exact hU.1 k j (by omega) hj (by omega)
   ·exact hU.1 i j hi hj Ed
 ·unfold Go.PM.swp
  rw[if_neg (by omega),if_neg (by omega)]
  exact hU.2 j hj
def Nb (n k:Nat) (A:Nat→Nat→Rat):Prop:=(∀i j,i<n→j<k→i≠j→A i j=0)∧∀j,j<k→A j j≠0
theorem Nb.upper {n k:Nat} {A:Nat→Nat→Rat} (h:Nb n k A):Bn n k A:=⟨fun i j hi hj Ed=>h.1 i j hi hj (by omega),h.2⟩
theorem Nb.step {n k:Nat} {A:Nat→Nat→Rat} (hU:Nb n k A) (S9:A k k≠0) (hk:k<n):Nb n (k+1) (Hr (fun i=>if i=k then 0 else A i k / A k k) k A):=by
 refine⟨fun i j hi hj Ed => ?_,fun j hj => ?_⟩
 ·unfold Hr
  by_cases Tl:j=k
  ·subst Tl
   simp only[]
   rw[if_neg Ed]
   grind
  ·rw[hU.1 i j hi (by omega) Ed,hU.1 k j hk (by omega) (by omega)]
   grind
 ·unfold Hr
  by_cases Tl:j=k
  ·subst Tl
   simp only[]
   rw[if_pos trivial]
   grind
  ·simp only[]
   rw[if_neg Tl,hU.1 k j hk (by omega) (by omega)]
   have:=hU.2 j (by omega)
   grind
theorem Nb.swp {n k m:Nat} {A:Nat→Nat→Rat} (hU:Nb n k A) (hk:k≤m) (hm:m<n):Nb n k (swp k m A):=by
 refine⟨fun i j hi hj Ed => ?_,fun j hj => ?_⟩
 ·unfold Go.PM.swp
  split
  ·exact hU.1 m j hm hj (by omega)
  ·split
   ·exact hU.1 k j (by omega) hj (by omega)
   ·exact hU.1 i j hi hj Ed
 ·unfold Go.PM.swp
  rw[if_neg (by omega),if_neg (by omega)]
  exact hU.2 j hj
theorem Nb.alH {n:Nat} {A:Nat→Nat→Rat} (hU:Nb n n A) (b:Nat→Rat):eU n A b fun i=>b i / A i i:=by
 intro i hi
 rw[Oj hi fun j hj Ed=>by rw[hU.1 i j hi hj (Ne.symm Ed)];grind]
 have:=hU.2 i hi
 grind
theorem Bn.back {n k:Nat} {A:Nat→Nat→Rat} {b x:Nat→Rat} (hU:Bn n n A) (hx:eU n A b x) (hk:k<n):x k=(b k-(Sg (fun j=>A k j*x j) n-Sg (fun j=>A k j*x j) (k+1))) / A k k:=by
 have h1:=hx k hk
 have h2:Sg (fun j=>A k j*x j) (k+1)=A k k*x k:=by
  rw[Oj (k:=k) (by omega) fun j hj Tl=>by rw[hU.1 k j hk (by omega) (by omega)];grind]
 have:=hU.2 k hk
 rw[h1,h2]
 grind
end Go.PM
namespace Go.PM
theorem P7 {lo b:Nat} {H:aA} {c x y z:VV} (k:Nat) (h:aG H b 0=some ([.agg [x,y,z]],3,true)) (dS:lo≤b) (hc:aB c=[c]) (hs:bN c=true) (hk:k<3) :
  bL lo 1 (.ptr b 0 0 k) c H=some (H.set b (.row 0 [.agg ([x,y,z].set k c)] 3 true)):=by
 rw[Gk,h]
 simp only[List.getElem?_cons_zero,hc,aKL,aMe,List.all_cons,List.all_nil,hs,List.set_cons_zero]
 rw[if_pos ⟨by decide,dS,by decide⟩,if_neg (by omega),if_pos ⟨by decide,by omega⟩]
 match k,hk with
 | 0,_=>rfl
 | 1,_=>rfl
 | 2,_=>rfl
set_option maxHeartbeats 1000000 in
theorem LH (s:vJ) (bare:Bool) (hb:s.b.length≤1000000000) (hg:s.g.length≤1000000000∧∀x∈s.g,x.length≤1000000000) (he:s.e.length≤1000000000):FC 46 [vW s,.sc (.bool bare)] fun n r L=>vK n (aLr n .dead++L) bare s r:=by
 refine FC.aBp ⟨true,false⟩ KA (aMp rfl) fun n => ?_
 simp only[FN,Dt,vW,VX,Nat.reduceEqDiff,Nat.reduceAdd,fZ,Nat.reduceLeDiff,Nat.reduceLT,Nat.reduceSub,NN,aaT,aiL,aAc,aBe,aMn,aMt,atH,asQ,aMq]
 refine aA7 (n:=n) (m:=n+1) hb (by simp) (by simp) ?_ fun c0 H1 p1 O1 s0 w0 => ?_
 ·intro b g es e w hb hr
  rw[List.getElem?_eq_none (by simp;omega)] at hr
  cases hr
 have CU:n+2≤H1.length:=by have:=p1.length_le;simpa using this
 have a1:aG H1 (n+1) 0=some ([.agg [.tree [] .nil,.tree [] .nil,.tree [] .nil]],3,true):=cL p1 (by rw[aaT];rfl)
 have b1:aG H1 n 0=some ([.agg [.tree [] .nil,.tree [] .nil,.tree [] .nil]],3,true):=cL p1 (by rw[NN];rfl)
 have e1:=P7 (lo:=n) 0 a1 (Nat.le_succ n) s0.cell.1 s0.cell.2.1 (by decide)
 simp only[a1,e1,zP,Nat.add_zero,VX,Nat.reduceEqDiff,Nat.reduceAdd]
 refine aAT (n:=n) (m:=n+1) hg.1 hg.2 (by rw[aMz];omega) (by rw[aMz];omega) (O1.set (by omega)) fun c1 H2 p2 O2 s1 w1 => ?_
 have JN:n+2≤H2.length:=by have:=p2.length_le;rw[aMz] at this;omega
 have a2:aG H2 (n+1) 0=some ([.agg [c0,.tree [] .nil,.tree [] .nil]],3,true):=cL p2 (bQ a1)
 have b2:aG H2 n 0=some ([.agg [.tree [] .nil,.tree [] .nil,.tree [] .nil]],3,true):=cL p2 (aZ (by omega) b1)
 have s0':=s0.dB (H':=H2) fun b g x hb h=>cL p2 (aZ (by omega) h)
 have e2:=P7 (lo:=n) 1 a2 (Nat.le_succ n) s1.cell.1 s1.cell.2 (by decide)
 simp only[a2,e2,zP,aL9,VX,Nat.reduceEqDiff,Nat.reduceAdd]
 refine aA7 (n:=n) (m:=n+1) he (by rw[aMz];omega) (by rw[aMz];omega) (O2.set (by omega)) fun c2 H3 p3 O3 s2 w2 => ?_
 have hl3:n+2≤H3.length:=by have:=p3.length_le;rw[aMz] at this;omega
 have a3:aG H3 (n+1) 0=some ([.agg [c0,c1,.tree [] .nil]],3,true):=cL p3 (bQ a2)
 have b3:aG H3 n 0=some ([.agg [.tree [] .nil,.tree [] .nil,.tree [] .nil]],3,true):=cL p3 (aZ (by omega) b2)
 have aDr:=s0'.dB (H':=H3) fun b g x hb h=>cL p3 (aZ (by omega) h)
 have aFj:=s1.dB (H':=H3) fun b g x hb h=>cL p3 (aZ (by omega) h)
 have e3:=P7 (lo:=n) 2 a3 (Nat.le_succ n) s2.cell.1 s2.cell.2.1 (by decide)
 have e4:bH true 3 (.ptr (n+1) 0 0 0) (H3.set (n+1) (.row 0 [.agg [c0,c1,c2]] 3 true))=some (.agg [c0,c1,c2]):=by
  rw[bJ,bQ a3]
  rfl
 have hv:aB c0=[c0]∧aB c1=[c1]∧aB c2=[c2]:=⟨s0.cell.1,s1.cell.1,s2.cell.1⟩
 have e5:=bS (lo:=n) (v := .agg [c0,c1,c2]) (j:=0) (aZ (x := .row 0 [.agg [c0,c1,c2]] 3 true) (b':=n+1) (by omega) b3) (by decide) (aKB _) (by rfl) (by simp[aB,s0.cell.2.1,s1.cell.2,s2.cell.2.1])
 have e6:bH true 3 (.ptr n 0 0 0) ((H3.set (n+1) (.row 0 [.agg [c0,c1,c2]] 3 true)).set n (.row 0 [.agg [c0,c1,c2]] 3 true))=some (.agg [c0,c1,c2]):=by
  rw[bJ,bQ (aZ (x := .row 0 [.agg [c0,c1,c2]] 3 true) (b':=n+1) (by omega) b3)]
  rfl
 simp only[a3,e3,e4,e5,e6,zP,aL9,List.set_cons_zero,List.set_cons_succ,pJ,sW,Fk,VX,Nat.reduceEqDiff,Nat.reduceAdd]
 obtain⟨L,k1,k2,k3⟩:=aiX (n:=n) (k:=n+2) (H:=(H3.set (n+1) (.row 0 [.agg [c0,c1,c2]] 3 true)).set n (.row 0 [.agg [c0,c1,c2]] 3 true)) (by omega) (by rw[aMz,aMz];exact hl3) ((O3.set (by omega)).set (by omega))
 have tW:∀b g x,n+1<b→aG H3 b g=some x→aG (aLr n .dead++L) b g=some x:=fun b g x hb h=>k3 b g x hb (aZ (by omega) (aZ (by omega) h))
 have up:∀ {H c x},tP (n+1) H bare x c→tP n H bare x c:=fun h=>by
  rcases h with h | ⟨b,h1,h2,h3⟩
  ·exact .inl h
  ·exact .inr ⟨b,by omega,h2,h3⟩
 have up2:∀ {H c x},vS (n+1) H bare x c→vS n H bare x c:=fun h=>by
  rcases h with h | ⟨b,h1,h2,h3⟩
  ·exact .inl h
  ·exact .inr ⟨b,by omega,h2,h3⟩
 refine⟨L,k1,by simp[jR,AB,w0,w1,w2],k2,c0,c1,c2,rfl,up (aDr.dB tW),up2 (aFj.dB tW),up (s2.dB tW)⟩
theorem Lf (s:vJ) (left:Int) (hx:aqI s) (hl:0≤left∧left≤1000000):TC 44 [vW s,VI left] (VI (if HV s.b left<0 then -1 else if FJ s.g (HV s.b left)<0 then -1 else if HV s.e (FJ s.g (HV s.b left))<0 then -1 else HV s.e (FJ s.g (HV s.b left)))):=by
 refine TC.walk ⟨true,false⟩ Lq rfl (aMp rfl) (by simp[aO,rS];rfl) rfl ?_
 have e0:=yE s.b left hx.1 hl
 by_cases h0:HV s.b left<0
 ·simp only[sE,oC,vW,e0,h0,if_true,VX,Nat.reduceEqDiff,Nat.reduceAdd,fZ,Nat.reduceLeDiff,Nat.reduceLT,Nat.reduceSub]
  exact aL rfl
 have b0:=Iz (xs:=s.b) (l:=left) (by omega)
 have e1:=I7 s.g _ hx.2.1 ⟨Int.not_lt.1 h0,by omega⟩
 by_cases h1:FJ s.g (HV s.b left)<0
 ·simp only[sE,oC,vW,e0,e1,h0,h1,if_true,if_false,VX,Nat.reduceEqDiff,Nat.reduceAdd,fZ,Nat.reduceLeDiff,Nat.reduceLT,Nat.reduceSub]
  exact aL rfl
 have b1:=TV (xs:=s.g) (l:=HV s.b left) (by omega)
 have e2:=yE s.e _ hx.2.2 ⟨Int.not_lt.1 h1,by omega⟩
 by_cases h2:HV s.e (FJ s.g (HV s.b left))<0
 ·simp only[sE,oC,vW,e0,e1,e2,h0,h1,h2,if_true,if_false,VX,Nat.reduceEqDiff,Nat.reduceAdd,fZ,Nat.reduceLeDiff,Nat.reduceLT,Nat.reduceSub]
  exact aL rfl
 ·simp only[sE,oC,vW,e0,e1,e2,h0,h1,h2,if_false,VX,Nat.reduceEqDiff,Nat.reduceAdd,fZ,Nat.reduceLeDiff,Nat.reduceLT,Nat.reduceSub]
  exact aL rfl
end Go.PM
namespace Go.PM
theorem UN {b d:Nat} {H:aA}:∀ {iV:List VV},(∀c∈iV,HK b H c)→iV.mapM (PM.fz (d+2) H)=some ((aLr iV.length [kU]).map gM)
 | [],_=>rfl
 |
  c::iV,h=>by
  rw[aLY,(h c List.mem_cons_self).fz,UN fun c hc=>h c (List.mem_cons_of_mem _ hc)]
  rfl
theorem xI.ZB {b:Nat} {H:aA} {bare:Bool} {xs:List (List ByteArray)} (h:xI H bare xs b):PM.fz depth H (.ref b 0 xs.length (room xs.length) (room xs.length))=some (lQ (aLr (room xs.length) [kU])):=by
 obtain⟨cells,iV,h1,h2,h3,h4,h5⟩:=h
 show PM.fz (7+1) H _=_
 unfold PM.fz
 have:bA (.ref b 0 xs.length (room xs.length) (room xs.length))=false:=rfl
 simp only[this,h1,aLd,if_false]
 rw[if_pos ⟨by simp;omega,aKB _⟩,List.drop_left' h2,aLu (by omega),UN (d:=5) h5,h3]
 rfl
theorem xI.get {b i:Nat} {H:aA} {xs:List (List ByteArray)} {x:List ByteArray} (h:xI H false xs b) (hx:xs[i]? = some x) :
  ∃b',bH false 1 (.ptr b 0 i 0) H=some (.ref b' 0 0 x.length (x.length+room x.length))∧aG H b' 0=some ((mB kU x).map sV,1,true):=by
 obtain⟨cells,iV,h1,h2,h3,h4,h5⟩:=h
 obtain⟨c,k1,k2⟩:=h4 i x hx
 rcases k2 with⟨k,_⟩ | ⟨b',_,rfl,k3⟩
 ·cases k
 ·refine⟨b',?_,k3⟩
  rw[bJ,h1]
  simp only[aKS (aKA.1 k1).1,k1]
  rfl
theorem Fg {lo b b':Nat} {H:aA} (xs:List (List ByteArray)) (hn:xs.length≤400000000) (hx:∀x∈xs,x.length≤400000000) (hX:xI H false xs b) (hY:xI H false xs b') {K:VV→aA→Prop} (hk:K (.sc (.bool true)) H) :
  dI 20 [.ref b 0 0 xs.length (xs.length+room xs.length),.ref b' 0 0 xs.length (xs.length+room xs.length)] lo H K:=by
 refine gC rfl (jH.walk ⟨true,false⟩ Fc (aMp rfl) ?_)
 have hr:=room_le xs.length
 have w1:IntKind.i64.wrap ((xs.length:Int)+(room xs.length:Int))=((xs.length+room xs.length:Nat):Int):=wrapN _ (by omega) (by omega)
 have gX:=fun i x h=>hX.get (i:=i) (x:=x) h
 have gY:=fun i x h=>hY.get (i:=i) (x:=x) h
 have fX:=hX.ZB
 have fY:=hY.ZB
 obtain⟨cX,eX,rX,_⟩:=hX
 obtain⟨cY,eY,rY,_⟩:=hY
 have l1:=eK (o:=0) (n:=xs.length) (c:=xs.length+room xs.length) rX
 have l2:=eK (o:=0) (n:=xs.length) (c:=xs.length+room xs.length) rY
 have e1:=O0 (o:=0) (n:=xs.length) (c:=xs.length+room xs.length) (l:=xs.length) (h:=xs.length+room xs.length) (k1 := .i64) (k2 := .i64) rX (aMt _ _) (aKB _)
 have e2:=O0 (o:=0) (n:=xs.length) (c:=xs.length+room xs.length) (l:=xs.length) (h:=xs.length+room xs.length) (k1 := .i64) (k2 := .i64) rY (aMt _ _) (aKB _)
 rw[aMs,aL9] at e1 e2
 have e3:=(JA (aLr (room xs.length) [kU]) (aLr (room xs.length) [kU]) (by simp;omega) (fun x hx=>by rw[aLM hx];decide)).flat (H:=H) rfl (by simp[aO,AW]) (fz2 fX fY) rfl
 simp only[Ax,xH,kI,l1,l2,w1,eq_self,VX,Nat.reduceEqDiff,Nat.reduceAdd]
 refine aP (fun(i:Nat) ρ H1=>i≤xs.length∧H1=H∧ρ 0 = .ref b 0 0 xs.length (xs.length+room xs.length)∧ρ 1 = .ref b' 0 0 xs.length (xs.length+room xs.length)∧ρ 5=VI (xs.length+room xs.length:Nat)∧ρ 6=VI i) (fun i=>xs.length-i) 0 ⟨aK5 _,rfl,rfl,rfl,rfl,rfl⟩ ?_
 rintro i ρ H1 ⟨hi,rfl,h0,h1,h5,h6⟩
 by_cases bZ:(i:Int)<(xs.length:Int)
 ·obtain⟨x,Kg⟩:∃x,xs[i]? = some x:=⟨_,aKI (by omega)⟩
  obtain⟨bx,vx,ux⟩:=gX i x Kg
  obtain⟨bY,vy,uy⟩:=gY i x Kg
  have a1:=bB (o:=0) (n:=xs.length) (c:=xs.length+room xs.length) (i:=i) (k := .i64) rX (by omega)
  have a2:=bB (o:=0) (n:=xs.length) (c:=xs.length+room xs.length) (i:=i) (k := .i64) rY (by omega)
  have wi:IntKind.i64.wrap ((i:Int)+1)=((i+1:Nat):Int):=wrapN (i+1) (by omega) (by omega)
  simp only[pD,h0,h1,h6,bZ,l2,a1,a2,vx,vy,aL9,VX,Nat.reduceEqDiff,Nat.reduceAdd]
  refine rN x (hx x (aLv Kg)) ux uy ?_
  simp only[h6,wi,VX,Nat.reduceEqDiff,Nat.reduceAdd]
  exact⟨i+1,by omega,by omega,by (repeat' apply And.intro)<;>first | rfl | trivial | assumption⟩
 ·have mC:i=xs.length:=by omega
  subst mC
  simp only[pD,h0,h1,h5,h6,bZ,l2,e1,e2,e3,VX,Nat.reduceEqDiff,Nat.reduceAdd]
  exact hk
theorem tP.ref {n:Nat} {H:aA} {x:List ByteArray} {c:VV} (h:tP n H false x c):∃b,c = .ref b 0 0 x.length (x.length+room x.length)∧aG H b 0=some ((mB kU x).map sV,1,true):=by
 rcases h with⟨k,_⟩ | ⟨b',_,rfl,k3⟩
 ·cases k
 ·exact⟨b',rfl,k3⟩
theorem vS.ref {n:Nat} {H:aA} {x:List (List ByteArray)} {c:VV} (h:vS n H false x c):∃b,c = .ref b 0 0 x.length (x.length+room x.length)∧xI H false x b:=by
 rcases h with⟨k,_⟩ | ⟨b',_,rfl,k3⟩
 ·cases k
 ·exact⟨b',rfl,k3⟩
theorem Fx {lo n n':Nat} {H:aA} {c c':VV} (s:vJ) (hb:s.b.length≤400000000) (hg:s.g.length≤400000000∧∀x∈s.g,x.length≤400000000) (he:s.e.length≤400000000) (hX:vK n H false s c) (hY:vK n' H false s c') {K:VV→aA→Prop} (hk:K (.sc (.bool true)) H) :
  dI 48 [c,c'] lo H K:=by
 refine gC rfl (jH.walk ⟨true,false⟩ FM (aMp rfl) ?_)
 obtain⟨x0,x1,x2,rfl,RY,hx1,hx2⟩:=hX
 obtain⟨y0,y1,y2,rfl,hy0,hy1,hy2⟩:=hY
 obtain⟨b0,rfl,r0⟩:=RY.ref
 obtain⟨b1,rfl,r1⟩:=hx1.ref
 obtain⟨b2,rfl,r2⟩:=hx2.ref
 obtain⟨d0,rfl,q0⟩:=hy0.ref
 obtain⟨d1,rfl,q1⟩:=hy1.ref
 obtain⟨d2,rfl,q2⟩:=hy2.ref
 simp only[BT,zH,VX,Nat.reduceEqDiff,Nat.reduceAdd,fZ,Nat.reduceLeDiff,Nat.reduceLT,Nat.reduceSub,Cd,NO,SC,awB,aMn,List.cons_append,List.nil_append,aKM,aKL,aMe,aL9,Nat.reduceAdd]
 refine rN s.b hb r0 q0 ?_
 simp only[VX,Nat.reduceEqDiff,Nat.reduceAdd,fZ,Nat.reduceLeDiff,Nat.reduceLT,Nat.reduceSub]
 refine Fg s.g hg.1 hg.2 r1 q1 ?_
 simp only[VX,Nat.reduceEqDiff,Nat.reduceAdd,fZ,Nat.reduceLeDiff,Nat.reduceLT,Nat.reduceSub]
 refine rN s.e he r2 q2 ?_
 simp only[VX,Nat.reduceEqDiff,Nat.reduceAdd,fZ,Nat.reduceLeDiff,Nat.reduceLT,Nat.reduceSub]
 exact hk
end Go.PM
namespace Go.PM
def Fj:aE:=(LS [LO 0 (.new [(.bool false),(.slice none 0 0),(.slice none 0 0)])] (LS [LO 1 (.call 130 [(LI 0)]),LN (.store 3 (LT 0) (LT 1))] .ret))
def JS:aU:=⟨2,[(.cell 0 true 3)],Fj⟩
theorem Pd:fT 77=some JS:=by kernel_rfl
def yZ:aE:=(LS [LO 2 (.box (LT 0)),LO 3 (.box (LT 1)),LO 4 (.new [(.bool false),(.slice none 0 0),(.slice none 0 0)])] (LS [LO 8 (LA 1 2),LO 9 (LL 8),LO 10 (LA 2 3),LO 11 (LL 10),LO 12 (.call 152 [(LT 9),(LT 11)]),LM 5 12] (LS [LO 13 (LA 1 3),LO 14 (LL 13),LO 15 (LA 2 2),LO 16 (LL 15),LO 17 (.call 152 [(LT 14),(LT 16)]),LM 6 17] (LS [LO 18 (LA 2 2),LO 19 (LL 18),LO 20 (LA 2 3),LO 21 (LL 20),LO 22 (.call 152 [(LT 19),(LT 21)]),LM 7 22] (.seq (LS [LO 23 (LA 0 2),LO 24 (LL 23),LO 25 (LA 0 3),LO 26 (LL 25),LO 27 (.eqb false (LT 24) (LT 26))] (.cond (LT 27) (LS [LO 28 (LA 0 2),LO 29 (LL 28),LM 30 5,LM 31 6,LQ 32 (.call 154 [(LT 30),(LT 31)]),LM 33 7,LQ 34 (.call 153 [(LT 29),(LT 32),(LT 33)]),LN (.store 3 (LT 4) (LT 34))] .ret) .skip)) (.seq (LS [LM 35 5,LM 36 6,LO 37 (.call 155 [(LT 35),(LT 36)]),LO 38 (.bin .geq (LT 37) (LI 0))] (.cond (LT 38) (LS [LO 39 (LA 0 2),LO 40 (LL 39),LM 41 5,LM 42 6,LQ 43 (.call 156 [(LT 41),(LT 42)]),LM 44 7,LQ 45 (.call 153 [(LT 40),(LT 43),(LT 44)]),LN (.store 3 (LT 4) (LT 45))] .ret) .skip)) (LS [LO 46 (LA 0 3),LO 47 (LL 46),LM 48 6,LM 49 5,LQ 50 (.call 156 [(LT 48),(LT 49)]),LM 51 7,LQ 52 (.call 153 [(LT 47),(LT 50),(LT 51)]),LN (.store 3 (LT 4) (LT 52))] .ret)))))))
def Ci:aU:=⟨53,[(.cell 4 true 3)],yZ⟩
theorem QM:fT 79=some Ci:=by kernel_rfl
def EM:aE:=(LS [LO 2 (.box (LT 0)),LO 3 (.box (LT 1)),LO 4 (.new [(.bool false),(.slice none 0 0),(.slice none 0 0)])] (LS [LO 5 (LA 0 2),LO 6 (LL 5),LO 7 (LA 0 3),LO 8 (LL 7),LO 9 (.eqb true (LT 6) (LT 8)),LO 10 (LA 1 2),LO 11 (LL 10),LO 12 (LA 1 3),LO 13 (LL 12),LQ 14 (.call 152 [(LT 11),(LT 13)]),LO 15 (LA 2 2),LO 16 (LL 15),LO 17 (LA 2 3),LO 18 (LL 17),LQ 19 (.call 152 [(LT 16),(LT 18)]),LQ 20 (.call 153 [(LT 9),(LT 14),(LT 19)]),LN (.store 3 (LT 4) (LT 20))] .ret))
def HC:aU:=⟨21,[(.cell 4 true 3)],EM⟩
theorem M6:fT 125=some HC:=by kernel_rfl
def CO:aE:=(LS [LO 2 (.new [(.bool false),(.slice none 0 0),(.slice none 0 0)])] (.seq (LS [LM 3 0,LO 4 (.bin .lss (LT 3) (LI 0))] (.cond (LT 4) (LS [LM 5 0,LO 6 (.un .neg (LT 5)),LO 7 (.call 178 [(LT 6)]),LO 8 (.lit [(.int .i64 0)] 1 [(0,(LI 1))]),LO 9 (.build [(.bool false),(.slice none 0 0),(.slice none 0 0)] [(0,1),(1,1),(2,1)] [(0,LG),(1,(LT 7)),(2,(LT 8))]),LN (.store 3 (LT 2) (LT 9))] .ret) .skip)) (LS [LM 10 0,LO 11 (.call 178 [(LT 10)]),LO 12 (.lit [(.int .i64 0)] 1 [(0,(LI 1))]),LO 13 (.build [(.bool false),(.slice none 0 0),(.slice none 0 0)] [(0,1),(1,1),(2,1)] [(1,(LT 11)),(2,(LT 12))]),LN (.store 3 (LT 2) (LT 13))] .ret)))
def F9:aU:=⟨14,[(.cell 2 true 3)],CO⟩
theorem Qp:fT 130=some F9:=by kernel_rfl
def Fz:aE:=(LS [LO 2 (.box (LT 0)),LO 3 (.box (LT 1)),LO 4 (.new [(.bool false),(.slice none 0 0),(.slice none 0 0)])] (LS [LO 5 (LA 0 2),LO 6 (LL 5),LO 7 (LA 0 3),LO 8 (LL 7),LO 9 (.eqb true (LT 6) (LT 8)),LO 10 (LA 1 2),LO 11 (LL 10),LO 12 (LA 2 3),LO 13 (LL 12),LQ 14 (.call 152 [(LT 11),(LT 13)]),LO 15 (LA 2 2),LO 16 (LL 15),LO 17 (LA 1 3),LO 18 (LL 17),LQ 19 (.call 152 [(LT 16),(LT 18)]),LQ 20 (.call 153 [(LT 9),(LT 14),(LT 19)]),LN (.store 3 (LT 4) (LT 20))] .ret))
def Jv:aU:=⟨21,[(.cell 4 true 3)],Fz⟩
theorem P3:fT 81=some Jv:=by kernel_rfl
def EV:aE:=(LS [LO 2 (.box (LT 0)),LO 3 (.box (LT 1)),LO 4 (.new [(.bool false),(.slice none 0 0),(.slice none 0 0)])] (LS [LO 5 (LK 2),LO 6 (LK 3),LQ 7 (.call 157 [(LT 6)]),LQ 8 (.call 79 [(LT 5),(LT 7)]),LN (.store 3 (LT 4) (LT 8))] .ret))
def Ia:aU:=⟨9,[(.cell 4 true 3)],EV⟩
theorem M5:fT 82=some Ia:=by kernel_rfl
def BP:aE:=(LS [LO 1 (.box (LT 0)),LO 2 (.mv LF)] (LS [LO 3 (LA 1 1),LO 4 (LL 3),LO 5 (.len (LT 4)),LO 6 (.bin .eql (LT 5) (LI 0)),LM 2 6] .ret))
def D5:aU:=⟨7,[(.tmp 2)],BP⟩
theorem Po:fT 59=some D5:=by kernel_rfl
def uK:aE:=(LS [LO 2 (.box (LT 0)),LO 3 (.box (LT 1)),LO 4 (.mv LF)] (LS [LO 5 (LA 0 2),LO 6 (LL 5),LO 7 (LA 0 3),LO 8 (LL 7),LO 9 (.eqb false (LT 6) (LT 8)),LM 10 9,LY 10 11 (LA 1 2),LY 10 12 (LL 11),LY 10 13 (LA 2 3),LY 10 14 (LL 13),⟨(some 15),(.call 152 [(LT 12),(LT 14)]),(some (10,true)),true,[]⟩,LY 10 16 (LA 1 3),LY 10 17 (LL 16),LY 10 18 (LA 2 2),LY 10 19 (LL 18),⟨(some 20),(.call 152 [(LT 17),(LT 19)]),(some (10,true)),true,[]⟩,⟨(some 21),(.call 155 [(LT 15),(LT 20)]),(some (10,true)),true,[]⟩,LY 10 22 (.bin .eql (LT 21) (LI 0)),LO 23 (.pick (LT 10) (LT 22) LF),LM 4 23] .ret))
def yY:aU:=⟨24,[(.tmp 4)],uK⟩
theorem Ns:fT 160=some yY:=by kernel_rfl
def uA:aE:=(LS [LO 15 (.bin .lss (LT 14) (LT 13))] (.seq (.cond (LT 15) .skip (.exit 0)) (.seq (.block 1 (LS [LM 16 14,LM 5 16] (LS [LM 18 0,LM 19 5,LO 20 (.iaddr 1 (LT 18) (LT 19)),LO 21 (LL 20),LO 22 (.call 110 [(LT 21)]),LM 17 22,LO 23 (LX 17 0),LO 24 (LX 17 1),LO 6 (.new [(.bool false),(.slice none 0 0),(.slice none 0 0)]),LN (.store 3 (LT 6) (LT 23)),LM 7 24] (.seq (LS [LM 25 7,LO 26 (.un .not (LT 25))] (.cond (LT 26) (LS [LO 2 (.mv (.const (.slice none 0 0))),LO 3 (.mv LF)] .ret) .skip)) (.cU [LM 27 4,LO 28 (LK 6),LO 29 (.lit [(.bool false),(.slice none 0 0),(.slice none 0 0)] 1 [(0,(LT 28))]),LO 30 (.app 3 56 (LT 27) (LT 29)),LM 4 30]))))) (.cU [LO 31 (.bin .add (LT 14) (LI 1)),LM 14 31]))))
def A2:aE:=(LS [LO 2 (.mv (.const (.slice none 0 0))),LO 3 (.mv LF)] (.seq (LS [LM 8 0,LO 9 (.len (LT 8)),LO 10 (.bin .gtr (LT 9) (LI 300))] (.cond (LT 10) (LS [LO 2 (.mv (.const (.slice none 0 0))),LO 3 (.mv LF)] .ret) .skip)) (LS [LO 11 (.lit [(.bool false),(.slice none 0 0),(.slice none 0 0)] 0 []),LM 4 11] (.seq (LS [LM 12 0,LO 13 (.len (LT 12)),LO 14 (.mv (LI 0))] (.block 0 (.loop uA))) (LS [LM 32 4,LM 2 32,LO 3 (.mv LG)] .ret)))))
def Ef:aU:=⟨33,[(.tmp 2),(.tmp 3)],A2⟩
theorem OA:fT 57=some Ef:=by kernel_rfl
def xD:aE:=(LS [LO 2 (.mv LF)] (LS [LM 3 0,LO 4 (.call 58 [(LT 3)]),LM 5 4,LY 5 6 (.mv (LT 0)),LY 5 7 (.call 60 [(LT 6)]),LY 5 8 (.call 83 []),LY 5 9 (.call 160 [(LT 7),(LT 8)]),LO 10 (.pick (LT 5) (LT 9) LF),LM 2 10] .ret))
def Ah:aU:=⟨11,[(.tmp 2)],xD⟩
theorem JZ:fT 96=some Ah:=by kernel_rfl
def A9:aE:=(LS [LO 1 (.box (LT 0)),LO 2 (.mv (.const (.string ⟨#[]⟩))),LO 3 (.mv LF)] (.seq (LS [LO 4 (LK 1),LO 5 (.call 188 [(LT 4)]),LO 6 (.un .not (LT 5))] (.cond (LT 6) (LS [LO 2 (.mv (.const (.string ⟨#[]⟩))),LO 3 (.mv LF)] .ret) .skip)) (LS [LO 7 (LK 1),LO 8 (.call 189 [(LT 7)]),LM 2 8,LO 3 (.mv LG)] .ret)))
def D8:aU:=⟨9,[(.tmp 2),(.tmp 3)],A9⟩
theorem Pb:fT 171=some D8:=by kernel_rfl
def HG:aE:=(LS [LO 0 (.new [(.bool false),(.slice none 0 0),(.slice none 0 0)])] (LS [LO 1 (.call 130 [(LI 1)]),LN (.store 3 (LT 0) (LT 1))] .ret))
def Ml:aU:=⟨2,[(.cell 0 true 3)],HG⟩
theorem Qz:fT 83=some Ml:=by kernel_rfl
def nL:aE:=(LS [LO 7 (.bin .lss (LT 6) (LT 5))] (.seq (.cond (LT 7) .skip (.exit 0)) (.seq (.block 1 (LS [LM 8 6,LM 3 8] (LS [LM 9 0,LM 10 3,LO 11 (.iaddr 3 (LT 9) (LT 10)),LO 12 (LA 0 11),LO 13 (LL 12)] (.cond (LT 13) (LS [LO 2 (.mv LF)] .ret) .skip)))) (.cU [LO 14 (.bin .add (LT 6) (LI 1)),LM 6 14]))))
def BH:aE:=(LS [LO 2 (.mv LF)] (.seq (LS [LM 4 0,LO 5 (.len (LT 4)),LO 6 (.mv (LI 0))] (.block 0 (.loop nL))) (LS [LO 2 (.mv LG)] .ret)))
def DB:aU:=⟨15,[(.tmp 2)],BH⟩
theorem Is:fT 58=some DB:=by kernel_rfl
def yL:aE:=(LS [LO 9 (.bin .lss (LT 8) (LT 7))] (.seq (.cond (LT 9) .skip (.exit 0)) (.seq (.block 1 (LS [LM 10 8,LM 4 10] (.cU [LO 11 (LK 3),LM 12 0,LM 13 4,LO 14 (.iaddr 3 (LT 12) (LT 13)),LO 15 (LK 14),LQ 16 (.call 79 [(LT 11),(LT 15)]),LN (.store 3 (LT 3) (LT 16))]))) (.cU [LO 17 (.bin .add (LT 8) (LI 1)),LM 8 17]))))
def E5:aE:=(LS [LO 2 (.new [(.bool false),(.slice none 0 0),(.slice none 0 0)])] (LS [LO 5 (.call 77 []),LO 3 (.new [(.bool false),(.slice none 0 0),(.slice none 0 0)]),LN (.store 3 (LT 3) (LT 5))] (.seq (LS [LM 6 0,LO 7 (.len (LT 6)),LO 8 (.mv (LI 0))] (.block 0 (.loop yL))) (LS [LO 18 (LK 3),LN (.store 3 (LT 2) (LT 18))] .ret))))
def HX:aU:=⟨19,[(.cell 2 true 3)],E5⟩
theorem MW:fT 60=some HX:=by kernel_rfl
def lM:aE:=(LS [LO 6 (.new [(.bool false),(.slice none 0 0),(.slice none 0 0)])] (LS [LM 8 1,LM 9 2,LO 10 (.call 170 [(LT 8),(LT 9)]),LM 7 10] (.seq (LS [LM 11 7,LO 12 (.lit [(.int .i64 0)] 1 [(0,(LI 1))]),LO 13 (.call 155 [(LT 11),(LT 12)]),LO 14 (.bin .neq (LT 13) (LI 0))] (.cond (LT 14) (LS [LM 16 1,LM 17 7,LO 18 (.call 185 [(LT 16),(LT 17)]),LM 15 18,LO 19 (LX 15 0),LO 20 (LX 15 1),LM 1 19] (.cU [LM 22 2,LM 23 7,LO 24 (.call 185 [(LT 22),(LT 23)]),LM 21 24,LO 25 (LX 21 0),LO 26 (LX 21 1),LM 2 25])) .skip)) (LS [LM 27 0,LM 28 27,LY 28 29 (.mv (LT 1)),LY 28 30 (.len (LT 29)),LY 28 31 (.bin .gtr (LT 30) (LI 0)),LO 32 (.pick (LT 28) (LT 31) LF),LM 33 1,LM 34 2,LO 35 (.build [(.bool false),(.slice none 0 0),(.slice none 0 0)] [(0,1),(1,1),(2,1)] [(0,(LT 32)),(1,(LT 33)),(2,(LT 34))]),LN (.store 3 (LT 6) (LT 35))] .ret))))
def pI:aU:=⟨36,[(.cell 6 true 3)],lM⟩
theorem Pa:fT 153=some pI:=by kernel_rfl
def rQ:aE:=(.seq (LS [LM 19 5,LO 20 (.bin .geq (LT 19) (LI 0))] (.cond (LT 20) .skip (.exit 0))) (.seq (.block 1 (LS [LM 23 0,LM 24 5,LO 25 (.iaddr 1 (LT 23) (LT 24)),LO 26 (LL 25),LM 27 1,LM 28 5,LO 29 (.iaddr 1 (LT 27) (LT 28)),LO 30 (LL 29),LO 31 (.bin .neq (LT 26) (LT 30))] (.cond (LT 31) (.seq (LS [LM 32 0,LM 33 5,LO 34 (.iaddr 1 (LT 32) (LT 33)),LO 35 (LL 34),LM 36 1,LM 37 5,LO 38 (.iaddr 1 (LT 36) (LT 37)),LO 39 (LL 38),LO 40 (.bin .lss (LT 35) (LT 39))] (.cond (LT 40) (LS [LO 4 (.mv (LI (-1)))] .ret) .skip)) (LS [LO 4 (.mv (LI 1))] .ret)) .skip))) (.cU [LM 21 5,LO 22 (.bin .sub (LT 21) (LI 1)),LM 5 22])))
def zC:aE:=(LS [LO 4 (.mv (LI 0))] (.seq (LS [LM 6 0,LO 7 (.len (LT 6)),LM 8 1,LO 9 (.len (LT 8)),LO 10 (.bin .neq (LT 7) (LT 9))] (.cond (LT 10) (.seq (LS [LM 11 0,LO 12 (.len (LT 11)),LM 13 1,LO 14 (.len (LT 13)),LO 15 (.bin .lss (LT 12) (LT 14))] (.cond (LT 15) (LS [LO 4 (.mv (LI (-1)))] .ret) .skip)) (LS [LO 4 (.mv (LI 1))] .ret)) .skip)) (.seq (LS [LM 16 0,LO 17 (.len (LT 16)),LO 18 (.bin .sub (LT 17) (LI 1)),LM 5 18] (.block 0 (.loop rQ))) (LS [LO 4 (.mv (LI 0))] .ret))))
def Ce:aU:=⟨41,[(.tmp 4)],zC⟩
theorem QP:fT 155=some Ce:=by kernel_rfl
def wQ:aE:=(LS [LO 24 (.bin .lss (LT 23) (LT 22))] (.seq (.cond (LT 24) .skip (.exit 2)) (.seq (.block 3 (LS [LM 25 23,LM 8 25] (LS [LM 26 5,LM 27 6,LM 28 8,LO 29 (.bin .add (LT 27) (LT 28)),LO 30 (.iaddr 1 (LT 26) (LT 29)),LO 31 (LL 30),LM 32 0,LM 33 6,LO 34 (.iaddr 1 (LT 32) (LT 33)),LO 35 (LL 34),LM 36 1,LM 37 8,LO 38 (.iaddr 1 (LT 36) (LT 37)),LO 39 (LL 38),LO 40 (.bin .mul (LT 35) (LT 39)),LO 41 (.bin .add (LT 31) (LT 40)),LM 42 7,LO 43 (.bin .add (LT 41) (LT 42)),LM 9 43] (LS [LM 44 5,LM 45 6,LM 46 8,LO 47 (.bin .add (LT 45) (LT 46)),LM 48 9,LO 49 (.bin .rem (LT 48) (LI 1000000000)),LO 50 (.iaddr 1 (LT 44) (LT 47)),LN (.store 1 (LT 50) (LT 49))] (.cU [LM 51 9,LO 52 (.bin .quo (LT 51) (LI 1000000000)),LM 7 52]))))) (.cU [LO 53 (.bin .add (LT 23) (LI 1)),LM 23 53]))))
def vO:aE:=(LS [LO 19 (.bin .lss (LT 18) (LT 17))] (.seq (.cond (LT 19) .skip (.exit 0)) (.seq (.block 1 (LS [LM 20 18,LM 6 20] (LS [LO 7 (.mv (LI 0))] (.seq (LS [LM 21 1,LO 22 (.len (LT 21)),LO 23 (.mv (LI 0))] (.block 2 (.loop wQ))) (.cU [LM 54 5,LM 55 6,LM 56 1,LO 57 (.len (LT 56)),LO 58 (.bin .add (LT 55) (LT 57)),LO 59 (.iaddr 1 (LT 54) (LT 58)),LO 60 (LL 59),LM 61 7,LO 62 (.bin .add (LT 60) (LT 61)),LO 63 (.iaddr 1 (LT 54) (LT 58)),LN (.store 1 (LT 63) (LT 62))]))))) (.cU [LO 64 (.bin .add (LT 18) (LI 1)),LM 18 64]))))
def DI:aE:=(LS [LO 4 (.mv (.const (.slice none 0 0)))] (LS [LM 10 0,LO 11 (.len (LT 10)),LM 12 1,LO 13 (.len (LT 12)),LO 14 (.bin .add (LT 11) (LT 13)),LO 15 (.make [(.int .i64 0)] 8 (LT 14) (LT 14)),LM 5 15] (.seq (LS [LM 16 0,LO 17 (.len (LT 16)),LO 18 (.mv (LI 0))] (.block 0 (.loop vO))) (LS [LM 65 5,LO 66 (.call 184 [(LT 65)]),LM 4 66] .ret))))
def Fv:aU:=⟨67,[(.tmp 4)],DI⟩
theorem Kv:fT 152=some Fv:=by kernel_rfl
def mV:aE:=(.seq (LS [LM 10 7,LM 11 0,LO 12 (.len (LT 11)),LO 13 (.bin .lss (LT 10) (LT 12)),LM 14 13,LZ 14 15 (.mv (LT 7)),LZ 14 16 (.mv (LT 1)),LZ 14 17 (.len (LT 16)),LZ 14 18 (.bin .lss (LT 15) (LT 17)),LO 19 (.pick (LT 14) LG (LT 18)),LM 20 19,LZ 20 21 (.mv (LT 6)),LZ 20 22 (.bin .gtr (LT 21) (LI 0)),LO 23 (.pick (LT 20) LG (LT 22))] (.cond (LT 23) .skip (.exit 0))) (.seq (.block 1 (LS [LM 26 0,LM 27 7,LO 28 (.call 186 [(LT 26),(LT 27)]),LM 29 1,LM 30 7,LO 31 (.call 186 [(LT 29),(LT 30)]),LO 32 (.bin .add (LT 28) (LT 31)),LM 33 6,LO 34 (.bin .add (LT 32) (LT 33)),LM 8 34] (LS [LM 35 5,LM 36 8,LO 37 (.bin .rem (LT 36) (LI 1000000000)),LO 38 (.lit [(.int .i64 0)] 1 [(0,(LT 37))]),LO 39 (.app 1 8 (LT 35) (LT 38)),LM 5 39] (.cU [LM 40 8,LO 41 (.bin .quo (LT 40) (LI 1000000000)),LM 6 41])))) (.cU [LM 24 7,LO 25 (.bin .add (LT 24) (LI 1)),LM 7 25])))
def Dw:aE:=(LS [LO 4 (.mv (.const (.slice none 0 0)))] (LS [LO 9 (.lit [(.int .i64 0)] 0 []),LM 5 9] (LS [LO 6 (.mv (LI 0))] (.seq (LS [LO 7 (.mv (LI 0))] (.block 0 (.loop mV))) (LS [LM 42 5,LM 4 42] .ret)))))
def F5:aU:=⟨43,[(.tmp 4)],Dw⟩
theorem Lc:fT 154=some F5:=by kernel_rfl
def oY:aE:=(LS [LO 13 (.bin .lss (LT 12) (LT 11))] (.seq (.cond (LT 13) .skip (.exit 0)) (.seq (.block 1 (LS [LM 14 12,LM 7 14] (LS [LM 15 0,LM 16 7,LO 17 (.iaddr 1 (LT 15) (LT 16)),LO 18 (LL 17),LM 19 1,LM 20 7,LQ 21 (.call 186 [(LT 19),(LT 20)]),LO 22 (.bin .sub (LT 18) (LT 21)),LM 23 6,LO 24 (.bin .sub (LT 22) (LT 23)),LM 8 24] (LS [LO 6 (.mv (LI 0))] (.seq (LS [LM 25 8,LO 26 (.bin .lss (LT 25) (LI 0))] (.cond (LT 26) (LS [LM 27 8,LO 28 (.bin .add (LT 27) (LI 1000000000)),LM 8 28] (.cU [LO 6 (.mv (LI 1))])) .skip)) (.cU [LM 29 5,LM 30 8,LO 31 (.lit [(.int .i64 0)] 1 [(0,(LT 30))]),LO 32 (.app 1 8 (LT 29) (LT 31)),LM 5 32])))))) (.cU [LO 33 (.bin .add (LT 12) (LI 1)),LM 12 33]))))
def Cm:aE:=(LS [LO 4 (.mv (.const (.slice none 0 0)))] (LS [LO 9 (.lit [(.int .i64 0)] 0 []),LM 5 9] (LS [LO 6 (.mv (LI 0))] (.seq (LS [LM 10 0,LO 11 (.len (LT 10)),LO 12 (.mv (LI 0))] (.block 0 (.loop oY))) (LS [LM 34 5,LO 35 (.call 184 [(LT 34)]),LM 4 35] .ret)))))
def E1:aU:=⟨36,[(.tmp 4)],Cm⟩
theorem Ke:fT 156=some E1:=by kernel_rfl
def Bl:aE:=(.seq (LS [LM 5 0,LO 6 (.bin .gtr (LT 5) (LI 0))] (.cond (LT 6) .skip (.exit 0))) (.block 1 (LS [LM 7 3,LM 8 0,LO 9 (.bin .rem (LT 8) (LI 1000000000)),LO 10 (.lit [(.int .i64 0)] 1 [(0,(LT 9))]),LO 11 (.app 1 8 (LT 7) (LT 10)),LM 3 11] (.cU [LM 12 0,LO 13 (.bin .quo (LT 12) (LI 1000000000)),LM 0 13]))))
def HE:aE:=(LS [LO 2 (.mv (.const (.slice none 0 0)))] (LS [LO 4 (.lit [(.int .i64 0)] 0 []),LM 3 4] (.seq (.block 0 (.loop Bl)) (LS [LM 14 3,LM 2 14] .ret))))
def ML:aU:=⟨15,[(.tmp 2)],HE⟩
theorem Qo:fT 178=some ML:=by kernel_rfl
def oQ:aE:=(LS [LO 1 (.box (LT 0)),LO 2 (.new [(.bool false),(.slice none 0 0),(.slice none 0 0)])] (LS [LO 3 (LA 0 1),LO 4 (LL 3),LO 5 (.un .not (LT 4)),LM 6 5,LY 6 7 (LA 1 1),LY 6 8 (LL 7),LY 6 9 (.len (LT 8)),LY 6 10 (.bin .gtr (LT 9) (LI 0)),LO 11 (.pick (LT 6) (LT 10) LF),LO 12 (LA 1 1),LO 13 (LL 12),LO 14 (LA 2 1),LO 15 (LL 14),LO 16 (.build [(.bool false),(.slice none 0 0),(.slice none 0 0)] [(0,1),(1,1),(2,1)] [(0,(LT 11)),(1,(LT 13)),(2,(LT 15))]),LN (.store 3 (LT 2) (LT 16))] .ret))
def sY:aU:=⟨17,[(.cell 2 true 3)],oQ⟩
theorem Ie:fT 157=some sY:=by kernel_rfl
def bM:aE:=(LS [LO 2 (.new [(.bool false),(.slice none 0 0),(.slice none 0 0)]),LO 3 (.mv LF)] (LS [LM 8 0,LO 9 (.slen (LT 8)),LO 10 (.bin .gtr (LT 9) (LI 0)),LM 11 10,LY 11 12 (.mv (LT 0)),LY 11 13 (.sidx (LT 12) (LI 0)),LY 11 14 (.bin .eql (LT 13) (.const (.int .u8 45))),LO 15 (.pick (LT 11) (LT 14) LF),LM 4 15] (.seq (LS [LM 16 4] (.cond (LT 16) (.cU [LM 17 0,LO 18 (.ssub (LT 17) (some (LI 1)) none),LM 0 18]) .skip)) (LS [LM 19 0,LO 20 (.call 167 [(LT 19),(.const (.int .u8 47))]),LM 5 20] (.seq (LS [LM 21 5,LO 22 (.len (LT 21)),LO 23 (.bin .gtr (LT 22) (LI 2)),LM 24 23,LZ 24 25 (.mv (LT 5)),LZ 24 26 (.iaddr 1 (LT 25) (LI 0)),LZ 24 27 (LL 26),LZ 24 28 (.call 168 [(LT 27)]),LZ 24 29 (.un .not (LT 28)),LO 30 (.pick (LT 24) LG (LT 29))] (.cond (LT 30) (LS [LO 31 (.build [(.bool false),(.slice none 0 0),(.slice none 0 0)] [(0,1),(1,1),(2,1)] []),LN (.store 3 (LT 2) (LT 31)),LO 3 (.mv LF)] .ret) .skip)) (LS [LM 32 5,LO 33 (.iaddr 1 (LT 32) (LI 0)),LO 34 (LL 33),LO 35 (.call 169 [(LT 34)]),LM 6 35] (.seq (LS [LM 36 4,LM 37 36,LY 37 38 (.mv (LT 6)),LY 37 39 (.len (LT 38)),LY 37 40 (.bin .eql (LT 39) (LI 0)),LO 41 (.pick (LT 37) (LT 40) LF)] (.cond (LT 41) (LS [LO 42 (.build [(.bool false),(.slice none 0 0),(.slice none 0 0)] [(0,1),(1,1),(2,1)] []),LN (.store 3 (LT 2) (LT 42)),LO 3 (.mv LF)] .ret) .skip)) (.seq (LS [LM 43 5,LO 44 (.len (LT 43)),LO 45 (.bin .eql (LT 44) (LI 1))] (.cond (LT 45) (LS [LM 46 4,LM 47 6,LO 48 (.lit [(.int .i64 0)] 1 [(0,(LI 1))]),LO 49 (.build [(.bool false),(.slice none 0 0),(.slice none 0 0)] [(0,1),(1,1),(2,1)] [(0,(LT 46)),(1,(LT 47)),(2,(LT 48))]),LN (.store 3 (LT 2) (LT 49)),LO 3 (.mv LG)] .ret) .skip)) (.seq (LS [LM 50 5,LO 51 (.iaddr 1 (LT 50) (LI 1)),LO 52 (LL 51),LO 53 (.call 168 [(LT 52)]),LO 54 (.un .not (LT 53))] (.cond (LT 54) (LS [LO 55 (.build [(.bool false),(.slice none 0 0),(.slice none 0 0)] [(0,1),(1,1),(2,1)] []),LN (.store 3 (LT 2) (LT 55)),LO 3 (.mv LF)] .ret) .skip)) (LS [LM 56 5,LO 57 (.iaddr 1 (LT 56) (LI 1)),LO 58 (LL 57),LO 59 (.call 169 [(LT 58)]),LM 7 59] (.seq (LS [LM 60 7,LO 61 (.lit [(.int .i64 0)] 1 [(0,(LI 1))]),LO 62 (.call 155 [(LT 60),(LT 61)]),LO 63 (.bin .leq (LT 62) (LI 0)),LM 64 63,LZ 64 65 (.mv (LT 6)),LZ 64 66 (.mv (LT 7)),LZ 64 67 (.call 170 [(LT 65),(LT 66)]),LZ 64 68 (.lit [(.int .i64 0)] 1 [(0,(LI 1))]),LZ 64 69 (.call 155 [(LT 67),(LT 68)]),LZ 64 70 (.bin .neq (LT 69) (LI 0)),LO 71 (.pick (LT 64) LG (LT 70))] (.cond (LT 71) (LS [LO 72 (.build [(.bool false),(.slice none 0 0),(.slice none 0 0)] [(0,1),(1,1),(2,1)] []),LN (.store 3 (LT 2) (LT 72)),LO 3 (.mv LF)] .ret) .skip)) (LS [LM 73 4,LM 74 6,LM 75 7,LO 76 (.build [(.bool false),(.slice none 0 0),(.slice none 0 0)] [(0,1),(1,1),(2,1)] [(0,(LT 73)),(1,(LT 74)),(2,(LT 75))]),LN (.store 3 (LT 2) (LT 76)),LO 3 (.mv LG)] .ret))))))))))))
def cG:aU:=⟨77,[(.cell 2 true 3),(.tmp 3)],bM⟩
theorem MY:fT 110=some cG:=by kernel_rfl
def BN:aE:=(LS [LO 1 (.box (LT 0)),LO 2 (.mv LF)] (LS [LO 3 (LA 1 1),LO 4 (LL 3),LO 5 (.call 208 [(LT 4)]),LO 6 (.slen (LT 5)),LO 7 (.bin .leq (LT 6) (LI 200)),LM 8 7,LY 8 9 (LA 2 1),LY 8 10 (LL 9),LY 8 11 (.call 208 [(LT 10)]),LY 8 12 (.slen (LT 11)),LY 8 13 (.bin .leq (LT 12) (LI 200)),LO 14 (.pick (LT 8) (LT 13) LF),LM 2 14] .ret))
def DT:aU:=⟨15,[(.tmp 2)],BN⟩
theorem ON:fT 188=some DT:=by kernel_rfl
def A6:aE:=(LS [LO 1 (.box (LT 0)),LO 2 (.mv (.const (.string ⟨#[]⟩)))] (LS [LO 4 (LA 1 1),LO 5 (LL 4),LO 6 (.call 208 [(LT 5)]),LM 3 6] (.seq (LS [LO 7 (LA 0 1),LO 8 (LL 7)] (.cond (LT 8) (.cU [LM 9 3,LO 10 (.bin .add (.const (.string ⟨#[45]⟩)) (LT 9)),LM 3 10]) .skip)) (.seq (LS [LO 11 (LA 2 1),LO 12 (LL 11),LO 13 (.lit [(.int .i64 0)] 1 [(0,(LI 1))]),LO 14 (.call 155 [(LT 12),(LT 13)]),LO 15 (.bin .neq (LT 14) (LI 0))] (.cond (LT 15) (.cU [LM 16 3,LO 17 (LA 2 1),LO 18 (LL 17),LO 19 (.call 208 [(LT 18)]),LO 20 (.bin .add (.const (.string ⟨#[47]⟩)) (LT 19)),LO 21 (.bin .add (LT 16) (LT 20)),LM 3 21]) .skip)) (LS [LM 22 3,LM 2 22] .ret)))))
def D6:aU:=⟨23,[(.tmp 2)],A6⟩
theorem O6:fT 189=some D6:=by kernel_rfl
def Bb:aE:=(.seq (LS [LM 7 1,LO 8 (.len (LT 7)),LO 9 (.bin .gtr (LT 8) (LI 0))] (.cond (LT 9) .skip (.exit 0))) (.block 1 (LS [LM 11 0,LM 12 1,LO 13 (.call 185 [(LT 11),(LT 12)]),LM 10 13,LO 14 (LX 10 0),LO 15 (LX 10 1),LM 5 14,LM 6 15] (LS [LM 16 1,LM 0 16] (.cU [LM 17 6,LM 1 17])))))
def HO:aE:=(LS [LO 4 (.mv (.const (.slice none 0 0)))] (.seq (.block 0 (.loop Bb)) (LS [LM 18 0,LM 4 18] .ret)))
def MH:aU:=⟨19,[(.tmp 4)],HO⟩
theorem Qx:fT 170=some MH:=by kernel_rfl
def iH:aE:=(.seq (LS [LM 132 19,LO 133 (.bin .geq (LT 132) (LI 1000000000)),LM 134 133,LZ 134 135 (.mv (LT 19)),LZ 134 136 (.mv (LT 14)),LZ 134 137 (.mv (LT 15)),LZ 134 138 (.bin .sub (LT 137) (LI 2)),LZ 134 139 (.iaddr 1 (LT 136) (LT 138)),LZ 134 140 (LL 139),LZ 134 141 (.bin .mul (LT 135) (LT 140)),LZ 134 142 (.mv (LT 20)),LZ 134 143 (.bin .mul (LT 142) (LI 1000000000)),LZ 134 144 (.mv (LT 13)),LZ 134 145 (.mv (LT 17)),LZ 134 146 (.mv (LT 15)),LZ 134 147 (.bin .add (LT 145) (LT 146)),LZ 134 148 (.bin .sub (LT 147) (LI 2)),LZ 134 149 (.iaddr 1 (LT 144) (LT 148)),LZ 134 150 (LL 149),LZ 134 151 (.bin .add (LT 143) (LT 150)),LZ 134 152 (.bin .gtr (LT 141) (LT 151)),LO 153 (.pick (LT 134) LG (LT 152))] (.cond (LT 153) .skip (.exit 2))) (.block 3 (LS [LM 154 19,LO 155 (.bin .sub (LT 154) (LI 1)),LM 19 155] (LS [LM 156 20,LM 157 14,LM 158 15,LO 159 (.bin .sub (LT 158) (LI 1)),LO 160 (.iaddr 1 (LT 157) (LT 159)),LO 161 (LL 160),LO 162 (.bin .add (LT 156) (LT 161)),LM 20 162] (LS [LM 163 20,LO 164 (.bin .geq (LT 163) (LI 1000000000))] (.cond (LT 164) (.exit 2) .skip))))))
def kB:aE:=(.seq (LS [LM 99 17,LO 100 (.bin .geq (LT 99) (LI 0))] (.cond (LT 100) .skip (.exit 0))) (.seq (.block 1 (LS [LM 103 13,LM 104 17,LM 105 15,LO 106 (.bin .add (LT 104) (LT 105)),LO 107 (.iaddr 1 (LT 103) (LT 106)),LO 108 (LL 107),LO 109 (.bin .mul (LT 108) (LI 1000000000)),LM 110 13,LM 111 17,LM 112 15,LO 113 (.bin .add (LT 111) (LT 112)),LO 114 (.bin .sub (LT 113) (LI 1)),LO 115 (.iaddr 1 (LT 110) (LT 114)),LO 116 (LL 115),LO 117 (.bin .add (LT 109) (LT 116)),LM 18 117] (LS [LM 118 18,LM 119 14,LM 120 15,LO 121 (.bin .sub (LT 120) (LI 1)),LO 122 (.iaddr 1 (LT 119) (LT 121)),LO 123 (LL 122),LO 124 (.bin .quo (LT 118) (LT 123)),LM 125 18,LM 126 14,LM 127 15,LO 128 (.bin .sub (LT 127) (LI 1)),LO 129 (.iaddr 1 (LT 126) (LT 128)),LO 130 (LL 129),LO 131 (.bin .rem (LT 125) (LT 130)),LM 19 124,LM 20 131] (.seq (.block 2 (.loop iH)) (.seq (LS [LM 165 13,LM 166 14,LM 167 17,LM 168 19,LO 169 (.call 204 [(LT 165),(LT 166),(LT 167),(LT 168)])] (.cond (LT 169) (LS [LM 170 19,LO 171 (.bin .sub (LT 170) (LI 1)),LM 19 171] (.cU [LM 172 13,LM 173 14,LM 174 17,LO 175 (.call 205 [(LT 172),(LT 173),(LT 174)])])) .skip)) (.cU [LM 176 16,LM 177 17,LM 178 19,LO 179 (.iaddr 1 (LT 176) (LT 177)),LN (.store 1 (LT 179) (LT 178))])))))) (.cU [LM 101 17,LO 102 (.bin .sub (LT 101) (LI 1)),LM 17 102])))
def eH:aE:=(LS [LO 4 (.mv (.const (.slice none 0 0))),LO 5 (.mv (.const (.slice none 0 0)))] (LS [LM 24 0,LO 25 (.call 201 [(LT 24)]),LM 23 25,LO 26 (LX 23 0),LO 27 (LX 23 1),LM 6 26,LM 7 27] (LS [LM 29 1,LO 30 (.call 201 [(LT 29)]),LM 28 30,LO 31 (LX 28 0),LO 32 (LX 28 1),LM 8 31,LM 9 32] (.seq (LS [LM 33 7,LM 34 33,LY 34 35 (.mv (LT 9)),LO 36 (.pick (LT 34) (LT 35) LF)] (.cond (LT 36) (LS [LM 37 6,LM 38 8,LO 39 (.bin .quo (LT 37) (LT 38)),LQ 40 (.call 178 [(LT 39)]),LM 41 6,LM 42 8,LO 43 (.bin .rem (LT 41) (LT 42)),LQ 44 (.call 178 [(LT 43)]),LM 4 40,LM 5 44] .ret) .skip)) (.seq (LS [LM 45 0,LM 46 1,LO 47 (.call 155 [(LT 45),(LT 46)]),LO 48 (.bin .lss (LT 47) (LI 0))] (.cond (LT 48) (LS [LO 49 (.lit [(.int .i64 0)] 0 []),LO 50 (.lit [(.int .i64 0)] 0 []),LM 51 0,LO 52 (.app 1 8 (LT 50) (LT 51)),LM 4 49,LM 5 52] .ret) .skip)) (.seq (LS [LM 53 1,LO 54 (.len (LT 53)),LO 55 (.bin .eql (LT 54) (LI 1))] (.cond (LT 55) (LS [LM 57 0,LM 58 1,LO 59 (.iaddr 1 (LT 58) (LI 0)),LO 60 (LL 59),LO 61 (.call 202 [(LT 57),(LT 60)]),LM 56 61,LO 62 (LX 56 0),LO 63 (LX 56 1),LM 10 62,LM 11 63] (LS [LM 64 10,LM 65 11,LO 66 (.call 178 [(LT 65)]),LM 4 64,LM 5 66] .ret)) .skip)) (LS [LM 67 1,LM 68 1,LO 69 (.len (LT 68)),LO 70 (.bin .sub (LT 69) (LI 1)),LO 71 (.iaddr 1 (LT 67) (LT 70)),LO 72 (LL 71),LO 73 (.bin .add (LT 72) (LI 1)),LO 74 (.bin .quo (LI 1000000000) (LT 73)),LM 12 74] (LS [LM 75 0,LO 76 (.len (LT 75)),LO 77 (.bin .add (LT 76) (LI 1)),LO 78 (.make [(.int .i64 0)] 8 (LT 77) (LT 77)),LM 13 78] (LS [LM 79 13,LM 80 0,LM 81 12,LO 82 (.call 203 [(LT 80),(LT 81)]),LO 83 (.copy 1 (LT 79) (LT 82))] (LS [LM 84 1,LM 85 12,LO 86 (.call 203 [(LT 84),(LT 85)]),LM 14 86] (LS [LM 87 14,LO 88 (.len (LT 87)),LM 15 88] (LS [LM 89 13,LO 90 (.len (LT 89)),LM 91 15,LO 92 (.bin .sub (LT 90) (LT 91)),LO 93 (.make [(.int .i64 0)] 8 (LT 92) (LT 92)),LM 16 93] (.seq (LS [LM 94 13,LO 95 (.len (LT 94)),LM 96 15,LO 97 (.bin .sub (LT 95) (LT 96)),LO 98 (.bin .sub (LT 97) (LI 1)),LM 17 98] (.block 0 (.loop kB))) (LS [LM 181 13,LO 182 (.call 184 [(LT 181)]),LM 183 12,LO 184 (.call 202 [(LT 182),(LT 183)]),LM 180 184,LO 185 (LX 180 0),LO 186 (LX 180 1),LM 21 185,LM 22 186] (LS [LM 187 16,LO 188 (.call 184 [(LT 187)]),LM 189 21,LM 4 188,LM 5 189] .ret)))))))))))))))
def gJ:aU:=⟨190,[(.tmp 4),(.tmp 5)],eH⟩
theorem LB:fT 185=some gJ:=by kernel_rfl
def uJ:aE:=(.seq (LS [LM 3 0,LO 4 (.len (LT 3)),LO 5 (.bin .gtr (LT 4) (LI 0)),LM 6 5,LY 6 7 (.mv (LT 0)),LY 6 8 (.mv (LT 0)),LY 6 9 (.len (LT 8)),LY 6 10 (.bin .sub (LT 9) (LI 1)),LY 6 11 (.iaddr 1 (LT 7) (LT 10)),LY 6 12 (LL 11),LY 6 13 (.bin .eql (LT 12) (LI 0)),LO 14 (.pick (LT 6) (LT 13) LF)] (.cond (LT 14) .skip (.exit 0))) (.block 1 (.cU [LM 15 0,LM 16 0,LO 17 (.len (LT 16)),LO 18 (.bin .sub (LT 17) (LI 1)),LO 19 (.sub 1 (LT 15) none (some (LT 18)) none),LM 0 19])))
def FF:aE:=(LS [LO 2 (.mv (.const (.slice none 0 0)))] (.seq (.block 0 (.loop uJ)) (LS [LM 20 0,LM 2 20] .ret)))
def Jr:aU:=⟨21,[(.tmp 2)],FF⟩
theorem OJ:fT 184=some Jr:=by kernel_rfl
def Ag:aE:=(LS [LO 4 (.mv (LI 0))] (.seq (LS [LM 5 1,LM 6 0,LO 7 (.len (LT 6)),LO 8 (.bin .lss (LT 5) (LT 7))] (.cond (LT 8) (LS [LM 9 0,LM 10 1,LO 11 (.iaddr 1 (LT 9) (LT 10)),LO 12 (LL 11),LM 4 12] .ret) .skip)) (LS [LO 4 (.mv (LI 0))] .ret)))
def CB:aU:=⟨13,[(.tmp 4)],Ag⟩
theorem MX:fT 186=some CB:=by kernel_rfl
def sC:aE:=(.seq (LS [LM 9 7,LM 10 0,LO 11 (.slen (LT 10)),LO 12 (.bin .leq (LT 9) (LT 11))] (.cond (LT 12) .skip (.exit 0))) (.seq (.block 1 (LS [LM 15 7,LM 16 0,LO 17 (.slen (LT 16)),LO 18 (.bin .eql (LT 15) (LT 17)),LM 19 18,LZ 19 20 (.mv (LT 0)),LZ 19 21 (.mv (LT 7)),LZ 19 22 (.sidx (LT 20) (LT 21)),LZ 19 23 (.mv (LT 1)),LZ 19 24 (.bin .eql (LT 22) (LT 23)),LO 25 (.pick (LT 19) LG (LT 24))] (.cond (LT 25) (LS [LM 26 5,LM 27 0,LM 28 6,LM 29 7,LO 30 (.ssub (LT 27) (some (LT 28)) (some (LT 29))),LO 31 (.lit [(.string ⟨#[]⟩)] 1 [(0,(LT 30))]),LO 32 (.app 1 16 (LT 26) (LT 31)),LM 5 32] (.cU [LM 33 7,LO 34 (.bin .add (LT 33) (LI 1)),LM 6 34])) .skip))) (.cU [LM 13 7,LO 14 (.bin .add (LT 13) (LI 1)),LM 7 14])))
def Hv:aE:=(LS [LO 4 (.mv (.const (.slice none 0 0)))] (LS [LO 8 (.lit [(.string ⟨#[]⟩)] 0 []),LM 5 8] (LS [LO 6 (.mv (LI 0))] (.seq (LS [LO 7 (.mv (LI 0))] (.block 0 (.loop sC))) (LS [LM 35 5,LM 4 35] .ret)))))
def Mc:aU:=⟨36,[(.tmp 4)],Hv⟩
theorem Qw:fT 167=some Mc:=by kernel_rfl
def eO:aE:=(.seq (LS [LM 4 3,LM 5 0,LO 6 (.slen (LT 5)),LO 7 (.bin .lss (LT 4) (LT 6))] (.cond (LT 7) .skip (.exit 0))) (.seq (.block 1 (LS [LM 10 0,LM 11 3,LO 12 (.sidx (LT 10) (LT 11)),LO 13 (.bin .lss (LT 12) (.const (.int .u8 48))),LM 14 13,LZ 14 15 (.mv (LT 0)),LZ 14 16 (.mv (LT 3)),LZ 14 17 (.sidx (LT 15) (LT 16)),LZ 14 18 (.bin .gtr (LT 17) (.const (.int .u8 57))),LO 19 (.pick (LT 14) LG (LT 18))] (.cond (LT 19) (LS [LO 2 (.mv LF)] .ret) .skip))) (.cU [LM 8 3,LO 9 (.bin .add (LT 8) (LI 1)),LM 3 9])))
def C8:aE:=(LS [LO 2 (.mv LF)] (.seq (LS [LO 3 (.mv (LI 0))] (.block 0 (.loop eO))) (LS [LM 20 0,LO 21 (.slen (LT 20)),LO 22 (.bin .geq (LT 21) (LI 1)),LM 23 22,LY 23 24 (.mv (LT 0)),LY 23 25 (.slen (LT 24)),LY 23 26 (.bin .leq (LT 25) (LI 200)),LO 27 (.pick (LT 23) (LT 26) LF),LM 28 27,LY 28 29 (.mv (LT 0)),LY 28 30 (.slen (LT 29)),LY 28 31 (.bin .eql (LT 30) (LI 1)),LY 28 32 (.mv (LT 31)),LZ 32 33 (.mv (LT 0)),LZ 32 34 (.sidx (LT 33) (LI 0)),LZ 32 35 (.bin .neq (LT 34) (.const (.int .u8 48))),LY 28 36 (.pick (LT 32) LG (LT 35)),LO 37 (.pick (LT 28) (LT 36) LF),LM 2 37] .ret)))
def Gj:aU:=⟨38,[(.tmp 2)],C8⟩
theorem Ku:fT 168=some Gj:=by kernel_rfl
def pG:aE:=(.seq (LS [LM 20 7,LM 21 4,LO 22 (.bin .lss (LT 20) (LT 21))] (.cond (LT 22) .skip (.exit 2))) (.seq (.block 3 (.cU [LM 25 6,LO 26 (.bin .mul (LI 10) (LT 25)),LM 27 0,LM 28 7,LO 29 (.sidx (LT 27) (LT 28)),LO 30 (.bin .sub (LT 29) (.const (.int .u8 48))),LO 31 (.cvt .i64 (LT 30)),LO 32 (.bin .add (LT 26) (LT 31)),LM 6 32])) (.cU [LM 23 7,LO 24 (.bin .add (LT 23) (LI 1)),LM 7 24])))
def oU:aE:=(.seq (LS [LM 11 4,LO 12 (.bin .gtr (LT 11) (LI 0))] (.cond (LT 12) .skip (.exit 0))) (.seq (.block 1 (LS [LO 5 (.mv (LI 0))] (.seq (LS [LM 15 4,LO 16 (.bin .gtr (LT 15) (LI 9))] (.cond (LT 16) (.cU [LM 17 4,LO 18 (.bin .sub (LT 17) (LI 9)),LM 5 18]) .skip)) (LS [LO 6 (.mv (LI 0))] (.seq (LS [LM 19 5,LM 7 19] (.block 2 (.loop pG))) (.cU [LM 33 3,LM 34 6,LO 35 (.lit [(.int .i64 0)] 1 [(0,(LT 34))]),LO 36 (.app 1 8 (LT 33) (LT 35)),LM 3 36])))))) (.cU [LM 13 4,LO 14 (.bin .sub (LT 13) (LI 9)),LM 4 14])))
def Cg:aE:=(LS [LO 2 (.mv (.const (.slice none 0 0)))] (LS [LO 8 (.lit [(.int .i64 0)] 0 []),LM 3 8] (.seq (LS [LM 9 0,LO 10 (.slen (LT 9)),LM 4 10] (.block 0 (.loop oU))) (LS [LM 37 3,LO 38 (.call 184 [(LT 37)]),LM 2 38] .ret))))
def EY:aU:=⟨39,[(.tmp 2)],Cg⟩
theorem Kj:fT 169=some EY:=by kernel_rfl
def uY:aE:=(.seq (LS [LM 19 4,LO 20 (.bin .geq (LT 19) (LI 0))] (.cond (LT 20) .skip (.exit 0))) (.seq (.block 1 (LS [LM 23 0,LM 24 4,LO 25 (.iaddr 1 (LT 23) (LT 24)),LO 26 (LL 25),LO 27 (.bin .add (LT 26) (LI 1000000000)),LO 28 (.call 219 [(LT 27)]),LM 5 28] (.cU [LM 29 3,LM 30 5,LO 31 (.ssub (LT 30) (some (LI 1)) none),LO 32 (.bin .add (LT 29) (LT 31)),LM 3 32]))) (.cU [LM 21 4,LO 22 (.bin .sub (LT 21) (LI 1)),LM 4 22])))
def wD:aE:=(LS [LO 2 (.mv (.const (.string ⟨#[]⟩)))] (.seq (LS [LM 6 0,LO 7 (.len (LT 6)),LO 8 (.bin .eql (LT 7) (LI 0))] (.cond (LT 8) (LS [LO 2 (.mv (.const (.string ⟨#[48]⟩)))] .ret) .skip)) (LS [LM 9 0,LM 10 0,LO 11 (.len (LT 10)),LO 12 (.bin .sub (LT 11) (LI 1)),LO 13 (.iaddr 1 (LT 9) (LT 12)),LO 14 (LL 13),LO 15 (.call 219 [(LT 14)]),LM 3 15] (.seq (LS [LM 16 0,LO 17 (.len (LT 16)),LO 18 (.bin .sub (LT 17) (LI 2)),LM 4 18] (.block 0 (.loop uY))) (LS [LM 33 3,LM 2 33] .ret)))))
def Am:aU:=⟨34,[(.tmp 2)],wD⟩
theorem JG:fT 208=some Am:=by kernel_rfl
def Ad:aE:=(LS [LO 2 (.mv (LI 0)),LO 3 (.mv LF)] (.seq (LS [LM 4 0,LO 5 (.len (LT 4)),LO 6 (.bin .gtr (LT 5) (LI 2))] (.cond (LT 6) (LS [LO 2 (.mv (LI 0)),LO 3 (.mv LF)] .ret) .skip)) (LS [LM 7 0,LO 8 (.call 186 [(LT 7),(LI 0)]),LM 9 0,LO 10 (.call 186 [(LT 9),(LI 1)]),LO 11 (.bin .mul (LI 1000000000) (LT 10)),LO 12 (.bin .add (LT 8) (LT 11)),LM 2 12,LO 3 (.mv LG)] .ret)))
def CD:aU:=⟨13,[(.tmp 2),(.tmp 3)],Ad⟩
theorem Nr:fT 201=some CD:=by kernel_rfl
def tC:aE:=(.seq (LS [LM 16 8,LO 17 (.bin .geq (LT 16) (LI 0))] (.cond (LT 17) .skip (.exit 0))) (.seq (.block 1 (LS [LM 20 7,LO 21 (.bin .mul (LT 20) (LI 1000000000)),LM 22 0,LM 23 8,LO 24 (.iaddr 1 (LT 22) (LT 23)),LO 25 (LL 24),LO 26 (.bin .add (LT 21) (LT 25)),LM 9 26] (LS [LM 27 6,LM 28 8,LM 29 9,LM 30 1,LO 31 (.bin .quo (LT 29) (LT 30)),LO 32 (.iaddr 1 (LT 27) (LT 28)),LN (.store 1 (LT 32) (LT 31))] (.cU [LM 33 9,LM 34 1,LO 35 (.bin .rem (LT 33) (LT 34)),LM 7 35])))) (.cU [LM 18 8,LO 19 (.bin .sub (LT 18) (LI 1)),LM 8 19])))
def Bv:aE:=(LS [LO 4 (.mv (.const (.slice none 0 0))),LO 5 (.mv (LI 0))] (LS [LM 10 0,LO 11 (.len (LT 10)),LO 12 (.make [(.int .i64 0)] 8 (LT 11) (LT 11)),LM 6 12] (LS [LO 7 (.mv (LI 0))] (.seq (LS [LM 13 0,LO 14 (.len (LT 13)),LO 15 (.bin .sub (LT 14) (LI 1)),LM 8 15] (.block 0 (.loop tC))) (LS [LM 36 6,LO 37 (.call 184 [(LT 36)]),LM 38 7,LM 4 37,LM 5 38] .ret)))))
def Dj:aU:=⟨39,[(.tmp 4),(.tmp 5)],Bv⟩
theorem IN:fT 202=some Dj:=by kernel_rfl
def nP:aE:=(LS [LO 17 (.bin .lss (LT 16) (LT 15))] (.seq (.cond (LT 17) .skip (.exit 0)) (.seq (.block 1 (LS [LO 18 (.iaddr 1 (LT 14) (LT 16)),LO 19 (LL 18),LM 8 19] (LS [LM 20 8,LM 21 1,LO 22 (.bin .mul (LT 20) (LT 21)),LM 23 6,LO 24 (.bin .add (LT 22) (LT 23)),LM 9 24] (LS [LM 25 5,LM 26 9,LO 27 (.bin .rem (LT 26) (LI 1000000000)),LO 28 (.lit [(.int .i64 0)] 1 [(0,(LT 27))]),LO 29 (.app 1 8 (LT 25) (LT 28)),LM 5 29] (.cU [LM 30 9,LO 31 (.bin .quo (LT 30) (LI 1000000000)),LM 6 31]))))) (.cU [LO 32 (.bin .add (LT 16) (LI 1)),LM 16 32]))))
def A3:aE:=(LS [LO 4 (.mv (.const (.slice none 0 0)))] (LS [LM 10 0,LO 11 (.len (LT 10)),LO 12 (.bin .add (LT 11) (LI 1)),LO 13 (.make [(.int .i64 0)] 8 (LI 0) (LT 12)),LM 5 13] (LS [LO 6 (.mv (LI 0))] (.seq (LS [LM 14 0,LO 15 (.len (LT 14)),LO 16 (.mv (LI 0))] (.block 0 (.loop nP))) (.seq (LS [LM 33 6,LO 34 (.bin .gtr (LT 33) (LI 0))] (.cond (LT 34) (.cU [LM 35 5,LM 36 6,LO 37 (.lit [(.int .i64 0)] 1 [(0,(LT 36))]),LO 38 (.app 1 8 (LT 35) (LT 37)),LM 5 38]) .skip)) (LS [LM 39 5,LM 4 39] .ret))))))
def DM:aU:=⟨40,[(.tmp 4)],A3⟩
theorem Ir:fT 203=some DM:=by kernel_rfl
def lL:aE:=(LS [LO 16 (.bin .lss (LT 15) (LT 14))] (.seq (.cond (LT 16) .skip (.exit 0)) (.seq (.block 1 (LS [LM 17 15,LO 18 (.iaddr 1 (LT 13) (LT 15)),LO 19 (LL 18),LM 10 17,LM 11 19] (LS [LM 20 0,LM 21 2,LM 22 10,LO 23 (.bin .add (LT 21) (LT 22)),LO 24 (.iaddr 1 (LT 20) (LT 23)),LO 25 (LL 24),LM 26 11,LM 27 3,LO 28 (.bin .mul (LT 26) (LT 27)),LO 29 (.bin .rem (LT 28) (LI 1000000000)),LO 30 (.bin .sub (LT 25) (LT 29)),LM 31 9,LO 32 (.bin .sub (LT 30) (LT 31)),LM 12 32] (LS [LM 33 11,LM 34 3,LO 35 (.bin .mul (LT 33) (LT 34)),LO 36 (.bin .quo (LT 35) (LI 1000000000)),LM 9 36] (.seq (LS [LM 37 12,LO 38 (.bin .lss (LT 37) (LI 0))] (.cond (LT 38) (LS [LM 39 12,LO 40 (.bin .add (LT 39) (LI 1000000000)),LM 12 40] (LS [LM 41 9,LO 42 (.bin .add (LT 41) (LI 1)),LM 9 42] (LS [LM 43 12,LO 44 (.bin .lss (LT 43) (LI 0))] (.cond (LT 44) (LS [LM 45 12,LO 46 (.bin .add (LT 45) (LI 1000000000)),LM 12 46] (.cU [LM 47 9,LO 48 (.bin .add (LT 47) (LI 1)),LM 9 48])) .skip)))) .skip)) (.cU [LM 49 0,LM 50 2,LM 51 10,LO 52 (.bin .add (LT 50) (LT 51)),LM 53 12,LO 54 (.iaddr 1 (LT 49) (LT 52)),LN (.store 1 (LT 54) (LT 53))])))))) (.cU [LO 55 (.bin .add (LT 15) (LI 1)),LM 15 55]))))
def Ch:aE:=(LS [LO 8 (.mv LF)] (LS [LO 9 (.mv (LI 0))] (.seq (LS [LM 13 1,LO 14 (.len (LT 13)),LO 15 (.mv (LI 0))] (.block 0 (.loop lL))) (LS [LM 56 0,LM 57 2,LM 58 1,LO 59 (.len (LT 58)),LO 60 (.bin .add (LT 57) (LT 59)),LO 61 (.iaddr 1 (LT 56) (LT 60)),LO 62 (LL 61),LM 63 9,LO 64 (.bin .sub (LT 62) (LT 63)),LO 65 (.iaddr 1 (LT 56) (LT 60)),LN (.store 1 (LT 65) (LT 64))] (LS [LM 66 0,LM 67 2,LM 68 1,LO 69 (.len (LT 68)),LO 70 (.bin .add (LT 67) (LT 69)),LO 71 (.iaddr 1 (LT 66) (LT 70)),LO 72 (LL 71),LO 73 (.bin .lss (LT 72) (LI 0)),LM 8 73] .ret)))))
def E2:aU:=⟨74,[(.tmp 8)],Ch⟩
theorem JC:fT 204=some E2:=by kernel_rfl
def uQ:aE:=(LS [LO 13 (.bin .lss (LT 12) (LT 11))] (.seq (.cond (LT 13) .skip (.exit 0)) (.seq (.block 1 (LS [LM 14 12,LO 15 (.iaddr 1 (LT 10) (LT 12)),LO 16 (LL 15),LM 7 14,LM 8 16] (LS [LM 17 0,LM 18 2,LM 19 7,LO 20 (.bin .add (LT 18) (LT 19)),LO 21 (.iaddr 1 (LT 17) (LT 20)),LO 22 (LL 21),LM 23 8,LO 24 (.bin .add (LT 22) (LT 23)),LM 25 6,LO 26 (.bin .add (LT 24) (LT 25)),LM 9 26] (LS [LM 27 9,LO 28 (.bin .quo (LT 27) (LI 1000000000)),LM 6 28] (.cU [LM 29 0,LM 30 2,LM 31 7,LO 32 (.bin .add (LT 30) (LT 31)),LM 33 9,LO 34 (.bin .rem (LT 33) (LI 1000000000)),LO 35 (.iaddr 1 (LT 29) (LT 32)),LN (.store 1 (LT 35) (LT 34))]))))) (.cU [LO 36 (.bin .add (LT 12) (LI 1)),LM 12 36]))))
def Co:aE:=(LS [LO 6 (.mv (LI 0))] (.seq (LS [LM 10 1,LO 11 (.len (LT 10)),LO 12 (.mv (LI 0))] (.block 0 (.loop uQ))) (.cU [LM 37 0,LM 38 2,LM 39 1,LO 40 (.len (LT 39)),LO 41 (.bin .add (LT 38) (LT 40)),LO 42 (.iaddr 1 (LT 37) (LT 41)),LO 43 (LL 42),LM 44 6,LO 45 (.bin .add (LT 43) (LT 44)),LO 46 (.iaddr 1 (LT 37) (LT 41)),LN (.store 1 (LT 46) (LT 45))])))
def E6:aU:=⟨47,[],Co⟩
theorem Jc:fT 205=some E6:=by kernel_rfl
def lP:aE:=(.seq (LS [LM 8 3,LO 9 (.len (LT 8)),LO 10 (.bin .eql (LT 9) (LI 0)),LM 11 10,LZ 11 12 (.mv (LT 4)),LZ 11 13 (.bin .neq (LT 12) (LI 0)),LO 14 (.pick (LT 11) LG (LT 13))] (.cond (LT 14) .skip (.exit 0))) (.block 1 (LS [LM 15 4,LO 16 (.bin .rem (LT 15) (LI 10)),LM 5 16] (.seq (LS [LM 17 5,LO 18 (.bin .lss (LT 17) (LI 0))] (.cond (LT 18) (.cU [LM 19 5,LO 20 (.un .neg (LT 19)),LM 5 20]) .skip)) (LS [LM 21 5,LO 22 (.bin .add (LI 48) (LT 21)),LO 23 (.cvt .u8 (LT 22)),LO 24 (.lit [(.int .u8 0)] 1 [(0,(LT 23))]),LM 25 3,LO 26 (.app 1 1 (LT 24) (LT 25)),LM 3 26] (.cU [LM 27 4,LO 28 (.bin .quo (LT 27) (LI 10)),LM 4 28]))))))
def Hx:aE:=(LS [LO 2 (.mv (.const (.string ⟨#[]⟩)))] (LS [LO 6 (.lit [(.int .u8 0)] 0 []),LM 3 6] (LS [LM 7 0,LM 4 7] (.seq (.block 0 (.loop lP)) (.seq (LS [LM 29 0,LO 30 (.bin .lss (LT 29) (LI 0))] (.cond (LT 30) (.cU [LO 31 (.lit [(.int .u8 0)] 1 [(0,(.const (.int .u8 45)))]),LM 32 3,LO 33 (.app 1 1 (LT 31) (LT 32)),LM 3 33]) .skip)) (LS [LM 34 3,LO 35 (.b2s (LT 34)),LM 2 35] .ret))))))
def MT:aU:=⟨36,[(.tmp 2)],Hx⟩
theorem Qu:fT 219=some MT:=by kernel_rfl
end Go.PM
namespace Go.PM
open Go.Lib
def d10 (n:Nat):UInt8:=UInt8.ofNat (48+n)
def Fb:Nat→Nat→List UInt8
 | 0,_=>[]
 | k+1,r=>Fb k (r / 10)++[d10 (r % 10)]
theorem kD {n:Nat} (h:n<10):decDigits n=[d10 n]:=by rw[decDigits,dif_pos h];rfl
theorem B9 {n:Nat} (h:¬n<10):decDigits n=decDigits (n / 10)++[d10 (n % 10)]:=by rw[decDigits,dif_neg h];rfl
theorem SX (n:Nat):decDigits n≠[]:=by
 by_cases h:n<10
 ·rw[kD h];simp
 ·rw[B9 h];simp
theorem aqL (k r:Nat):(Fb k r).length=k:=by
 induction k generalizing r with
 | zero=>rfl
 | succ k ih=>rw[Fb,aKM,ih];rfl
theorem ahH (k:Nat):Fb k 0=aLr k 48:=by
 induction k with
 | zero=>rfl
 | succ k ih=>rw[Fb,ih,List.replicate_succ'];rfl
theorem aqV {q:Nat} (hq:0<q) (k r:Nat) (hr:r<10^k):decDigits (q*10^k+r)=decDigits q++Fb k r:=by
 induction k generalizing r with
 |
  zero =>
  have:r=0:=by simp at hr;exact hr
  subst this
  simp[Fb]
 |
  succ k ih =>
  rw[aL2] at hr ⊢
  have hp:0<10^k:=Nat.pow_pos (by decide)
  have h1:q*(10^k*10)=10*(q*10^k):=by grind
  have h2:1*1≤q*10^k:=Nat.mul_le_mul hq hp
  rw[B9 (by omega),h1,show (10*(q*10^k)+r) / 10=q*10^k+r / 10 by omega,show (10*(q*10^k)+r) % 10=r % 10 by omega,ih (r / 10) (by omega),Fb,aMn]
theorem awS (k r:Nat) (hr:r<10^(k+1)):Fb (k+1) r=aLr (k+1-(decDigits r).length) 48++decDigits r:=by
 induction k generalizing r with
 |
  zero =>
  have h:r<10:=by simpa using hr
  rw[kD h,Fb,Fb,Nat.mod_eq_of_lt h]
  rfl
 |
  succ k ih =>
  rw[Fb]
  by_cases h:r<10
  ·rw[show r / 10=0 by omega,ahH,kD h,Nat.mod_eq_of_lt h]
   rfl
  ·rw[ih (r / 10) (by rw[aL2] at hr;omega),B9 h,aMn,aKM]
   congr 2
   simp only[aKL,aMe]
   omega
theorem Ev (n:Nat) (k:Nat) (h:n<10^(k+1)):(decDigits n).length≤k+1:=by
 rw[decDigits_length]
 induction k generalizing n with
 | zero=>rw[nDigits_small (by simpa using h)];exact aKB _
 |
  succ k ih =>
  by_cases hn:n<10
  ·rw[nDigits_small hn];omega
  ·rw[nDigits_big hn]
   have:=ih (n / 10) (by rw[aL2] at h;omega)
   omega
theorem KF {q r:Nat} (hq:0<q) (hr:r<1000000000):decDigits (q*1000000000+r)=decDigits q++Fb 9 r:=aqV hq 9 r hr
theorem asN {r:Nat} (hr:r<1000000000):decDigits (r+1000000000)=d10 1::Fb 9 r:=by
 have:=KF (q:=1) (by decide) hr
 rw[show r+1000000000=1*1000000000+r by omega,this,kD (by decide)]
 rfl
theorem Yk (xs:List (List UInt8)):join xs []=xs.flatten:=by
 induction xs with
 | nil=>rfl
 |
  cons x xs ih =>
  unfold join at ih ⊢
  cases xs with
  | nil=>simp[List.intercalate]
  |
   cons y ys =>
   rw[List.flatten_cons,←ih]
   simp[List.intercalate,List.intersperse]
end Go.PM
namespace Go.PM
abbrev bD (l:List UInt8):VV := .sc (.string ⟨l.toArray⟩)
theorem VT.DN {f:Nat} {p:List Value→aJ→Option Value} {args:List VV} {r:VV} (hp:MN f=some p) (h:∀(V:View) (fE:List Value),VL V args fE→∃pv,p fE V.P=some pv∧∀V',VR V' r pv):VT f args r:=by
 intro F P fE fD hF hl asP
 obtain⟨pv,h1,h2⟩:=h (bare F P) fE hl
 have e:uO f fE fD P=some (pv,P):=by
  show call cfg fT f fE fD P=some (pv,P)
  rw[abQ (E:=cfg) (T:=fT) hp]
  have h1':p fE P=some pv:=h1
  rw[h1']
  rfl
 exact⟨P,pv,e,List.prefix_refl _,h2 _⟩
theorem TC.DN {f:Nat} {p:List Value→aJ→Option Value} {args:List VV} {r:VV} (hp:MN f=some p) (hr:FH.contains f=false) (ha:aO args=true) (Xs:hJ r=true) (h:∀(V:View) (fE:List Value),VL V args fE→∃pv,p fE V.P=some pv∧∀V',VR V' r pv):TC f args r :=
 TC.of hr ha (auZ ha Xs (VT.DN hp h))
theorem VL.one {V:View} {x:Value} {ps:List Value} (h:VL V [.sc x] ps):ps=[x]:=by
 cases h with
 |
  cons _ v _ vs h hs =>
  cases h
  cases hs
  rfl
theorem VL.two {V:View} {x y:Value} {ps:List Value} (h:VL V [.sc x,.sc y] ps):ps=[x,y]:=by
 cases h with
 |
  cons _ v _ vs h hs =>
  cases h
  rw[hs.one]
theorem VL.three {V:View} {x y z:Value} {ps:List Value} (h:VL V [.sc x,.sc y,.sc z] ps):ps=[x,y,z]:=by
 cases h with
 |
  cons _ v _ vs h hs =>
  cases h
  rw[hs.two]
theorem afI (x:Nat) (h:x<4294967296):TC 198 [.sc (.int .u32 (x:Int))] (VI (32-(Lib.bitLen x:Int))):=by
 refine TC.DN (p:=F4) rfl rfl rfl rfl fun V ps hl => ?_
 rw[hl.one]
 unfold F4
 simp only
 rw[if_pos ⟨by omega,by omega⟩,aLX]
 exact⟨_,rfl,fun _ => .sc _ rfl⟩
theorem azM (n:Nat) (h:n<18446744073709551616):TC 214 [.sc (.int .u64 (n:Int)),VI 10] (bD (Lib.decDigits n)):=by
 refine TC.DN (p:=zK) rfl rfl rfl rfl fun V ps hl => ?_
 rw[hl.two]
 unfold zK
 simp only
 rw[if_pos ⟨trivial,by omega,by omega⟩,aLX]
 exact⟨_,rfl,fun _ => .sc _ rfl⟩
theorem aoI (s:List UInt8) (c:Nat) (h:s.length*c≤140737488355328) (hc:c≤9223372036854775807):TC 215 [bD s,VI (c:Int)] (bD (Lib.repeatL s c)):=by
 refine TC.DN (p:=Ji) rfl rfl rfl rfl fun V ps hl => ?_
 rw[hl.two]
 unfold Ji
 simp only
 rw[if_pos ⟨by omega,by omega,by rw[aLX];exact h⟩,aLX]
 exact⟨_,rfl,fun _ => .sc _ rfl⟩
theorem HZ {V:View}:∀ {xs:List (List UInt8)} {ps:List Value},VL V ((xs.map bD).flatMap aB) ps→strCells ps=some (xs.map fun x=>⟨x.toArray⟩)
 |
  [],ps,h=>by
  have h':VL V [] ps:=h
  cases h'
  rfl
 |
  x::xs,ps,h=>by
  rw[List.map_cons,List.flatMap_cons] at h
  have h':VL V (bD x::(xs.map bD).flatMap aB) ps:=h
  cases h' with
  |
   cons _ v _ vs h1 h2 =>
   cases h1
   rw[strCells,HZ h2]
   rfl
theorem ayN (xs:List (List UInt8)) (hx:xs.length≤140737488355328) (hlen:xs.flatten.length≤140737488355328):TC 217 [aC bD xs,bD []] (bD xs.flatten):=by
 refine TC.DN (p:=Wu) rfl rfl (by simp only[aO,mO (f:=bD) (fun _=>rfl) (fun _=>rfl),Bool.and_true];rfl) rfl fun V ps hl => ?_
 cases hl with
 |
  cons _ v _ vs h hs =>
  rw[hs.one]
  have axJ:(xs.map fun x=>(⟨x.toArray⟩:ByteArray)).map (·.data.toList)=xs:=by
   rw[List.map_map]
   exact List.map_id' xs
  have jn:Lib.join ((xs.map fun x=>(⟨x.toArray⟩:ByteArray)).map (·.data.toList)) ([]:List UInt8)=xs.flatten:=by rw[axJ,Yk]
  have h':VR V (.tree (xs.map bD) .op) v:=h
  clear h
  generalize QB:xs.map bD=es at h'
  cases h' with
  |
   pP k hk =>
   have:xs=[]:=List.map_eq_nil_iff.1 QB
   subst this
   exact⟨_,rfl,fun _ => .sc _ rfl⟩
  |
   tree _ k b o c r e p hF hb ho hc he hk hl =>
   subst QB
   by_cases h0:xs=[]
   ·subst h0
    exact⟨_,rfl,fun _ => .sc _ rfl⟩
   ·obtain⟨y,ys,rfl⟩:=List.exists_cons_of_ne_nil h0
    have e1:e=1:=(he (bD y) (by simp)).symm
    subst e1
    rw[Nat.mul_one] at ho hl
    have hr:V.P.read b o ((y::ys).map bD).length=some ((r.drop o).take ((y::ys).map bD).length):=by
     unfold aJ.read
     rw[hb]
     simp only
     rw[if_pos ho]
    have hn:¬((y::ys).map bD).length=0:=by simp
    refine⟨.string ⟨(y::ys).flatten.toArray⟩,?_,fun _ => .sc _ rfl⟩
    unfold Wu
    simp only[hn,if_false,hr,Option.bind_some,HZ hl]
    rw[if_pos ⟨by simp,hc,by simpa using hx,by rw[jn];exact hlen⟩,jn]
theorem arG (s:List UInt8) (c:UInt8):TC 209 [bD s,bD [c]] (VI (Lib.indexByte s c)):=by
 refine TC.DN (p:=Td) rfl rfl rfl rfl fun V ps hl => ?_
 rw[hl.two]
 exact⟨_,rfl,fun _ => .sc _ rfl⟩
theorem aqG (s:List UInt8) (u:Nat) (hs:s.length≤9223372036854775806) (h:Lib.parseUintB 64 s = .ok u):TC 192 [bD s,VI 10,VI 64] (.eJ [.sc (.int .u64 (u:Int)),.sc .nilIface]):=by
 refine TC.DN (p:=BK) rfl rfl rfl rfl fun V ps hl => ?_
 rw[hl.three]
 unfold BK
 simp only
 rw[if_pos ⟨trivial,trivial,hs⟩]
 have h':Lib.parseUintB 64 (⟨s.toArray⟩:ByteArray).data.toList = .ok u:=h
 rw[h']
 refine⟨_,rfl,fun V' => ?_⟩
 exact .eJ _ _ (.cons _ _ _ _ (.sc _ rfl) (.cons _ _ _ _ (.sc _ rfl) .nil))
end Go.PM
namespace Go.PM
section
variable {b:Nat}
theorem TX {α:Type} {pre jO post:List α} {o j:Nat} (ho:pre.length=o) (hj:j<jO.length):(pre++jO++post)[o+j]? = jO[j]? := by
 subst ho
 rw[aMn,aKT (by omega),aMs,aKS hj]
theorem aaN {α:Type} {pre jO post:List α} {o j:Nat} {v:α} (ho:pre.length=o) (hj:j<jO.length):(pre++jO++post).set (o+j) v=pre++jO.set j v++post:=by
 subst ho
 rw[aMn,List.set_append_right _ _ (by omega),aMs,List.set_append_left _ _ hj,aMn]
theorem QQ {xs:List Nat} {i d:Nat} (h:i<xs.length):(xs.set i d).drop (i+1)=xs.drop (i+1):=by
 rw[List.set_eq_take_append_cons_drop,if_pos h,List.drop_append]
 simp[aLC (by omega:i≤xs.length)]
theorem ajV {U V W P V2 U3 g:Nat} (hV:V<(V2+1)*P) (hU:U3*P≤U) (hWP:W*P≤V) (hg:g≤W) (h:g*V2≤U3):g*V≤U+V:=by
 have h1:g*V≤g*((V2+1)*P):=aMA _ (by omega)
 have h2:g*((V2+1)*P)=g*V2*P+g*P:=by grind
 have h3:g*V2*P≤U3*P:=aK2 _ h
 have h4:g*P≤W*P:=aK2 _ hg
 omega
theorem anQ {U V P V2 U3 g q:Nat} (hP:0<P) (hV:V2*P≤V) (hU:U<(U3+1)*P) (hq:q*V≤U) (h:U3<g*V2):q<g:=by
 have h1:q*(V2*P)≤q*V:=aMA _ hV
 have h2:q*V2*P<(U3+1)*P:=by
  have:q*V2*P=q*(V2*P):=by grind
  omega
 have h3:q*V2<U3+1:=aMB h2
 have h4:q*V2<g*V2:=by omega
 exact aMB h4
theorem Cp {xs:List Nat} {n t:Nat} (hx:∀d∈xs,d<b) (hn:xs.length=n+1) (ht:xs[n]? = some t):t*b^n≤val b xs∧val b xs<(t+1)*b^n:=by
 have h1:=bE (b:=b) ht
 rw[aLu (by omega)] at h1
 have h2:=sF (b:=b) (xs:=xs.take n) fun d hd=>hx d (aLy hd)
 rw[aMa,aLC (by omega)] at h2
 rw[Nat.add_mul,Nat.mul_comm t]
 omega
theorem Fw {xs:List Nat} {n t u:Nat} (hx:∀d∈xs,d<b) (hn:xs.length=n+2) (ht:xs[n+1]? = some t) (hu:xs[n]? = some u):(t*b+u)*b^n≤val b xs∧val b xs<(t*b+u+1)*b^n:=by
 have h1:=bE (b:=b) ht
 rw[aLu (by omega),bE hu] at h1
 have h2:=sF (b:=b) (xs:=xs.take n) fun d hd=>hx d (aLy hd)
 rw[aMa,aLC (by omega)] at h2
 have e:(t*b+u)*b^n=b^n*u+b^(n+1)*t:=by rw[aL2];grind
 rw[Nat.add_mul (t*b+u),e]
 omega
theorem UU {xs:List Nat} {n t u v:Nat} (hx:∀d∈xs,d<b) (hn:xs.length=n+3) (ht:xs[n+2]? = some t) (hu:xs[n+1]? = some u) (hv:xs[n]? = some v):((t*b+u)*b+v)*b^n≤val b xs∧val b xs<((t*b+u)*b+v+1)*b^n:=by
 have h1:=bE (b:=b) ht
 rw[aLu (by omega),bE hu,bE hv] at h1
 have h2:=sF (b:=b) (xs:=xs.take n) fun d hd=>hx d (aLy hd)
 rw[aMa,aLC (by omega)] at h2
 have e:((t*b+u)*b+v)*b^n=b^n*v+b^(n+1)*u+b^(n+2)*t:=by rw[aL2,aL2];grind
 rw[Nat.add_mul ((t*b+u)*b+v),e]
 omega
structure As (b:Nat) (us vs:List Nat) (n u2 u1 u0 v1 v0:Nat):Prop where
 hb:2≤b
 RJ:∀d∈us,d<b
 RB:∀d∈vs,d<b
 Yt:us.length=n+3
 PB:vs.length=n+2
 e2:us[n+2]? = some u2
 e1:us[n+1]? = some u1
 e0:us[n]? = some u0
 f1:vs[n+1]? = some v1
 f0:vs[n]? = some v0
 pos:1≤v1
 less:val b us<b*val b vs
section
variable {us vs:List Nat} {n u2 u1 u0 v1 v0:Nat} (G:As b us vs n u2 u1 u0 v1 v0)
include G
theorem As.KI:0<val b vs:=by
 have h:=(Fw G.RB G.PB G.f1 G.f0).1
 have h1:0<(v1*b+v0)*b^n:=Nat.mul_pos (by have:=Nat.mul_pos G.pos (show 0<b by have:=G.hb;omega);omega) (Nat.pow_pos (by have:=G.hb;omega))
 omega
theorem As.auA:u2<b:=G.RJ _ (aLv G.e2)
theorem As.aiT:u1<b:=G.RJ _ (aLv G.e1)
theorem As.auJ:u0<b:=G.RJ _ (aLv G.e0)
theorem As.Z8:v1<b:=G.RB _ (aLv G.f1)
theorem As.anN:v0<b:=G.RB _ (aLv G.f0)
theorem As.arA:val b us / val b vs<b:=(Nat.div_lt_iff_lt_mul G.KI).2 G.less
theorem As.top:u2≤v1:=by
 have h1:=(Cp (n:=n+2) G.RJ G.Yt G.e2).1
 have h2:=(Cp (n:=n+1) G.RB G.PB G.f1).2
 have h3:b*val b vs<b*((v1+1)*b^(n+1)):=Nat.mul_lt_mul_of_pos_left h2 (by have:=G.hb;omega)
 have h4:b*((v1+1)*b^(n+1))=(v1+1)*b^(n+2):=by rw[aL2 b (n+1)];grind
 have h5:=G.less
 have h6:u2*b^(n+2)<(v1+1)*b^(n+2):=by omega
 have:=aMB h6
 omega
theorem As.too {g left:Nat} (hh:u2*b+u1=g*v1+left) (h:left*b+u0<g*v0):val b us / val b vs<g:=by
 have hu:=(UU G.RJ G.Yt G.e2 G.e1 G.e0).2
 have hv:=(Fw G.RB G.PB G.f1 G.f0).1
 refine anQ (P:=b^n) (V2:=v1*b+v0) (U3:=(u2*b+u1)*b+u0) (Nat.pow_pos (by have:=G.hb;omega)) hv hu (Nat.div_mul_le_self _ _) ?_
 rw[hh]
 have:(g*v1+left)*b+u0=g*v1*b+(left*b+u0):=by grind
 have:g*(v1*b+v0)=g*v1*b+g*v0:=by grind
 omega
theorem As.aeY {g left:Nat} (hh:u2*b+u1=g*v1+left) (hg:g≤b) (h:g*v0≤left*b+u0):g≤val b us / val b vs+1:=by
 have hu:=(UU G.RJ G.Yt G.e2 G.e1 G.e0).1
 have hv:=Fw G.RB G.PB G.f1 G.f0
 have h1:b*b^n≤val b vs:=by
  have:b*b^n≤(v1*b+v0)*b^n:=aK2 _ (by have:=aK2 b G.pos;omega)
  omega
 have h2:=ajV (U:=val b us) (V:=val b vs) (W:=b) (P:=b^n) (V2:=v1*b+v0) (U3:=(u2*b+u1)*b+u0) (g:=g) hv.2 hu h1 hg (by
  rw[hh]
  have:(g*v1+left)*b+u0=g*v1*b+(left*b+u0):=by grind
  have:g*(v1*b+v0)=g*v1*b+g*v0:=by grind
  omega)
 have h3:g≤(val b us+val b vs) / val b vs:=(Nat.le_div_iff_mul_le G.KI).2 h2
 rwa [Nat.add_div_right _ G.KI] at h3
theorem As.broken {g left:Nat} (hh:u2*b+u1=g*v1+left) (h:b≤left):g<b∧g*v0≤left*b+u0:=by
 have h1:=G.top
 have h2:=G.aiT
 have h3:u2*b≤v1*b:=aK2 _ h1
 have h4:g*v1<b*v1:=by rw[Nat.mul_comm b];omega
 have hg:g<b:=aMB h4
 refine⟨hg,?_⟩
 have h5:=G.anN
 have h6:g*v0≤b*b:=Nat.mul_le_mul (by omega) (by omega)
 have h7:b*b≤left*b:=aK2 _ h
 omega
end
theorem abW {P A N T c l x y r W l' c' c1 lo t:Nat} (h:A+P*(c+l)=N+T) (h1:c1=c+t*y) (h2:c1=lo+W*c') (hd:r+lo+l=x+W*l'):(A+P*x)+P*W*(c'+l')=(N+P*r)+(T+P*(t*y)):=by
 subst h1
 have e:r+(c+t*y)+l=x+W*l'+W*c':=by omega
 have e2:P*(r+(c+t*y)+l)=P*(x+W*l'+W*c'):=by rw[e]
 grind
theorem anX {S S' V t P cl:Nat} (h:S+P*cl=S'+t*V) (hS':S'<P) (hV:V≤P) (ht:t*V≤S+V):cl=0∨cl=1:=by
 rcases aKE cl 2 with h1 | h1
 ·omega
 ·have:P*2≤P*cl:=aMA _ h1
  omega
theorem amT {S S1 S2 V t P c:Nat} (h1:S+P=S1+t*V) (h2:S1+V=S2+P*c) (hS2:S2<P) (hV:V≤P) (ht:t*V≤S+V) (hS:S<P) (bI:S<t*V):S2+t*V=S+V:=by
 have hc:c=1:=by
  rcases aKE c 1 with h | h
  ·have:c=0:=by omega
   subst this
   omega
  ·rcases aKE c 2 with h3 | h3
   ·omega
   ·have:P*2≤P*c:=aMA _ h3
    omega
 subst hc
 omega
end
end Go.PM