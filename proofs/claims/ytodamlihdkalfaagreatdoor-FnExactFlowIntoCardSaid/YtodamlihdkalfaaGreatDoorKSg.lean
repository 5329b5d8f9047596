/- Texts of a claim, in one: part 7. -/
import Derived.KernelRfl
import Derived.Lib.ItoaNum
import Derived.Lib.Join
import Derived.Test.YtodamlihdkalfaaGreatDoorKSf
set_option linter.unusedSimpArgs false
set_option linter.unusedVariables false
namespace Go.PM
def sY (n:Nat) (H:aA) (bare:Bool) (x:List ByteArray) (c:VV):Prop :=
 (bare=true∧x=[]∧c = .tree [] .nil)∨∃b,n<b∧c = .ref b 0 0 x.length (x.length+room x.length)∧aP H b 0=some ((iI jF x).map sV,1,true)
def Ek (n:Nat) (H:aA) (c:VV):Prop:=∃b,n<b∧c = .ref b 0 0 1 1∧aP H b 0=some ([sV jF],1,true)
theorem sY.eI {n:Nat} {H H':aA} {bare:Bool} {x:List ByteArray} {c:VV} (h:sY n H bare x c) (hk:∀b g x,n<b→aP H b g=some x→aP H' b g=some x):sY n H' bare x c:=by
 rcases h with h | ⟨b,h1,h2,h3⟩
 ·exact .inl h
 ·exact .inr ⟨b,h1,h2,hk _ _ _ h1 h3⟩
theorem Ek.eI {n:Nat} {H H':aA} {c:VV} (h:Ek n H c) (hk:∀b g x,n<b→aP H b g=some x→aP H' b g=some x):Ek n H' c:=by
 obtain⟨b,h1,h2,h3⟩:=h
 exact⟨b,h1,h2,hk _ _ _ h1 h3⟩
theorem sY.cell {n:Nat} {H:aA} {bare:Bool} {x:List ByteArray} {c:VV} (h:sY n H bare x c):aB c=[c]∧cI c=true∧∀k,k≤n→qQ k c=true:=by
 rcases h with⟨_,_,rfl⟩ | ⟨b,h1,rfl,_⟩
 ·exact⟨rfl,rfl,fun _ _=>rfl⟩
 ·exact⟨rfl,rfl,fun k hk=>by simp[qQ];omega⟩
theorem Ek.cell {n:Nat} {H:aA} {c:VV} (h:Ek n H c):aB c=[c]∧cI c=true∧∀k,k≤n→qQ k c=true:=by
 obtain⟨b,h1,rfl,_⟩:=h
 exact⟨rfl,rfl,fun k hk=>by simp[qQ];omega⟩
theorem sY.fz {n d:Nat} {H:aA} {bare:Bool} {x:List ByteArray} {c:VV} (h:sY n H bare x c):PM.fz (d+2) H c=some (dI x):=by
 rcases h with⟨_,rfl,rfl⟩ | ⟨b,h1,rfl,h3⟩
 ·show PM.fz ((d+1)+1) H _=_
  unfold PM.fz
  have:aM (.tree [] .nil)=false:=rfl
  simp only[this,Bool.false_eq_true,if_false]
  rfl
 ·show PM.fz ((d+1)+1) H _=_
  unfold PM.fz
  have:aM (.ref b 0 0 x.length (x.length+room x.length))=false:=rfl
  simp only[this,h3,Bool.false_eq_true,if_false]
  rw[if_pos ⟨by simp[iI],Nat.le_add_right _ _⟩,List.drop_zero,←List.map_take,F4,mapM_pure (n:=d) (eO fun _=>rfl)]
  rfl
theorem Ek.fz {n d:Nat} {H:aA} {c:VV} (h:Ek n H c):PM.fz (d+2) H c=some (dI [jF]):=by
 obtain⟨b,h1,rfl,h3⟩:=h
 show PM.fz ((d+1)+1) H _=_
 unfold PM.fz
 have:aM (.ref b 0 0 1 1)=false:=rfl
 simp only[this,h3,Bool.false_eq_true,if_false]
 rw[if_pos ⟨by simp,Nat.le_refl _⟩,List.drop_zero,List.take_of_length_le (by simp),mapM_pure (n:=d) (by rfl)]
 rfl
def sU (H:aA) (bare:Bool) (xs:List (List ByteArray)) (b:Nat):Prop :=
 ∃cells A0,aP H b 0=some (cells++A0,1,true)∧cells.length=xs.length∧A0.length=room xs.length∧(∀(i:Nat) x,xs[i]? = some x→∃c,cells[i]? = some c∧sY b H bare x c)∧∀c∈A0,Ek b H c
theorem sU.eI {H H':aA} {bare:Bool} {xs:List (List ByteArray)} {b:Nat} (h:sU H bare xs b) (hk:∀b' g x,b≤b'→aP H b' g=some x→aP H' b' g=some x):sU H' bare xs b:=by
 obtain⟨cells,A0,h1,h2,h3,h4,h5⟩:=h
 exact⟨cells,A0,hk _ _ _ (Nat.le_refl _) h1,h2,h3,fun i x hx=>by
  obtain⟨c,k1,k2⟩:=h4 i x hx
  exact⟨c,k1,k2.eI fun b' g x hb=>hk b' g x (Nat.le_of_lt hb)⟩,fun c hc=>(h5 c hc).eI fun b' g x hb=>hk b' g x (Nat.le_of_lt hb)⟩
theorem sU.pre {H H':aA} {bare:Bool} {xs:List (List ByteArray)} {b:Nat} (h:sU H bare xs b) (hh:H <+: H'):sU H' bare xs b:=h.eI fun _ _ _ _=>eR hh
def auD (xs:List (List ByteArray)) (bare:Bool) (n:Nat) (r:VV) (L:aA):Prop :=
 (bare=true∧xs=[]∧r = .tree [] .nil∧L=[])∨(r = .ref n 0 0 xs.length (xs.length+room xs.length)∧sU (List.replicate n .dead++L) bare xs n)
theorem B9.pre {n:Nat} {H L:aA} (h:B9 n H) (hL:kQ n L=true):B9 n (H++L):=by
 obtain⟨L0,rfl,h0⟩:=h
 refine⟨L0++L,by rw[List.append_assoc],?_⟩
 unfold kQ at *
 rw[List.all_append,h0,hL]
 rfl
theorem abZ {n:Nat} {x:List ByteArray} {bare:Bool} {H:aA} {K:VV→aA→Prop} (hx:x.length≤1000000000) (hH:B9 n H) (bD:n<H.length)
  (hk:∀c H',H <+: H'→B9 n H'→sY n H' bare x c→K c H'):cT 43 [dI x,.sc (.bool bare)] n H K:=by
 refine(As x bare hx).call rfl (mapM_pure (n:=7) (by simp[aJ,dG];rfl)) ?_
 rintro r L (⟨hb,rfl,rfl,rfl⟩ | ⟨rfl,rfl⟩)
 ·rw[List.append_nil]
  exact hk _ _ (List.prefix_refl _) hH (.inl ⟨hb,rfl,rfl⟩)
 ·exact hk _ _ (List.prefix_append _ _) (hH.app (JP (fun _=>rfl) _)) (.inr ⟨_,bD,rfl,zZ (i:=0) rfl⟩)
set_option maxHeartbeats 2000000 in
theorem Gh (xs:List (List ByteArray)) (bare:Bool) (hn:xs.length≤1000000000) (hx:∀x∈xs,x.length≤1000000000):FC 67 [jC xs,.sc (.bool bare)] (auD xs bare):=by
 refine FC.walk ⟨true,true⟩ Ge (Nat.le_of_ble_eq_true rfl) fun n => ?_
 have hr:=room_le xs.length
 by_cases hb:bare=true∧(xs.length:Int)=0
 ·obtain⟨rfl,h0⟩:=hb
  simp only[qE,nT,h0,VX,Nat.reduceEqDiff,Nat.reduceAdd]
  refine⟨[],by simp,rfl,rfl,.inl ⟨rfl,?_,rfl,rfl⟩⟩
  cases xs with
  | nil=>rfl
  | cons x xs=>simp at h0;omega
 have yY:bare=true→¬(xs.length:Int)=0:=fun h h'=>hb ⟨h,h'⟩
 clear hb
 have w1:IntKind.i64.wrap ((xs.length:Int)+(room xs.length:Int))=((xs.length+room xs.length:Nat):Int):=wrapN _ (by omega) (by omega)
 have em:=tJ (H:=List.replicate n fU.dead) (z:=[.slice none 0 0]) (bytes:=24) (n:=xs.length+room xs.length) (f:=fun v:VV=>v) (x := .tree [] .nil) rfl (by omega) (by omega)
 rw[List.length_replicate,List.map_id'] at em
 have main:∀ρ:cP,ρ 0=jC xs→ρ 1 = .sc (.bool bare)→ρ 5 = .ref n 0 0 (xs.length+room xs.length) (xs.length+room xs.length)→ρ 6=VI 0→∀Q:VQ,
   (∀(aZ:cP) (H:aA) (cells:List VV),aZ 0=jC xs→aZ 5 = .ref n 0 0 (xs.length+room xs.length) (xs.length+room xs.length)→B9 n H→cells.length=xs.length→aP H n 0=some (cells++List.replicate (room xs.length) (.tree [] .nil),1,true) →
    (∀(i:Nat) x,xs[i]? = some x→∃c,cells[i]? = some c∧sY n H bare x c)→Q (.exit 0) aZ H) →
   VW ⟨true,true⟩ n (.loop mC) Q ρ (List.replicate n fU.dead++[.row 0 (List.replicate (xs.length+room xs.length) (.tree [] .nil)) 1 true]):=by
  intro ρ h0 h1 h5 h6 Q hQ
  refine bC (fun(s:Nat×List VV) ρ H=>s.1≤xs.length∧s.2.length=s.1∧B9 n H∧aP H n 0=some (s.2++List.replicate (xs.length+room xs.length-s.1) (.tree [] .nil),1,true)∧(∀(i:Nat) x,i<s.1→xs[i]? = some x→∃c,s.2[i]? = some c∧sY n H bare x c) ∧
   ρ 0=jC xs∧ρ 1 = .sc (.bool bare)∧ρ 5 = .ref n 0 0 (xs.length+room xs.length) (xs.length+room xs.length)∧ρ 6=VI s.1) (fun s=>xs.length-s.1) (0,[])
   ⟨Nat.zero_le _,rfl,⟨_,rfl,by simp[kQ,wX,qQ]⟩,by rw[Jl,bK];rfl,fun i x h=>absurd h (Nat.not_lt_zero _),h0,h1,h5,h6⟩ ?_
  rintro⟨i,cells⟩ ρ H ⟨hi,kX,hO,pP,oB,h0,h1,h5,h6⟩
  simp only at hi kX pP oB h6
  by_cases cQ:(i:Int)<(xs.length:Int)
  ·obtain⟨x,G6⟩:∃x,xs[i]? = some x:=⟨_,List.getElem?_eq_getElem (by omega)⟩
   have e1:=aI (f:=dI) (t := .op) (H:=H) (size:=1) (k := .i64) G6 rfl
   have wi:IntKind.i64.wrap ((i:Int)+1)=((i+1:Nat):Int):=wrapN (i+1) (by omega) (by omega)
   simp only[mC,h0,h1,h5,h6,cQ,e1,VX,Nat.reduceEqDiff,Nat.reduceAdd]
   refine abZ (hx x (List.mem_of_getElem? G6)) hO (F7 pP) fun c H' hh hO' hc => ?_
   have Lc:=eR hh pP
   have e3:=bB (o:=0) (n:=xs.length+room xs.length) (c:=xs.length+room xs.length) (i:=i) (k := .i64) Lc (by omega)
   have e4:=gA (j:=i) (lo:=n) (v:=c) Lc (by simp;omega) (Nat.le_refl _) (by rw[hc.cell.1];rfl) (by rw[hc.cell.1];simp[hc.cell.2.1])
   have DN:=Fo cells (xs.length+room xs.length-(i+1)) (.tree [] .nil) c
   rw[kX,show xs.length+room xs.length-(i+1)+1=xs.length+room xs.length-i by omega] at DN
   rw[DN] at e4
   simp only[h6,e3,e4,wi,Nat.zero_add,VX,Nat.reduceEqDiff,Nat.reduceAdd]
   refine⟨(i+1,cells++[c]),by simp only;omega,by simp only;omega,by simp[kX],?_,kM Lc,?_,h0,h1,by (repeat' apply And.intro)<;>first | rfl | trivial⟩
   ·refine hO'.set (Nat.le_refl _) (wX.2 fun y hy => ?_)
    rcases List.mem_append.1 hy with hy | hy
    ·rcases List.mem_append.1 hy with hy | hy
     ·obtain⟨j,hj⟩:=List.getElem?_of_mem hy
      have hjl:=(List.getElem?_eq_some_iff.1 hj).1
      obtain⟨z,hz⟩:∃z,xs[j]? = some z:=⟨_,List.getElem?_eq_getElem (by omega)⟩
      obtain⟨c',k1,k2⟩:=oB j z (by omega) hz
      rw[hj] at k1
      injection k1 with k1
      subst k1
      exact k2.cell.2.2 _ (Nat.le_refl _)
     ·rw[List.mem_singleton] at hy
      subst hy
      exact hc.cell.2.2 _ (Nat.le_refl _)
    ·rw[List.eq_of_mem_replicate hy]
     rfl
   ·intro j z hj hz
    by_cases Km:j<i
    ·obtain⟨c',k1,k2⟩:=oB j z Km hz
     exact⟨c',by rw[List.getElem?_append_left (by omega)];exact k1,k2.eI fun b g y hb h=>dQ (Nat.ne_of_lt hb) (eR hh h)⟩
    ·have:j=i:=by simp only at hj;omega
     subst this
     rw[G6] at hz
     injection hz with hz
     subst hz
     exact⟨c,by rw[List.getElem?_append_right (by omega),kX,Nat.sub_self];rfl,hc.eI fun b g y hb h=>dQ (Nat.ne_of_lt hb) h⟩
  ·have qR:i=xs.length:=by omega
   subst qR
   simp only[mC,h0,h1,h5,h6,cQ,VX,Nat.reduceEqDiff,Nat.reduceAdd]
   rw[Nat.add_sub_cancel_left] at pP
   exact hQ _ _ cells h0 h5 hO kX pP fun i x hx=>oB i x (List.getElem?_eq_some_iff.1 hx).1 hx
 have Re:∀(ρ:cP) (H:aA) (cells:List VV),ρ 0=jC xs→ρ 5 = .ref n 0 0 (xs.length+room xs.length) (xs.length+room xs.length)→ρ 7=VI xs.length→B9 n H→cells.length=xs.length→aP H n 0=some (cells++List.replicate (room xs.length) (.tree [] .nil),1,true) →
    (∀(i:Nat) x,xs[i]? = some x→∃c,cells[i]? = some c∧sY n H bare x c)→∀Q:VQ,
   (∀(aZ:cP) (H:aA),aZ 0=jC xs→aZ 5 = .ref n 0 0 (xs.length+room xs.length) (xs.length+room xs.length)→B9 n H→sU H bare xs n→Q (.exit 2) aZ H) →
   VW ⟨true,true⟩ n (.loop mB) Q ρ H:=by
  intro ρ H cells h0 h5 h7 hO kX pP oB Q hQ
  have atP:∀y∈cells,qQ n y=true:=fun y hy=>by
   obtain⟨j,hj⟩:=List.getElem?_of_mem hy
   have hjl:=(List.getElem?_eq_some_iff.1 hj).1
   obtain⟨z,hz⟩:∃z,xs[j]? = some z:=⟨_,List.getElem?_eq_getElem (by omega)⟩
   obtain⟨c',k1,k2⟩:=oB j z hz
   rw[hj] at k1
   injection k1 with k1
   subst k1
   exact k2.cell.2.2 _ (Nat.le_refl _)
  refine bC (fun(s:Nat×List VV) ρ H=>s.1≤room xs.length∧s.2.length=s.1∧B9 n H∧aP H n 0=some (cells++s.2++List.replicate (room xs.length-s.1) (.tree [] .nil),1,true)∧(∀(i:Nat) x,xs[i]? = some x→∃c,cells[i]? = some c∧sY n H bare x c)∧(∀c∈s.2,Ek n H c) ∧
   ρ 0=jC xs∧ρ 5 = .ref n 0 0 (xs.length+room xs.length) (xs.length+room xs.length)∧ρ 7=VI (xs.length+s.1:Nat)) (fun s=>room xs.length-s.1) (0,[])
   ⟨Nat.zero_le _,rfl,hO,by rw[List.append_nil];exact pP,oB,fun c hc=>(by cases hc),h0,h5,h7⟩ ?_
  rintro⟨i,fs⟩ ρ H ⟨hi,hfl,hO,pP,oB,hfs,h0,h5,h7⟩
  simp only at hi hfl pP oB h7 hfs
  have el:=fM (o:=0) (n:=xs.length+room xs.length) (c:=xs.length+room xs.length) pP
  by_cases cQ:((xs.length+i:Nat):Int)<((xs.length+room xs.length:Nat):Int)
  ·have eL:pT true [.string ⟨#[]⟩] 1 [(0,.sc (.string ⟨#[126,115,112,97,114,101,126]⟩))] H=some (.ref H.length 0 0 1 1,H++[.row 0 [sV jF] 1 true]):=U0 rfl rfl rfl
   have Lc:=yE (L:=[.row 0 [sV jF] 1 true]) pP
   have bD:=F7 pP
   have e3:=bB (o:=0) (n:=xs.length+room xs.length) (c:=xs.length+room xs.length) (i:=xs.length+i) (k := .i64) Lc (by omega)
   have e4:=gA (j:=xs.length+i) (lo:=n) (v := .ref H.length 0 0 1 1) Lc (by simp;omega) (Nat.le_refl _) rfl rfl
   have DN:=Fo (cells++fs) (room xs.length-(i+1)) (.tree [] .nil) (.ref H.length 0 0 1 1)
   rw[show (cells++fs).length=xs.length+i by simp[kX,hfl],show room xs.length-(i+1)+1=room xs.length-i by omega] at DN
   rw[DN] at e4
   have wi:IntKind.i64.wrap (((xs.length+i:Nat):Int)+1)=((xs.length+(i+1):Nat):Int):=wrapN _ (by omega) (by omega)
   simp only[mB,h0,h5,h7,cQ,el,eL,e3,e4,wi,Nat.zero_add,VX,Nat.reduceEqDiff,Nat.reduceAdd]
   have Ck:∀b g x,n<b→aP H b g=some x→aP ((H++[fU.row 0 [sV jF] 1 true]).set n (fU.row 0 (cells++fs++[VV.ref H.length 0 0 1 1]++List.replicate (room xs.length-(i+1)) (VV.tree [] TK.nil)) 1 true)) b g=some x:=fun b g x hb h=>dQ (Nat.ne_of_lt hb) (yE h)
   refine⟨(i+1,fs++[.ref H.length 0 0 1 1]),by simp only;omega,by simp only;omega,by simp[hfl],?_,?_,?_,?_,by (repeat' apply And.intro)<;>first | rfl | trivial | assumption⟩
   ·refine(hO.app rfl).set (Nat.le_refl _) (wX.2 fun y hy => ?_)
    rcases List.mem_append.1 hy with hy | hy
    ·rcases List.mem_append.1 hy with hy | hy
     ·rcases List.mem_append.1 hy with hy | hy
      ·exact atP y hy
      ·exact(hfs y hy).cell.2.2 _ (Nat.le_refl _)
     ·rw[List.mem_singleton] at hy
      subst hy
      simp[qQ];omega
    ·rw[List.eq_of_mem_replicate hy]
     rfl
   ·rw[kM Lc]
    simp only[List.append_assoc]
   ·intro j z hz
    obtain⟨c',k1,k2⟩:=oB j z hz
    exact⟨c',k1,k2.eI Ck⟩
   ·intro c hc
    rcases List.mem_append.1 hc with hc | hc
    ·exact(hfs c hc).eI Ck
    ·rw[List.mem_singleton] at hc
     subst hc
     exact⟨_,bD,rfl,dQ (Nat.ne_of_lt bD) A8⟩
  ·have qR:i=room xs.length:=by omega
   subst qR
   simp only[mB,h0,h5,h7,cQ,el,VX,Nat.reduceEqDiff,Nat.reduceAdd]
   rw[Nat.sub_self,List.replicate_zero,List.append_nil] at pP
   exact hQ _ _ h0 h5 hO ⟨cells,fs,pP,kX,hfl,oB,hfs⟩
 have goal:∀(ρ0:cP),ρ0 0=jC xs→ρ0 1 = .sc (.bool bare)→ρ0 5 = .ref n 0 0 (xs.length+room xs.length) (xs.length+room xs.length)→True:=fun _ _ _ _=>trivial
 cases bare with
 |
  true =>
  have KR:=yY rfl
  simp only[qE,nT,KR,w1,em,iV,VX,Nat.reduceEqDiff,Nat.reduceAdd]
  refine main _ rfl rfl rfl rfl _ fun aZ H cells h0 h5 hO kX pP oB => ?_
  simp only[h0,h5,VX,Nat.reduceEqDiff,Nat.reduceAdd]
  refine Re _ _ cells (by exact h0) (by exact h5) rfl hO kX pP oB _ fun zC H h0 h5 hO hS => ?_
  obtain⟨cs,fs,k1,k2⟩:=hS
  have es:=qV (o:=0) (n:=xs.length+room xs.length) (c:=xs.length+room xs.length) (h:=xs.length) (k2 := .i64) k1 (by omega)
  simp only[h0,h5,es,VX,Nat.reduceEqDiff,Nat.reduceAdd]
  obtain⟨L,rfl,hL⟩:=hO
  exact⟨L,rfl,by simp[qQ],hL,.inr ⟨rfl,cs,fs,k1,k2⟩⟩
 |
  false =>
  simp only[qE,nT,w1,em,iV,VX,Nat.reduceEqDiff,Nat.reduceAdd]
  refine main _ rfl rfl rfl rfl _ fun aZ H cells h0 h5 hO kX pP oB => ?_
  simp only[h0,h5,VX,Nat.reduceEqDiff,Nat.reduceAdd]
  refine Re _ _ cells (by exact h0) (by exact h5) rfl hO kX pP oB _ fun zC H h0 h5 hO hS => ?_
  obtain⟨cs,fs,k1,k2⟩:=hS
  have es:=qV (o:=0) (n:=xs.length+room xs.length) (c:=xs.length+room xs.length) (h:=xs.length) (k2 := .i64) k1 (by omega)
  simp only[h0,h5,es,VX,Nat.reduceEqDiff,Nat.reduceAdd]
  obtain⟨L,rfl,hL⟩:=hO
  exact⟨L,rfl,by simp[qQ],hL,.inr ⟨rfl,cs,fs,k1,k2⟩⟩
end Go.PM
namespace Go.PM
structure YY where
 b:List ByteArray
 g:List (List ByteArray)
 e:List ByteArray
def svV (s:YY):VV := .agg [dI s.b,jC s.g,dI s.e]
theorem Zx (s:YY):aM (svV s)=true:=by
 show aJ [dI s.b,jC s.g,dI s.e]=true
 simp only[aJ,dG,tS,Bool.and_self]
mutual
theorem ME {n n':Nat} (h:n≤n') (v:VV) (hv:qQ n' v=true):qQ n v=true:=by
 cases v with
 | any=>cases hv
 | sc v=>exact hv
 | agg cs=>exact Dp h cs hv
 | dL cs=>exact Dp h cs hv
 | tree es k=>exact hv
 | cK=>cases hv
 | ref b g o n c=>simp only[qQ,decide_eq_true_eq] at hv ⊢;omega
 | ptr b g j o=>simp only[qQ,decide_eq_true_eq] at hv ⊢;omega
 | uG=>cases hv
theorem Dp {n n':Nat} (h:n≤n') (vs:List VV) (hv:yF n' vs=true):yF n vs=true:=by
 cases vs with
 | nil=>rfl
 |
  cons x xs =>
  simp only[yF,Bool.and_eq_true] at hv ⊢
  exact⟨ME h x hv.1,Dp h xs hv.2⟩
end
def N4 (n k:Nat) (H:aA):Prop:=∀(b g:Nat) (es:List VV) (e:Nat) (w:Bool),k≤b→H[b]? = some (.row g es e w)→yF n es=true
theorem N4.app {n k:Nat} {H L:aA} (h:N4 n k H) (hn:n≤H.length) (hL:kQ H.length L=true):N4 n k (H++L):=by
 intro b g es e w hb hr
 rcases Nat.lt_or_ge b H.length with bD | DT
 ·rw[List.getElem?_append_left bD] at hr
  exact h b g es e w hb hr
 ·rw[List.getElem?_append_right DT] at hr
  exact Dp hn _ (List.all_eq_true.1 hL _ (List.mem_of_getElem? hr))
theorem N4.set {n k b:Nat} {H:aA} {x:fU} (h:N4 n k H) (hb:b<k):N4 n k (H.set b x):=by
 intro b' g es e w yY hr
 rw[List.getElem?_set_ne (by omega)] at hr
 exact h b' g es e w yY hr
theorem Z2 {n k:Nat} {H:aA} (hk:n≤k) (hl:k≤H.length) (hO:N4 n k H):∃L,QB H (List.replicate n .dead++L)∧kQ n L=true∧∀b g x,k≤b→aP H b g=some x→aP (List.replicate n .dead++L) b g=some x:=by
 have e:List.replicate n fU.dead++(List.replicate (k-n) .dead++H.drop k)=List.replicate k .dead++H.drop k:=by
  rw[←List.append_assoc,List.replicate_append_replicate,Nat.add_sub_cancel' hk]
 have get:∀b,k≤b→(List.replicate k fU.dead++H.drop k)[b]? = H[b]? := fun b hb=>by
  rw[List.getElem?_append_right (by simpa using hb),List.length_replicate,List.getElem?_drop]
  congr 1
  omega
 refine⟨List.replicate (k-n) .dead++H.drop k,⟨?_,?_⟩,?_,?_⟩
 ·rw[e];simp;omega
 ·intro b g es e' w hb
  rw[e] at hb
  rcases Nat.lt_or_ge b k with h | h
  ·rw[List.getElem?_append_left (by simpa using h)] at hb
   have:=List.eq_of_mem_replicate (List.mem_of_getElem? hb)
   cases this
  ·rw[get b h] at hb
   exact hb
 ·unfold kQ
  rw[List.all_append,Bool.and_eq_true]
  constructor
  ·rw[List.all_eq_true]
   intro x hx
   rw[List.eq_of_mem_replicate hx]
  ·rw[List.all_eq_true]
   intro x hx
   obtain⟨j,hj⟩:=List.getElem?_of_mem hx
   rw[List.getElem?_drop] at hj
   cases x with
   | dead=>rfl
   | row g es e' w=>exact hO _ _ _ _ _ (Nat.le_add_right _ _) hj
 ·intro b g x hb h
  obtain⟨es,e',w⟩:=x
  rw[cN] at h ⊢
  rw[e,get b hb]
  exact h
def sM (n:Nat) (H:aA) (bare:Bool) (xs:List (List ByteArray)) (c:VV):Prop :=
 (bare=true∧xs=[]∧c = .tree [] .nil)∨∃b,n<b∧c = .ref b 0 0 xs.length (xs.length+room xs.length)∧sU H bare xs b
theorem sM.eI {n:Nat} {H H':aA} {bare:Bool} {xs:List (List ByteArray)} {c:VV} (h:sM n H bare xs c) (hk:∀b g x,n<b→aP H b g=some x→aP H' b g=some x):sM n H' bare xs c:=by
 rcases h with h | ⟨b,h1,h2,h3⟩
 ·exact .inl h
 ·exact .inr ⟨b,h1,h2,h3.eI fun b' g x hb=>hk b' g x (by omega)⟩
theorem sM.cell {n:Nat} {H:aA} {bare:Bool} {x:List (List ByteArray)} {c:VV} (h:sM n H bare x c):aB c=[c]∧cI c=true:=by
 rcases h with⟨_,_,rfl⟩ | ⟨b,h1,rfl,_⟩
 ·exact⟨rfl,rfl⟩
 ·exact⟨rfl,rfl⟩
theorem sU.fz {d b:Nat} {H:aA} {bare:Bool} {xs:List (List ByteArray)} (h:sU H bare xs b):PM.fz (d+3) H (.ref b 0 0 xs.length (xs.length+room xs.length))=some (jC xs):=by
 obtain⟨cells,A0,h1,h2,h3,h4,h5⟩:=h
 show PM.fz ((d+2)+1) H _=_
 unfold PM.fz
 have:aM (.ref b 0 0 xs.length (xs.length+room xs.length))=false:=rfl
 simp only[this,h1,Bool.false_eq_true,if_false]
 rw[if_pos ⟨by simp;omega,Nat.le_add_right _ _⟩,List.drop_zero,List.take_left' h2]
 have:∀(xs:List (List ByteArray)) (cells:List VV),cells.length=xs.length→(∀(i:Nat) x,xs[i]? = some x→∃c,cells[i]? = some c∧sY b H bare x c)→cells.mapM (PM.fz (d+2) H)=some (xs.map dI):=by
  intro xs
  induction xs with
  |
   nil=>intro cells hl _;cases cells with
   | nil=>rfl
   | cons=>cases hl
  |
   cons x xs ih =>
   intro cells hl hc
   cases cells with
   | nil=>cases hl
   |
    cons c cells =>
    obtain⟨c',k1,k2⟩:=hc 0 x rfl
    injection k1 with k1
    subst k1
    rw[List.mapM_cons,k2.fz,ih cells (by simpa using hl) fun i x hx=>hc (i+1) x hx]
    rfl
 rw[this xs cells h2 h4]
 rfl
theorem Kd {d:Nat} {H:aA}:PM.fz (d+1) H (.tree [] .nil)=some (.tree [] .op):=by
 unfold PM.fz
 have:aM (.tree [] .nil)=false:=rfl
 simp only[this,Bool.false_eq_true,if_false]
 rfl
theorem sM.fz {n d:Nat} {H:aA} {bare:Bool} {xs:List (List ByteArray)} {c:VV} (h:sM n H bare xs c):PM.fz (d+3) H c=some (jC xs):=by
 rcases h with⟨_,rfl,rfl⟩ | ⟨b,h1,rfl,h3⟩
 ·exact Kd
 ·exact h3.fz
def Cx (n:Nat) (H:aA) (bare:Bool) (s:YY) (r:VV):Prop:=∃c0 c1 c2,r = .agg [c0,c1,c2]∧sY n H bare s.b c0∧sM n H bare s.g c1∧sY n H bare s.e c2
theorem Cx.eI {n:Nat} {H H':aA} {bare:Bool} {s:YY} {c:VV} (h:Cx n H bare s c) (hk:∀b g x,n<b→aP H b g=some x→aP H' b g=some x):Cx n H' bare s c:=by
 obtain⟨c0,c1,c2,rfl,h0,h1,h2⟩:=h
 exact⟨c0,c1,c2,rfl,h0.eI hk,h1.eI hk,h2.eI hk⟩
theorem Cx.pre {n:Nat} {H H':aA} {bare:Bool} {s:YY} {c:VV} (h:Cx n H bare s c) (hh:H <+: H'):Cx n H' bare s c:=h.eI fun _ _ _ _=>eR hh
theorem Cx.fz {n:Nat} {H:aA} {bare:Bool} {s:YY} {c:VV} (h:Cx n H bare s c):PM.fz depth H c=some (svV s):=by
 obtain⟨c0,c1,c2,rfl,h0,h1,h2⟩:=h
 cases hp:aM (.agg [c0,c1,c2]) with
 |
  true =>
  simp only[aM,aJ,Bool.and_eq_true] at hp
  have f0:=h0.fz (d:=0)
  have f1:=h1.fz (d:=0)
  have f2:=h2.fz (d:=0)
  rw[aH hp.1] at f0
  rw[aH hp.2.1] at f1
  rw[aH hp.2.2.1] at f2
  injection f0 with f0
  injection f1 with f1
  injection f2 with f2
  subst f0 f1 f2
  exact aG (Zx s)
 |
  false =>
  show PM.fz (7+1) H _=_
  unfold PM.fz
  simp only[hp,Bool.false_eq_true,if_false]
  rw[List.mapM_cons,h0.fz (d:=5),List.mapM_cons,h1.fz (d:=4),List.mapM_cons,h2.fz (d:=5)]
  rfl
theorem alG {n m lo:Nat} {xs:List (List ByteArray)} {bare:Bool} {H:aA} {K:VV→aA→Prop} (hl:xs.length≤1000000000) (hx:∀x∈xs,x.length≤1000000000) (hn:n≤H.length) (hm:m<H.length) (hO:N4 n (m+1) H)
  (hk:∀c H',H <+: H'→N4 n (m+1) H'→sM m H' bare xs c→qQ n c=true→K c H'):cT 67 [jC xs,.sc (.bool bare)] lo H K:=by
 refine(Gh xs bare hl hx).anD rfl (mapM_pure (n:=7) (by simp[aJ,tS];rfl)) ?_
 rintro r L hR hv hL
 refine hk r _ (List.prefix_append _ _) (hO.app hn hL) ?_ (ME hn _ hv)
 rcases hR with⟨hb,rfl,rfl,rfl⟩ | ⟨rfl,h⟩
 ·exact .inl ⟨hb,rfl,rfl⟩
 ·exact .inr ⟨_,hm,rfl,h.eI fun b' g x hb h=>Hb hb h⟩
end Go.PM
namespace Go.Proofs.YtodamlihdkalfaaGreatDoor
open Go.ChangeShapes Go.WideShapes Go.ChangeAt Go.RowKit Go.PM
theorem JN {P:Program} {W:World} {base:Nat} {u e:TypeId} {v:Value} (ht:P.underlying u=some (.slice e)) (h:Cell.okWide P W .any base u v) (hB:¬tZ W):v = .slice none 0 0:=by
 simp only[Cell.okWide,ht,Cell.ok] at h
 split at h
 case h_7=>rfl
 case h_9 =>
  obtain⟨_,_,_,_,row,n,hs,_⟩:=h
  exfalso
  apply hB
  unfold World.shape? at hs
  split at hs
  ·rename_i arr e' fz hb
   exact⟨_,arr,e',fz,hb⟩
  ·cases hs
 all_goals first | exact h.elim | (rename_i hx;cases hx) | (rename_i hx _;cases hx)
theorem K2 {T:Type} {sT:TypeId×Value→T} {W:World} (hB:tZ W):En sT Tryz.prog W 22 1 fun vs=>∃s:List ByteArray,s.length≤maxLen∧(∀x∈s,x.size≤maxLen)∧vs=[dI s] :=
 HM (f:=sV) (Y3:=fun x=>x.size≤maxLen) Tryz.underlying22 (by kernel_rfl) (by decide) hB Hv (NF Tryz.underlying9)
theorem Rt {T:Type} {sT:TypeId×Value→T} {W:World} (hB:tZ W):En sT Tryz.prog W 23 1 fun vs=>∃s:List (List ByteArray),s.length≤maxLen∧(∀x∈s,x.length≤maxLen∧∀y∈x,y.size≤maxLen)∧vs=[jC s]:=by
 refine HM (f:=dI) (Y3:=fun x=>x.length≤maxLen∧∀y∈x,y.size≤maxLen) Tryz.underlying23 (by kernel_rfl) (by decide) hB (fun _=>rfl) ?_
 intro fuel cs y h m H hI
 obtain⟨hl,m',L,E3,vs,ho,s,h1,h2,rfl⟩:=K2 hB fuel cs y h m H hI
 exact⟨hl,m',L,E3,_,ho,s,⟨h1,h2⟩,rfl⟩
theorem Qr (xs:List Value) (i:Nat):xs.toArray.getD i Go.undef=xs.getD i Go.undef:=by
 simp[Array.getD_eq_getD_getElem?,List.getD_eq_getElem?_getD]
end Go.Proofs.YtodamlihdkalfaaGreatDoor
namespace Go.Proofs.YtodamlihdkalfaaGreatDoor
open Go.ChangeShapes Go.WideShapes Go.ChangeAt Go.RowKit Go.PM
theorem Vh {T:Type} {sT:TypeId×Value→T} {P:Program} {W:World} {t:TypeId} {v:Value} {d:DataW T} {ps:List MemPlace} {m:cZ} {H:aE} {S:VV→Prop} (ho:tZ W→En sT P W t 1 fun vs=>∃x,S x∧vs=[x]) (hno:¬tZ W→v = .slice none 0 0) (h0:S (.tree [] .op)) (hc:v.cells.toList=[v])
  (h:DataW.Trod sT P W 0 (fun _=>true) true t v d ps) (hI:In m H W):∃m' L pv x,In m' (H++L) W∧(∀b l,m b=some l→m' b=some l)∧RV m' pv v∧VR (bare (· < (H++L).length) (H++L)) x pv∧S x:=by
 by_cases hB:tZ W
 ·obtain⟨fuel,hf⟩:=h
  rw[hc] at hf
  obtain⟨hl,m',L,E3,vs,hop,x,hx,rfl⟩:=ho hB fuel _ _ hf m H hI
  have hlen:=hop.len
  match E3,hlen with
  |
   [p],_ =>
   have hr:=hop.rv 0 (by simp)
   have ht:=hop.tree
   cases ht with
   | cons _ _ _ _ h1 h2=>exact⟨m',L,p,x,hop.inn,hop.ext,hr,h1,hx⟩
 ·have:=hno hB
  subst this
  exact⟨m,[],.slice none 0 0,.tree [] .op,by rw[List.append_nil];exact hI,fun _ _ h=>h,.Ky,.nG _ (.inl rfl),h0⟩
theorem Rb {P:Program} {W:World} {base:Nat} {u e:TypeId} {v:Value} (ht:P.underlying u=some (.slice e)) (h:Value.okWide P W .any base u v) (hB:¬tZ W):v = .slice none 0 0:=by
 obtain⟨a,n,c,rfl⟩:=okWide_slice ht h
 simp only[Value.okWide,ht] at h
 exact JN ht h hB
theorem P3 {P:Program} {W:World} {base:Nat} {u e:TypeId} {v:Value} (ht:P.underlying u=some (.slice e)) (h:Value.okWide P W .any base u v):v.cells.toList=[v]:=by
 obtain⟨a,n,c,rfl⟩:=okWide_slice ht h
 rfl
set_option maxRecDepth 100000 in
theorem Va {T:Type} {sT:TypeId×Value→T} {W:World} {v:Value} {d:DataW T} {ps:List MemPlace} {base:Nat} {m:cZ} {H:aE} (h:DataW.Trod sT Tryz.prog W 0 (fun _=>true) true 22 v d ps) (hv:Value.okWide Tryz.prog W .any base 22 v) (hI:In m H W) :
  ∃m' L pv s,In m' (H++L) W∧(∀b l,m b=some l→m' b=some l)∧RV m' pv v∧VR (bare (· < (H++L).length) (H++L)) (dI s) pv∧okS s:=by
 obtain⟨m',L,pv,x,h1,h2,h3,h4,s,hs,rfl⟩:=Vh (S:=fun x=>∃s:List ByteArray,okS s∧x=dI s) (fun hB fuel cs y h m H hI=>by
  obtain⟨hl,m',L,E3,vs,ho,s,h1,h2,rfl⟩:=K2 hB fuel cs y h m H hI
  exact⟨hl,m',L,E3,_,ho,_,⟨s,⟨h1,h2⟩,rfl⟩,rfl⟩) (Rb Tryz.underlying22 hv) ⟨[],⟨Nat.zero_le _,fun x hx=>(by cases hx)⟩,rfl⟩ (P3 Tryz.underlying22 hv) h hI
 exact⟨m',L,pv,s,h1,h2,h3,h4,hs⟩
end Go.Proofs.YtodamlihdkalfaaGreatDoor
namespace Go.PM
end Go.PM
namespace Go.PM
theorem Ry {b d:Nat} {H:aA}:∀ {A0:List VV},(∀c∈A0,Ek b H c)→A0.mapM (PM.fz (d+2) H)=some ((List.replicate A0.length [jF]).map dI)
 | [],_=>rfl
 |
  c::A0,h=>by
  rw[List.mapM_cons,(h c List.mem_cons_self).fz,Ry fun c hc=>h c (List.mem_cons_of_mem _ hc)]
  rfl
theorem sU.Tw {b:Nat} {H:aA} {bare:Bool} {xs:List (List ByteArray)} (h:sU H bare xs b):PM.fz depth H (.ref b 0 xs.length (room xs.length) (room xs.length))=some (jC (List.replicate (room xs.length) [jF])):=by
 obtain⟨cells,A0,h1,h2,h3,h4,h5⟩:=h
 show PM.fz (7+1) H _=_
 unfold PM.fz
 have:aM (.ref b 0 xs.length (room xs.length) (room xs.length))=false:=rfl
 simp only[this,h1,Bool.false_eq_true,if_false]
 rw[if_pos ⟨by simp;omega,Nat.le_refl _⟩,List.drop_left' h2,List.take_of_length_le (by omega),Ry (d:=5) h5,h3]
 rfl
theorem sU.get {b i:Nat} {H:aA} {xs:List (List ByteArray)} {x:List ByteArray} (h:sU H false xs b) (hx:xs[i]? = some x) :
  ∃b',dN false 1 (.ptr b 0 i 0) H=some (.ref b' 0 0 x.length (x.length+room x.length))∧aP H b' 0=some ((iI jF x).map sV,1,true):=by
 obtain⟨cells,A0,h1,h2,h3,h4,h5⟩:=h
 obtain⟨c,k1,k2⟩:=h4 i x hx
 rcases k2 with⟨k,_⟩ | ⟨b',_,rfl,k3⟩
 ·cases k
 ·refine⟨b',?_,k3⟩
  rw[jB,h1]
  simp only[List.getElem?_append_left (List.getElem?_eq_some_iff.1 k1).1,k1]
  rfl
theorem Cg {lo b b':Nat} {H:aA} (xs:List (List ByteArray)) (hn:xs.length≤400000000) (hx:∀x∈xs,x.length≤400000000) (hX:sU H false xs b) (hY:sU H false xs b') {K:VV→aA→Prop} (hk:K (.sc (.bool true)) H) :
  cT 70 [.ref b 0 0 xs.length (xs.length+room xs.length),.ref b' 0 0 xs.length (xs.length+room xs.length)] lo H K:=by
 refine kI rfl (oO.walk ⟨true,false⟩ Ci (Nat.le_of_ble_eq_true rfl) ?_)
 have hr:=room_le xs.length
 have w1:IntKind.i64.wrap ((xs.length:Int)+(room xs.length:Int))=((xs.length+room xs.length:Nat):Int):=wrapN _ (by omega) (by omega)
 have gX:=fun i x h=>hX.get (i:=i) (x:=x) h
 have gY:=fun i x h=>hY.get (i:=i) (x:=x) h
 have fX:=hX.Tw
 have fY:=hY.Tw
 obtain⟨cX,eX,rX,_⟩:=hX
 obtain⟨cY,eY,rY,_⟩:=hY
 have l1:=fM (o:=0) (n:=xs.length) (c:=xs.length+room xs.length) rX
 have l2:=fM (o:=0) (n:=xs.length) (c:=xs.length+room xs.length) rY
 have e1:=Kw (o:=0) (n:=xs.length) (c:=xs.length+room xs.length) (l:=xs.length) (h:=xs.length+room xs.length) (k1 := .i64) (k2 := .i64) rX (Nat.le_add_right _ _) (Nat.le_refl _)
 have e2:=Kw (o:=0) (n:=xs.length) (c:=xs.length+room xs.length) (l:=xs.length) (h:=xs.length+room xs.length) (k1 := .i64) (k2 := .i64) rY (Nat.le_add_right _ _) (Nat.le_refl _)
 rw[Nat.add_sub_cancel_left,Nat.zero_add] at e1 e2
 have e3:=(Fa (List.replicate (room xs.length) [jF]) (List.replicate (room xs.length) [jF]) (by simp;omega) (fun x hx=>by rw[List.eq_of_mem_replicate hx];decide)).flat (H:=H) rfl (by simp[aJ,tS]) (fz2 fX fY) rfl
 simp only[vN,sX,iV,l1,l2,w1,eq_self,VX,Nat.reduceEqDiff,Nat.reduceAdd]
 refine bC (fun(i:Nat) ρ H1=>i≤xs.length∧H1=H∧ρ 0 = .ref b 0 0 xs.length (xs.length+room xs.length)∧ρ 1 = .ref b' 0 0 xs.length (xs.length+room xs.length)∧ρ 5=VI (xs.length+room xs.length:Nat)∧ρ 6=VI i) (fun i=>xs.length-i) 0 ⟨Nat.zero_le _,rfl,rfl,rfl,rfl,rfl⟩ ?_
 rintro i ρ H1 ⟨hi,rfl,h0,h1,h5,h6⟩
 by_cases cQ:(i:Int)<(xs.length:Int)
 ·obtain⟨x,G6⟩:∃x,xs[i]? = some x:=⟨_,List.getElem?_eq_getElem (by omega)⟩
  obtain⟨bx,vx,ux⟩:=gX i x G6
  obtain⟨bY,vy,uy⟩:=gY i x G6
  have a1:=bB (o:=0) (n:=xs.length) (c:=xs.length+room xs.length) (i:=i) (k := .i64) rX (by omega)
  have a2:=bB (o:=0) (n:=xs.length) (c:=xs.length+room xs.length) (i:=i) (k := .i64) rY (by omega)
  have wi:IntKind.i64.wrap ((i:Int)+1)=((i+1:Nat):Int):=wrapN (i+1) (by omega) (by omega)
  simp only[mU,h0,h1,h6,cQ,l2,a1,a2,vx,vy,Nat.zero_add,VX,Nat.reduceEqDiff,Nat.reduceAdd]
  refine uO x (hx x (List.mem_of_getElem? G6)) ux uy ?_
  simp only[h6,wi,VX,Nat.reduceEqDiff,Nat.reduceAdd]
  exact⟨i+1,by omega,by omega,by (repeat' apply And.intro)<;>first | rfl | trivial | assumption⟩
 ·have qR:i=xs.length:=by omega
  subst qR
  simp only[mU,h0,h1,h5,h6,cQ,l2,e1,e2,e3,VX,Nat.reduceEqDiff,Nat.reduceAdd]
  exact hk
theorem sY.ref {n:Nat} {H:aA} {x:List ByteArray} {c:VV} (h:sY n H false x c):∃b,c = .ref b 0 0 x.length (x.length+room x.length)∧aP H b 0=some ((iI jF x).map sV,1,true):=by
 rcases h with⟨k,_⟩ | ⟨b',_,rfl,k3⟩
 ·cases k
 ·exact⟨b',rfl,k3⟩
theorem sM.ref {n:Nat} {H:aA} {x:List (List ByteArray)} {c:VV} (h:sM n H false x c):∃b,c = .ref b 0 0 x.length (x.length+room x.length)∧sU H false x b:=by
 rcases h with⟨k,_⟩ | ⟨b',_,rfl,k3⟩
 ·cases k
 ·exact⟨b',rfl,k3⟩
end Go.PM
namespace Go.PM
def Cn:aD:=(LS [LO 0 (.new [(.bool false),(.slice none 0 0),(.slice none 0 0)])] (LS [LO 1 (.call 166 [(LI 0)]),LN (.store 3 (LT 0) (LT 1))] .ret))
def F3:aV:=⟨2,[(.cell 0 true 3)],Cn⟩
theorem JK:gT 136=some F3:=by kernel_rfl
def uL:aD:=(LS [LO 2 (.box (LT 0)),LO 3 (.box (LT 1)),LO 4 (.new [(.bool false),(.slice none 0 0),(.slice none 0 0)])] (LS [LO 8 (LA 1 2),LO 9 (LL 8),LO 10 (LA 2 3),LO 11 (LL 10),LO 12 (.call 162 [(LT 9),(LT 11)]),LM 5 12] (LS [LO 13 (LA 1 3),LO 14 (LL 13),LO 15 (LA 2 2),LO 16 (LL 15),LO 17 (.call 162 [(LT 14),(LT 16)]),LM 6 17] (LS [LO 18 (LA 2 2),LO 19 (LL 18),LO 20 (LA 2 3),LO 21 (LL 20),LO 22 (.call 162 [(LT 19),(LT 21)]),LM 7 22] (.seq (LS [LO 23 (LA 0 2),LO 24 (LL 23),LO 25 (LA 0 3),LO 26 (LL 25),LO 27 (.eqb false (LT 24) (LT 26))] (.cond (LT 27) (LS [LO 28 (LA 0 2),LO 29 (LL 28),LM 30 5,LM 31 6,LQ 32 (.call 177 [(LT 30),(LT 31)]),LM 33 7,LQ 34 (.call 164 [(LT 29),(LT 32),(LT 33)]),LN (.store 3 (LT 4) (LT 34))] .ret) .skip)) (.seq (LS [LM 35 5,LM 36 6,LO 37 (.call 178 [(LT 35),(LT 36)]),LO 38 (.bin .geq (LT 37) (LI 0))] (.cond (LT 38) (LS [LO 39 (LA 0 2),LO 40 (LL 39),LM 41 5,LM 42 6,LQ 43 (.call 179 [(LT 41),(LT 42)]),LM 44 7,LQ 45 (.call 164 [(LT 40),(LT 43),(LT 44)]),LN (.store 3 (LT 4) (LT 45))] .ret) .skip)) (LS [LO 46 (LA 0 3),LO 47 (LL 46),LM 48 6,LM 49 5,LQ 50 (.call 179 [(LT 48),(LT 49)]),LM 51 7,LQ 52 (.call 164 [(LT 47),(LT 50),(LT 51)]),LN (.store 3 (LT 4) (LT 52))] .ret)))))))
def Aa:aV:=⟨53,[(.cell 4 true 3)],uL⟩
theorem LB:gT 94=some Aa:=by kernel_rfl
def BO:aD:=(LS [LO 2 (.box (LT 0)),LO 3 (.box (LT 1)),LO 4 (.new [(.bool false),(.slice none 0 0),(.slice none 0 0)])] (LS [LO 5 (LA 0 2),LO 6 (LL 5),LO 7 (LA 0 3),LO 8 (LL 7),LO 9 (.eqb true (LT 6) (LT 8)),LO 10 (LA 1 2),LO 11 (LL 10),LO 12 (LA 1 3),LO 13 (LL 12),LQ 14 (.call 162 [(LT 11),(LT 13)]),LO 15 (LA 2 2),LO 16 (LL 15),LO 17 (LA 2 3),LO 18 (LL 17),LQ 19 (.call 162 [(LT 16),(LT 18)]),LQ 20 (.call 164 [(LT 9),(LT 14),(LT 19)]),LN (.store 3 (LT 4) (LT 20))] .ret))
def DY:aV:=⟨21,[(.cell 4 true 3)],BO⟩
theorem IW:gT 137=some DY:=by kernel_rfl
def Ag:aD:=(LS [LO 2 (.new [(.bool false),(.slice none 0 0),(.slice none 0 0)])] (.seq (LS [LM 3 0,LO 4 (.bin .lss (LT 3) (LI 0))] (.cond (LT 4) (LS [LM 5 0,LO 6 (.un .neg (LT 5)),LO 7 (.call 161 [(LT 6)]),LO 8 (.lit [(.int .i64 0)] 1 [(0,(LI 1))]),LO 9 (.build [(.bool false),(.slice none 0 0),(.slice none 0 0)] [(0,1),(1,1),(2,1)] [(0,LG),(1,(LT 7)),(2,(LT 8))]),LN (.store 3 (LT 2) (LT 9))] .ret) .skip)) (LS [LM 10 0,LO 11 (.call 161 [(LT 10)]),LO 12 (.lit [(.int .i64 0)] 1 [(0,(LI 1))]),LO 13 (.build [(.bool false),(.slice none 0 0),(.slice none 0 0)] [(0,1),(1,1),(2,1)] [(1,(LT 11)),(2,(LT 12))]),LN (.store 3 (LT 2) (LT 13))] .ret)))
def CT:aV:=⟨14,[(.cell 2 true 3)],Ag⟩
theorem LW:gT 166=some CT:=by kernel_rfl
def qH:aD:=(LS [LO 2 (.box (LT 0)),LO 3 (.box (LT 1)),LO 4 (.mv LF)] (LS [LO 5 (LA 0 2),LO 6 (LL 5),LO 7 (LA 0 3),LO 8 (LL 7),LO 9 (.eqb false (LT 6) (LT 8)),LM 10 9,LY 10 11 (LA 1 2),LY 10 12 (LL 11),LY 10 13 (LA 2 3),LY 10 14 (LL 13),⟨(some 15),(.call 162 [(LT 12),(LT 14)]),(some (10,true)),true,[]⟩,LY 10 16 (LA 1 3),LY 10 17 (LL 16),LY 10 18 (LA 2 2),LY 10 19 (LL 18),⟨(some 20),(.call 162 [(LT 17),(LT 19)]),(some (10,true)),true,[]⟩,⟨(some 21),(.call 178 [(LT 15),(LT 20)]),(some (10,true)),true,[]⟩,LY 10 22 (.bin .eql (LT 21) (LI 0)),LO 23 (.pick (LT 10) (LT 22) LF),LM 4 23] .ret))
def uD:aV:=⟨24,[(.tmp 4)],qH⟩
theorem IG:gT 197=some uD:=by kernel_rfl
def pX:aD:=(LS [LO 15 (.bin .lss (LT 14) (LT 13))] (.seq (.cond (LT 15) .skip (.exit 0)) (.seq (.block 1 (LS [LM 16 14,LM 5 16] (LS [LM 18 0,LM 19 5,LO 20 (.iaddr 1 (LT 18) (LT 19)),LO 21 (LL 20),LO 22 (.call 175 [(LT 21)]),LM 17 22,LO 23 (LX 17 0),LO 24 (LX 17 1),LO 6 (.new [(.bool false),(.slice none 0 0),(.slice none 0 0)]),LN (.store 3 (LT 6) (LT 23)),LM 7 24] (.seq (LS [LM 25 7,LO 26 (.un .not (LT 25))] (.cond (LT 26) (LS [LO 2 (.mv (.const (.slice none 0 0))),LO 3 (.mv LF)] .ret) .skip)) (.dT [LM 27 4,LO 28 (LK 6),LO 29 (.lit [(.bool false),(.slice none 0 0),(.slice none 0 0)] 1 [(0,(LT 28))]),LO 30 (.app 3 56 (LT 27) (LT 29)),LM 4 30]))))) (.dT [LO 31 (.bin .add (LT 14) (LI 1)),LM 14 31]))))
def xQ:aD:=(LS [LO 2 (.mv (.const (.slice none 0 0))),LO 3 (.mv LF)] (.seq (LS [LM 8 0,LO 9 (.len (LT 8)),LO 10 (.bin .gtr (LT 9) (LI 300))] (.cond (LT 10) (LS [LO 2 (.mv (.const (.slice none 0 0))),LO 3 (.mv LF)] .ret) .skip)) (LS [LO 11 (.lit [(.bool false),(.slice none 0 0),(.slice none 0 0)] 0 []),LM 4 11] (.seq (LS [LM 12 0,LO 13 (.len (LT 12)),LO 14 (.mv (LI 0))] (.block 0 (.loop pX))) (LS [LM 32 4,LM 2 32,LO 3 (.mv LG)] .ret)))))
def Bj:aV:=⟨33,[(.tmp 2),(.tmp 3)],xQ⟩
theorem Kl:gT 115=some Bj:=by kernel_rfl
def sI:aD:=(LS [LO 2 (.mv LF)] (LS [LM 3 0,LO 4 (.call 140 [(LT 3)]),LM 5 4,LY 5 6 (.mv (LT 0)),LY 5 7 (.call 142 [(LT 6)]),LY 5 8 (.call 124 []),LY 5 9 (.call 197 [(LT 7),(LT 8)]),LO 10 (.pick (LT 5) (LT 9) LF),LM 2 10] .ret))
def vD:aV:=⟨11,[(.tmp 2)],sI⟩
theorem Fc:gT 116=some vD:=by kernel_rfl
def xP:aD:=(LS [LO 1 (.box (LT 0)),LO 2 (.mv (.const (.string ⟨#[]⟩))),LO 3 (.mv LF)] (.seq (LS [LO 4 (LK 1),LO 5 (.call 176 [(LT 4)]),LO 6 (.un .not (LT 5))] (.cond (LT 6) (LS [LO 2 (.mv (.const (.string ⟨#[]⟩))),LO 3 (.mv LF)] .ret) .skip)) (LS [LO 7 (LK 1),LO 8 (.call 163 [(LT 7)]),LM 2 8,LO 3 (.mv LG)] .ret)))
def BN:aV:=⟨9,[(.tmp 2),(.tmp 3)],xP⟩
theorem Jx:gT 93=some BN:=by kernel_rfl
def Ej:aD:=(LS [LO 0 (.new [(.bool false),(.slice none 0 0),(.slice none 0 0)])] (LS [LO 1 (.call 166 [(LI 1)]),LN (.store 3 (LT 0) (LT 1))] .ret))
def HH:aV:=⟨2,[(.cell 0 true 3)],Ej⟩
theorem L8:gT 124=some HH:=by kernel_rfl
def lG:aD:=(LS [LO 7 (.bin .lss (LT 6) (LT 5))] (.seq (.cond (LT 7) .skip (.exit 0)) (.seq (.block 1 (LS [LM 8 6,LM 3 8] (LS [LM 9 0,LM 10 3,LO 11 (.iaddr 3 (LT 9) (LT 10)),LO 12 (LA 0 11),LO 13 (LL 12)] (.cond (LT 13) (LS [LO 2 (.mv LF)] .ret) .skip)))) (.dT [LO 14 (.bin .add (LT 6) (LI 1)),LM 6 14]))))
def yL:aD:=(LS [LO 2 (.mv LF)] (.seq (LS [LM 4 0,LO 5 (.len (LT 4)),LO 6 (.mv (LI 0))] (.block 0 (.loop lG))) (LS [LO 2 (.mv LG)] .ret)))
def Bb:aV:=⟨15,[(.tmp 2)],yL⟩
theorem E2:gT 140=some Bb:=by kernel_rfl
def tA:aD:=(LS [LO 9 (.bin .lss (LT 8) (LT 7))] (.seq (.cond (LT 9) .skip (.exit 0)) (.seq (.block 1 (LS [LM 10 8,LM 4 10] (.dT [LO 11 (LK 3),LM 12 0,LM 13 4,LO 14 (.iaddr 3 (LT 12) (LT 13)),LO 15 (LK 14),LQ 16 (.call 94 [(LT 11),(LT 15)]),LN (.store 3 (LT 3) (LT 16))]))) (.dT [LO 17 (.bin .add (LT 8) (LI 1)),LM 8 17]))))
def B0:aD:=(LS [LO 2 (.new [(.bool false),(.slice none 0 0),(.slice none 0 0)])] (LS [LO 5 (.call 136 []),LO 3 (.new [(.bool false),(.slice none 0 0),(.slice none 0 0)]),LN (.store 3 (LT 3) (LT 5))] (.seq (LS [LM 6 0,LO 7 (.len (LT 6)),LO 8 (.mv (LI 0))] (.block 0 (.loop tA))) (LS [LO 18 (LK 3),LN (.store 3 (LT 2) (LT 18))] .ret))))
def Em:aV:=⟨19,[(.cell 2 true 3)],B0⟩
theorem IH:gT 142=some Em:=by kernel_rfl
def jZ:aD:=(LS [LO 6 (.new [(.bool false),(.slice none 0 0),(.slice none 0 0)])] (LS [LM 8 1,LM 9 2,LO 10 (.call 213 [(LT 8),(LT 9)]),LM 7 10] (.seq (LS [LM 11 7,LO 12 (.lit [(.int .i64 0)] 1 [(0,(LI 1))]),LO 13 (.call 178 [(LT 11),(LT 12)]),LO 14 (.bin .neq (LT 13) (LI 0))] (.cond (LT 14) (LS [LM 16 1,LM 17 7,LO 18 (.call 214 [(LT 16),(LT 17)]),LM 15 18,LO 19 (LX 15 0),LO 20 (LX 15 1),LM 1 19] (.dT [LM 22 2,LM 23 7,LO 24 (.call 214 [(LT 22),(LT 23)]),LM 21 24,LO 25 (LX 21 0),LO 26 (LX 21 1),LM 2 25])) .skip)) (LS [LM 27 0,LM 28 27,LY 28 29 (.mv (LT 1)),LY 28 30 (.len (LT 29)),LY 28 31 (.bin .gtr (LT 30) (LI 0)),LO 32 (.pick (LT 28) (LT 31) LF),LM 33 1,LM 34 2,LO 35 (.build [(.bool false),(.slice none 0 0),(.slice none 0 0)] [(0,1),(1,1),(2,1)] [(0,(LT 32)),(1,(LT 33)),(2,(LT 34))]),LN (.store 3 (LT 6) (LT 35))] .ret))))
def mM:aV:=⟨36,[(.cell 6 true 3)],jZ⟩
theorem Kh:gT 164=some mM:=by kernel_rfl
def oK:aD:=(.seq (LS [LM 19 5,LO 20 (.bin .geq (LT 19) (LI 0))] (.cond (LT 20) .skip (.exit 0))) (.seq (.block 1 (LS [LM 23 0,LM 24 5,LO 25 (.iaddr 1 (LT 23) (LT 24)),LO 26 (LL 25),LM 27 1,LM 28 5,LO 29 (.iaddr 1 (LT 27) (LT 28)),LO 30 (LL 29),LO 31 (.bin .neq (LT 26) (LT 30))] (.cond (LT 31) (.seq (LS [LM 32 0,LM 33 5,LO 34 (.iaddr 1 (LT 32) (LT 33)),LO 35 (LL 34),LM 36 1,LM 37 5,LO 38 (.iaddr 1 (LT 36) (LT 37)),LO 39 (LL 38),LO 40 (.bin .lss (LT 35) (LT 39))] (.cond (LT 40) (LS [LO 4 (.mv (LI (-1)))] .ret) .skip)) (LS [LO 4 (.mv (LI 1))] .ret)) .skip))) (.dT [LM 21 5,LO 22 (.bin .sub (LT 21) (LI 1)),LM 5 22])))
def uJ:aD:=(LS [LO 4 (.mv (LI 0))] (.seq (LS [LM 6 0,LO 7 (.len (LT 6)),LM 8 1,LO 9 (.len (LT 8)),LO 10 (.bin .neq (LT 7) (LT 9))] (.cond (LT 10) (.seq (LS [LM 11 0,LO 12 (.len (LT 11)),LM 13 1,LO 14 (.len (LT 13)),LO 15 (.bin .lss (LT 12) (LT 14))] (.cond (LT 15) (LS [LO 4 (.mv (LI (-1)))] .ret) .skip)) (LS [LO 4 (.mv (LI 1))] .ret)) .skip)) (.seq (LS [LM 16 0,LO 17 (.len (LT 16)),LO 18 (.bin .sub (LT 17) (LI 1)),LM 5 18] (.block 0 (.loop oK))) (LS [LO 4 (.mv (LI 0))] .ret))))
def zL:aV:=⟨41,[(.tmp 4)],uJ⟩
theorem LD:gT 178=some zL:=by kernel_rfl
def sG:aD:=(LS [LO 24 (.bin .lss (LT 23) (LT 22))] (.seq (.cond (LT 24) .skip (.exit 2)) (.seq (.block 3 (LS [LM 25 23,LM 8 25] (LS [LM 26 5,LM 27 6,LM 28 8,LO 29 (.bin .add (LT 27) (LT 28)),LO 30 (.iaddr 1 (LT 26) (LT 29)),LO 31 (LL 30),LM 32 0,LM 33 6,LO 34 (.iaddr 1 (LT 32) (LT 33)),LO 35 (LL 34),LM 36 1,LM 37 8,LO 38 (.iaddr 1 (LT 36) (LT 37)),LO 39 (LL 38),LO 40 (.bin .mul (LT 35) (LT 39)),LO 41 (.bin .add (LT 31) (LT 40)),LM 42 7,LO 43 (.bin .add (LT 41) (LT 42)),LM 9 43] (LS [LM 44 5,LM 45 6,LM 46 8,LO 47 (.bin .add (LT 45) (LT 46)),LM 48 9,LO 49 (.bin .rem (LT 48) (LI 1000000000)),LO 50 (.iaddr 1 (LT 44) (LT 47)),LN (.store 1 (LT 50) (LT 49))] (.dT [LM 51 9,LO 52 (.bin .quo (LT 51) (LI 1000000000)),LM 7 52]))))) (.dT [LO 53 (.bin .add (LT 23) (LI 1)),LM 23 53]))))
def rL:aD:=(LS [LO 19 (.bin .lss (LT 18) (LT 17))] (.seq (.cond (LT 19) .skip (.exit 0)) (.seq (.block 1 (LS [LM 20 18,LM 6 20] (LS [LO 7 (.mv (LI 0))] (.seq (LS [LM 21 1,LO 22 (.len (LT 21)),LO 23 (.mv (LI 0))] (.block 2 (.loop sG))) (.dT [LM 54 5,LM 55 6,LM 56 1,LO 57 (.len (LT 56)),LO 58 (.bin .add (LT 55) (LT 57)),LO 59 (.iaddr 1 (LT 54) (LT 58)),LO 60 (LL 59),LM 61 7,LO 62 (.bin .add (LT 60) (LT 61)),LO 63 (.iaddr 1 (LT 54) (LT 58)),LN (.store 1 (LT 63) (LT 62))]))))) (.dT [LO 64 (.bin .add (LT 18) (LI 1)),LM 18 64]))))
def A4:aD:=(LS [LO 4 (.mv (.const (.slice none 0 0)))] (LS [LM 10 0,LO 11 (.len (LT 10)),LM 12 1,LO 13 (.len (LT 12)),LO 14 (.bin .add (LT 11) (LT 13)),LO 15 (.make [(.int .i64 0)] 8 (LT 14) (LT 14)),LM 5 15] (.seq (LS [LM 16 0,LO 17 (.len (LT 16)),LO 18 (.mv (LI 0))] (.block 0 (.loop rL))) (LS [LM 65 5,LO 66 (.call 211 [(LT 65)]),LM 4 66] .ret))))
def CS:aV:=⟨67,[(.tmp 4)],A4⟩
theorem Hq:gT 162=some CS:=by kernel_rfl
def kW:aD:=(.seq (LS [LM 10 7,LM 11 0,LO 12 (.len (LT 11)),LO 13 (.bin .lss (LT 10) (LT 12)),LM 14 13,LZ 14 15 (.mv (LT 7)),LZ 14 16 (.mv (LT 1)),LZ 14 17 (.len (LT 16)),LZ 14 18 (.bin .lss (LT 15) (LT 17)),LO 19 (.pick (LT 14) LG (LT 18)),LM 20 19,LZ 20 21 (.mv (LT 6)),LZ 20 22 (.bin .gtr (LT 21) (LI 0)),LO 23 (.pick (LT 20) LG (LT 22))] (.cond (LT 23) .skip (.exit 0))) (.seq (.block 1 (LS [LM 26 0,LM 27 7,LO 28 (.call 225 [(LT 26),(LT 27)]),LM 29 1,LM 30 7,LO 31 (.call 225 [(LT 29),(LT 30)]),LO 32 (.bin .add (LT 28) (LT 31)),LM 33 6,LO 34 (.bin .add (LT 32) (LT 33)),LM 8 34] (LS [LM 35 5,LM 36 8,LO 37 (.bin .rem (LT 36) (LI 1000000000)),LO 38 (.lit [(.int .i64 0)] 1 [(0,(LT 37))]),LO 39 (.app 1 8 (LT 35) (LT 38)),LM 5 39] (.dT [LM 40 8,LO 41 (.bin .quo (LT 40) (LI 1000000000)),LM 6 41])))) (.dT [LM 24 7,LO 25 (.bin .add (LT 24) (LI 1)),LM 7 25])))
def AJ:aD:=(LS [LO 4 (.mv (.const (.slice none 0 0)))] (LS [LO 9 (.lit [(.int .i64 0)] 0 []),LM 5 9] (LS [LO 6 (.mv (LI 0))] (.seq (LS [LO 7 (.mv (LI 0))] (.block 0 (.loop kW))) (LS [LM 42 5,LM 4 42] .ret)))))
def CC:aV:=⟨43,[(.tmp 4)],AJ⟩
theorem GV:gT 177=some CC:=by kernel_rfl
def mT:aD:=(LS [LO 13 (.bin .lss (LT 12) (LT 11))] (.seq (.cond (LT 13) .skip (.exit 0)) (.seq (.block 1 (LS [LM 14 12,LM 7 14] (LS [LM 15 0,LM 16 7,LO 17 (.iaddr 1 (LT 15) (LT 16)),LO 18 (LL 17),LM 19 1,LM 20 7,LQ 21 (.call 225 [(LT 19),(LT 20)]),LO 22 (.bin .sub (LT 18) (LT 21)),LM 23 6,LO 24 (.bin .sub (LT 22) (LT 23)),LM 8 24] (LS [LO 6 (.mv (LI 0))] (.seq (LS [LM 25 8,LO 26 (.bin .lss (LT 25) (LI 0))] (.cond (LT 26) (LS [LM 27 8,LO 28 (.bin .add (LT 27) (LI 1000000000)),LM 8 28] (.dT [LO 6 (.mv (LI 1))])) .skip)) (.dT [LM 29 5,LM 30 8,LO 31 (.lit [(.int .i64 0)] 1 [(0,(LT 30))]),LO 32 (.app 1 8 (LT 29) (LT 31)),LM 5 32])))))) (.dT [LO 33 (.bin .add (LT 12) (LI 1)),LM 12 33]))))
def zM:aD:=(LS [LO 4 (.mv (.const (.slice none 0 0)))] (LS [LO 9 (.lit [(.int .i64 0)] 0 []),LM 5 9] (LS [LO 6 (.mv (LI 0))] (.seq (LS [LM 10 0,LO 11 (.len (LT 10)),LO 12 (.mv (LI 0))] (.block 0 (.loop mT))) (LS [LM 34 5,LO 35 (.call 211 [(LT 34)]),LM 4 35] .ret)))))
def BX:aV:=⟨36,[(.tmp 4)],zM⟩
theorem Gi:gT 179=some BX:=by kernel_rfl
def yU:aD:=(.seq (LS [LM 5 0,LO 6 (.bin .gtr (LT 5) (LI 0))] (.cond (LT 6) .skip (.exit 0))) (.block 1 (LS [LM 7 3,LM 8 0,LO 9 (.bin .rem (LT 8) (LI 1000000000)),LO 10 (.lit [(.int .i64 0)] 1 [(0,(LT 9))]),LO 11 (.app 1 8 (LT 7) (LT 10)),LM 3 11] (.dT [LM 12 0,LO 13 (.bin .quo (LT 12) (LI 1000000000)),LM 0 13]))))
def D8:aD:=(LS [LO 2 (.mv (.const (.slice none 0 0)))] (LS [LO 4 (.lit [(.int .i64 0)] 0 []),LM 3 4] (.seq (.block 0 (.loop yU)) (LS [LM 14 3,LM 2 14] .ret))))
def HK:aV:=⟨15,[(.tmp 2)],D8⟩
theorem Ly:gT 161=some HK:=by kernel_rfl
def bE:aD:=(LS [LO 2 (.new [(.bool false),(.slice none 0 0),(.slice none 0 0)]),LO 3 (.mv LF)] (LS [LM 8 0,LO 9 (.slen (LT 8)),LO 10 (.bin .gtr (LT 9) (LI 0)),LM 11 10,LY 11 12 (.mv (LT 0)),LY 11 13 (.sidx (LT 12) (LI 0)),LY 11 14 (.bin .eql (LT 13) (.const (.int .u8 45))),LO 15 (.pick (LT 11) (LT 14) LF),LM 4 15] (.seq (LS [LM 16 4] (.cond (LT 16) (.dT [LM 17 0,LO 18 (.ssub (LT 17) (some (LI 1)) none),LM 0 18]) .skip)) (LS [LM 19 0,LO 20 (.call 222 [(LT 19),(.const (.int .u8 47))]),LM 5 20] (.seq (LS [LM 21 5,LO 22 (.len (LT 21)),LO 23 (.bin .gtr (LT 22) (LI 2)),LM 24 23,LZ 24 25 (.mv (LT 5)),LZ 24 26 (.iaddr 1 (LT 25) (LI 0)),LZ 24 27 (LL 26),LZ 24 28 (.call 223 [(LT 27)]),LZ 24 29 (.un .not (LT 28)),LO 30 (.pick (LT 24) LG (LT 29))] (.cond (LT 30) (LS [LO 31 (.build [(.bool false),(.slice none 0 0),(.slice none 0 0)] [(0,1),(1,1),(2,1)] []),LN (.store 3 (LT 2) (LT 31)),LO 3 (.mv LF)] .ret) .skip)) (LS [LM 32 5,LO 33 (.iaddr 1 (LT 32) (LI 0)),LO 34 (LL 33),LO 35 (.call 224 [(LT 34)]),LM 6 35] (.seq (LS [LM 36 4,LM 37 36,LY 37 38 (.mv (LT 6)),LY 37 39 (.len (LT 38)),LY 37 40 (.bin .eql (LT 39) (LI 0)),LO 41 (.pick (LT 37) (LT 40) LF)] (.cond (LT 41) (LS [LO 42 (.build [(.bool false),(.slice none 0 0),(.slice none 0 0)] [(0,1),(1,1),(2,1)] []),LN (.store 3 (LT 2) (LT 42)),LO 3 (.mv LF)] .ret) .skip)) (.seq (LS [LM 43 5,LO 44 (.len (LT 43)),LO 45 (.bin .eql (LT 44) (LI 1))] (.cond (LT 45) (LS [LM 46 4,LM 47 6,LO 48 (.lit [(.int .i64 0)] 1 [(0,(LI 1))]),LO 49 (.build [(.bool false),(.slice none 0 0),(.slice none 0 0)] [(0,1),(1,1),(2,1)] [(0,(LT 46)),(1,(LT 47)),(2,(LT 48))]),LN (.store 3 (LT 2) (LT 49)),LO 3 (.mv LG)] .ret) .skip)) (.seq (LS [LM 50 5,LO 51 (.iaddr 1 (LT 50) (LI 1)),LO 52 (LL 51),LO 53 (.call 223 [(LT 52)]),LO 54 (.un .not (LT 53))] (.cond (LT 54) (LS [LO 55 (.build [(.bool false),(.slice none 0 0),(.slice none 0 0)] [(0,1),(1,1),(2,1)] []),LN (.store 3 (LT 2) (LT 55)),LO 3 (.mv LF)] .ret) .skip)) (LS [LM 56 5,LO 57 (.iaddr 1 (LT 56) (LI 1)),LO 58 (LL 57),LO 59 (.call 224 [(LT 58)]),LM 7 59] (.seq (LS [LM 60 7,LO 61 (.lit [(.int .i64 0)] 1 [(0,(LI 1))]),LO 62 (.call 178 [(LT 60),(LT 61)]),LO 63 (.bin .leq (LT 62) (LI 0)),LM 64 63,LZ 64 65 (.mv (LT 6)),LZ 64 66 (.mv (LT 7)),LZ 64 67 (.call 213 [(LT 65),(LT 66)]),LZ 64 68 (.lit [(.int .i64 0)] 1 [(0,(LI 1))]),LZ 64 69 (.call 178 [(LT 67),(LT 68)]),LZ 64 70 (.bin .neq (LT 69) (LI 0)),LO 71 (.pick (LT 64) LG (LT 70))] (.cond (LT 71) (LS [LO 72 (.build [(.bool false),(.slice none 0 0),(.slice none 0 0)] [(0,1),(1,1),(2,1)] []),LN (.store 3 (LT 2) (LT 72)),LO 3 (.mv LF)] .ret) .skip)) (LS [LM 73 4,LM 74 6,LM 75 7,LO 76 (.build [(.bool false),(.slice none 0 0),(.slice none 0 0)] [(0,1),(1,1),(2,1)] [(0,(LT 73)),(1,(LT 74)),(2,(LT 75))]),LN (.store 3 (LT 2) (LT 76)),LO 3 (.mv LG)] .ret))))))))))))
def bU:aV:=⟨77,[(.cell 2 true 3),(.tmp 3)],bE⟩
theorem I0:gT 175=some bU:=by kernel_rfl
def xO:aD:=(LS [LO 1 (.box (LT 0)),LO 2 (.mv LF)] (LS [LO 3 (LA 1 1),LO 4 (LL 3),LO 5 (.call 212 [(LT 4)]),LO 6 (.slen (LT 5)),LO 7 (.bin .leq (LT 6) (LI 200)),LM 8 7,LY 8 9 (LA 2 1),LY 8 10 (LL 9),LY 8 11 (.call 212 [(LT 10)]),LY 8 12 (.slen (LT 11)),LY 8 13 (.bin .leq (LT 12) (LI 200)),LO 14 (.pick (LT 8) (LT 13) LF),LM 2 14] .ret))
def Bo:aV:=⟨15,[(.tmp 2)],xO⟩
theorem KV:gT 176=some Bo:=by kernel_rfl
def xK:aD:=(LS [LO 1 (.box (LT 0)),LO 2 (.mv (.const (.string ⟨#[]⟩)))] (LS [LO 4 (LA 1 1),LO 5 (LL 4),LO 6 (.call 212 [(LT 5)]),LM 3 6] (.seq (LS [LO 7 (LA 0 1),LO 8 (LL 7)] (.cond (LT 8) (.dT [LM 9 3,LO 10 (.bin .add (.const (.string ⟨#[45]⟩)) (LT 9)),LM 3 10]) .skip)) (.seq (LS [LO 11 (LA 2 1),LO 12 (LL 11),LO 13 (.lit [(.int .i64 0)] 1 [(0,(LI 1))]),LO 14 (.call 178 [(LT 12),(LT 13)]),LO 15 (.bin .neq (LT 14) (LI 0))] (.cond (LT 15) (.dT [LM 16 3,LO 17 (LA 2 1),LO 18 (LL 17),LO 19 (.call 212 [(LT 18)]),LO 20 (.bin .add (.const (.string ⟨#[47]⟩)) (LT 19)),LO 21 (.bin .add (LT 16) (LT 20)),LM 3 21]) .skip)) (LS [LM 22 3,LM 2 22] .ret)))))
def Bt:aV:=⟨23,[(.tmp 2)],xK⟩
theorem K0:gT 163=some Bt:=by kernel_rfl
def xG:aD:=(.seq (LS [LM 7 1,LO 8 (.len (LT 7)),LO 9 (.bin .gtr (LT 8) (LI 0))] (.cond (LT 9) .skip (.exit 0))) (.block 1 (LS [LM 11 0,LM 12 1,LO 13 (.call 214 [(LT 11),(LT 12)]),LM 10 13,LO 14 (LX 10 0),LO 15 (LX 10 1),LM 5 14,LM 6 15] (LS [LM 16 1,LM 0 16] (.dT [LM 17 6,LM 1 17])))))
def Ec:aD:=(LS [LO 4 (.mv (.const (.slice none 0 0)))] (.seq (.block 0 (.loop xG)) (LS [LM 18 0,LM 4 18] .ret)))
def HQ:aV:=⟨19,[(.tmp 4)],Ec⟩
theorem L3:gT 213=some HQ:=by kernel_rfl
def gB:aD:=(.seq (LS [LM 132 19,LO 133 (.bin .geq (LT 132) (LI 1000000000)),LM 134 133,LZ 134 135 (.mv (LT 19)),LZ 134 136 (.mv (LT 14)),LZ 134 137 (.mv (LT 15)),LZ 134 138 (.bin .sub (LT 137) (LI 2)),LZ 134 139 (.iaddr 1 (LT 136) (LT 138)),LZ 134 140 (LL 139),LZ 134 141 (.bin .mul (LT 135) (LT 140)),LZ 134 142 (.mv (LT 20)),LZ 134 143 (.bin .mul (LT 142) (LI 1000000000)),LZ 134 144 (.mv (LT 13)),LZ 134 145 (.mv (LT 17)),LZ 134 146 (.mv (LT 15)),LZ 134 147 (.bin .add (LT 145) (LT 146)),LZ 134 148 (.bin .sub (LT 147) (LI 2)),LZ 134 149 (.iaddr 1 (LT 144) (LT 148)),LZ 134 150 (LL 149),LZ 134 151 (.bin .add (LT 143) (LT 150)),LZ 134 152 (.bin .gtr (LT 141) (LT 151)),LO 153 (.pick (LT 134) LG (LT 152))] (.cond (LT 153) .skip (.exit 2))) (.block 3 (LS [LM 154 19,LO 155 (.bin .sub (LT 154) (LI 1)),LM 19 155] (LS [LM 156 20,LM 157 14,LM 158 15,LO 159 (.bin .sub (LT 158) (LI 1)),LO 160 (.iaddr 1 (LT 157) (LT 159)),LO 161 (LL 160),LO 162 (.bin .add (LT 156) (LT 161)),LM 20 162] (LS [LM 163 20,LO 164 (.bin .geq (LT 163) (LI 1000000000))] (.cond (LT 164) (.exit 2) .skip))))))
def iO:aD:=(.seq (LS [LM 99 17,LO 100 (.bin .geq (LT 99) (LI 0))] (.cond (LT 100) .skip (.exit 0))) (.seq (.block 1 (LS [LM 103 13,LM 104 17,LM 105 15,LO 106 (.bin .add (LT 104) (LT 105)),LO 107 (.iaddr 1 (LT 103) (LT 106)),LO 108 (LL 107),LO 109 (.bin .mul (LT 108) (LI 1000000000)),LM 110 13,LM 111 17,LM 112 15,LO 113 (.bin .add (LT 111) (LT 112)),LO 114 (.bin .sub (LT 113) (LI 1)),LO 115 (.iaddr 1 (LT 110) (LT 114)),LO 116 (LL 115),LO 117 (.bin .add (LT 109) (LT 116)),LM 18 117] (LS [LM 118 18,LM 119 14,LM 120 15,LO 121 (.bin .sub (LT 120) (LI 1)),LO 122 (.iaddr 1 (LT 119) (LT 121)),LO 123 (LL 122),LO 124 (.bin .quo (LT 118) (LT 123)),LM 125 18,LM 126 14,LM 127 15,LO 128 (.bin .sub (LT 127) (LI 1)),LO 129 (.iaddr 1 (LT 126) (LT 128)),LO 130 (LL 129),LO 131 (.bin .rem (LT 125) (LT 130)),LM 19 124,LM 20 131] (.seq (.block 2 (.loop gB)) (.seq (LS [LM 165 13,LM 166 14,LM 167 17,LM 168 19,LO 169 (.call 239 [(LT 165),(LT 166),(LT 167),(LT 168)])] (.cond (LT 169) (LS [LM 170 19,LO 171 (.bin .sub (LT 170) (LI 1)),LM 19 171] (.dT [LM 172 13,LM 173 14,LM 174 17,LO 175 (.call 240 [(LT 172),(LT 173),(LT 174)])])) .skip)) (.dT [LM 176 16,LM 177 17,LM 178 19,LO 179 (.iaddr 1 (LT 176) (LT 177)),LN (.store 1 (LT 179) (LT 178))])))))) (.dT [LM 101 17,LO 102 (.bin .sub (LT 101) (LI 1)),LM 17 102])))
def dE:aD:=(LS [LO 4 (.mv (.const (.slice none 0 0))),LO 5 (.mv (.const (.slice none 0 0)))] (LS [LM 24 0,LO 25 (.call 236 [(LT 24)]),LM 23 25,LO 26 (LX 23 0),LO 27 (LX 23 1),LM 6 26,LM 7 27] (LS [LM 29 1,LO 30 (.call 236 [(LT 29)]),LM 28 30,LO 31 (LX 28 0),LO 32 (LX 28 1),LM 8 31,LM 9 32] (.seq (LS [LM 33 7,LM 34 33,LY 34 35 (.mv (LT 9)),LO 36 (.pick (LT 34) (LT 35) LF)] (.cond (LT 36) (LS [LM 37 6,LM 38 8,LO 39 (.bin .quo (LT 37) (LT 38)),LQ 40 (.call 161 [(LT 39)]),LM 41 6,LM 42 8,LO 43 (.bin .rem (LT 41) (LT 42)),LQ 44 (.call 161 [(LT 43)]),LM 4 40,LM 5 44] .ret) .skip)) (.seq (LS [LM 45 0,LM 46 1,LO 47 (.call 178 [(LT 45),(LT 46)]),LO 48 (.bin .lss (LT 47) (LI 0))] (.cond (LT 48) (LS [LO 49 (.lit [(.int .i64 0)] 0 []),LO 50 (.lit [(.int .i64 0)] 0 []),LM 51 0,LO 52 (.app 1 8 (LT 50) (LT 51)),LM 4 49,LM 5 52] .ret) .skip)) (.seq (LS [LM 53 1,LO 54 (.len (LT 53)),LO 55 (.bin .eql (LT 54) (LI 1))] (.cond (LT 55) (LS [LM 57 0,LM 58 1,LO 59 (.iaddr 1 (LT 58) (LI 0)),LO 60 (LL 59),LO 61 (.call 237 [(LT 57),(LT 60)]),LM 56 61,LO 62 (LX 56 0),LO 63 (LX 56 1),LM 10 62,LM 11 63] (LS [LM 64 10,LM 65 11,LO 66 (.call 161 [(LT 65)]),LM 4 64,LM 5 66] .ret)) .skip)) (LS [LM 67 1,LM 68 1,LO 69 (.len (LT 68)),LO 70 (.bin .sub (LT 69) (LI 1)),LO 71 (.iaddr 1 (LT 67) (LT 70)),LO 72 (LL 71),LO 73 (.bin .add (LT 72) (LI 1)),LO 74 (.bin .quo (LI 1000000000) (LT 73)),LM 12 74] (LS [LM 75 0,LO 76 (.len (LT 75)),LO 77 (.bin .add (LT 76) (LI 1)),LO 78 (.make [(.int .i64 0)] 8 (LT 77) (LT 77)),LM 13 78] (LS [LM 79 13,LM 80 0,LM 81 12,LO 82 (.call 238 [(LT 80),(LT 81)]),LO 83 (.copy 1 (LT 79) (LT 82))] (LS [LM 84 1,LM 85 12,LO 86 (.call 238 [(LT 84),(LT 85)]),LM 14 86] (LS [LM 87 14,LO 88 (.len (LT 87)),LM 15 88] (LS [LM 89 13,LO 90 (.len (LT 89)),LM 91 15,LO 92 (.bin .sub (LT 90) (LT 91)),LO 93 (.make [(.int .i64 0)] 8 (LT 92) (LT 92)),LM 16 93] (.seq (LS [LM 94 13,LO 95 (.len (LT 94)),LM 96 15,LO 97 (.bin .sub (LT 95) (LT 96)),LO 98 (.bin .sub (LT 97) (LI 1)),LM 17 98] (.block 0 (.loop iO))) (LS [LM 181 13,LO 182 (.call 211 [(LT 181)]),LM 183 12,LO 184 (.call 237 [(LT 182),(LT 183)]),LM 180 184,LO 185 (LX 180 0),LO 186 (LX 180 1),LM 21 185,LM 22 186] (LS [LM 187 16,LO 188 (.call 211 [(LT 187)]),LM 189 21,LM 4 188,LM 5 189] .ret)))))))))))))))
def fA:aV:=⟨190,[(.tmp 4),(.tmp 5)],dE⟩
theorem Hh:gT 214=some fA:=by kernel_rfl
def qF:aD:=(.seq (LS [LM 3 0,LO 4 (.len (LT 3)),LO 5 (.bin .gtr (LT 4) (LI 0)),LM 6 5,LY 6 7 (.mv (LT 0)),LY 6 8 (.mv (LT 0)),LY 6 9 (.len (LT 8)),LY 6 10 (.bin .sub (LT 9) (LI 1)),LY 6 11 (.iaddr 1 (LT 7) (LT 10)),LY 6 12 (LL 11),LY 6 13 (.bin .eql (LT 12) (LI 0)),LO 14 (.pick (LT 6) (LT 13) LF)] (.cond (LT 14) .skip (.exit 0))) (.block 1 (.dT [LM 15 0,LM 16 0,LO 17 (.len (LT 16)),LO 18 (.bin .sub (LT 17) (LI 1)),LO 19 (.sub 1 (LT 15) none (some (LT 18)) none),LM 0 19])))
def Ct:aD:=(LS [LO 2 (.mv (.const (.slice none 0 0)))] (.seq (.block 0 (.loop qF)) (LS [LM 20 0,LM 2 20] .ret)))
def F9:aV:=⟨21,[(.tmp 2)],Ct⟩
theorem KA:gT 211=some F9:=by kernel_rfl
def vF:aD:=(LS [LO 4 (.mv (LI 0))] (.seq (LS [LM 5 1,LM 6 0,LO 7 (.len (LT 6)),LO 8 (.bin .lss (LT 5) (LT 7))] (.cond (LT 8) (LS [LM 9 0,LM 10 1,LO 11 (.iaddr 1 (LT 9) (LT 10)),LO 12 (LL 11),LM 4 12] .ret) .skip)) (LS [LO 4 (.mv (LI 0))] .ret)))
def Am:aV:=⟨13,[(.tmp 4)],vF⟩
theorem IF:gT 225=some Am:=by kernel_rfl
def oN:aD:=(.seq (LS [LM 9 7,LM 10 0,LO 11 (.slen (LT 10)),LO 12 (.bin .leq (LT 9) (LT 11))] (.cond (LT 12) .skip (.exit 0))) (.seq (.block 1 (LS [LM 15 7,LM 16 0,LO 17 (.slen (LT 16)),LO 18 (.bin .eql (LT 15) (LT 17)),LM 19 18,LZ 19 20 (.mv (LT 0)),LZ 19 21 (.mv (LT 7)),LZ 19 22 (.sidx (LT 20) (LT 21)),LZ 19 23 (.mv (LT 1)),LZ 19 24 (.bin .eql (LT 22) (LT 23)),LO 25 (.pick (LT 19) LG (LT 24))] (.cond (LT 25) (LS [LM 26 5,LM 27 0,LM 28 6,LM 29 7,LO 30 (.ssub (LT 27) (some (LT 28)) (some (LT 29))),LO 31 (.lit [(.string ⟨#[]⟩)] 1 [(0,(LT 30))]),LO 32 (.app 1 16 (LT 26) (LT 31)),LM 5 32] (.dT [LM 33 7,LO 34 (.bin .add (LT 33) (LI 1)),LM 6 34])) .skip))) (.dT [LM 13 7,LO 14 (.bin .add (LT 13) (LI 1)),LM 7 14])))
def D7:aD:=(LS [LO 4 (.mv (.const (.slice none 0 0)))] (LS [LO 8 (.lit [(.string ⟨#[]⟩)] 0 []),LM 5 8] (LS [LO 6 (.mv (LI 0))] (.seq (LS [LO 7 (.mv (LI 0))] (.block 0 (.loop oN))) (LS [LM 35 5,LM 4 35] .ret)))))
def HF:aV:=⟨36,[(.tmp 4)],D7⟩
theorem LH:gT 222=some HF:=by kernel_rfl
def dH:aD:=(.seq (LS [LM 4 3,LM 5 0,LO 6 (.slen (LT 5)),LO 7 (.bin .lss (LT 4) (LT 6))] (.cond (LT 7) .skip (.exit 0))) (.seq (.block 1 (LS [LM 10 0,LM 11 3,LO 12 (.sidx (LT 10) (LT 11)),LO 13 (.bin .lss (LT 12) (.const (.int .u8 48))),LM 14 13,LZ 14 15 (.mv (LT 0)),LZ 14 16 (.mv (LT 3)),LZ 14 17 (.sidx (LT 15) (LT 16)),LZ 14 18 (.bin .gtr (LT 17) (.const (.int .u8 57))),LO 19 (.pick (LT 14) LG (LT 18))] (.cond (LT 19) (LS [LO 2 (.mv LF)] .ret) .skip))) (.dT [LM 8 3,LO 9 (.bin .add (LT 8) (LI 1)),LM 3 9])))
def AP:aD:=(LS [LO 2 (.mv LF)] (.seq (LS [LO 3 (.mv (LI 0))] (.block 0 (.loop dH))) (LS [LM 20 0,LO 21 (.slen (LT 20)),LO 22 (.bin .geq (LT 21) (LI 1)),LM 23 22,LY 23 24 (.mv (LT 0)),LY 23 25 (.slen (LT 24)),LY 23 26 (.bin .leq (LT 25) (LI 200)),LO 27 (.pick (LT 23) (LT 26) LF),LM 28 27,LY 28 29 (.mv (LT 0)),LY 28 30 (.slen (LT 29)),LY 28 31 (.bin .eql (LT 30) (LI 1)),LY 28 32 (.mv (LT 31)),LZ 32 33 (.mv (LT 0)),LZ 32 34 (.sidx (LT 33) (LI 0)),LZ 32 35 (.bin .neq (LT 34) (.const (.int .u8 48))),LY 28 36 (.pick (LT 32) LG (LT 35)),LO 37 (.pick (LT 28) (LT 36) LF),LM 2 37] .ret)))
def CP:aV:=⟨38,[(.tmp 2)],AP⟩
theorem GO:gT 223=some CP:=by kernel_rfl
def mG:aD:=(.seq (LS [LM 20 7,LM 21 4,LO 22 (.bin .lss (LT 20) (LT 21))] (.cond (LT 22) .skip (.exit 2))) (.seq (.block 3 (.dT [LM 25 6,LO 26 (.bin .mul (LI 10) (LT 25)),LM 27 0,LM 28 7,LO 29 (.sidx (LT 27) (LT 28)),LO 30 (.bin .sub (LT 29) (.const (.int .u8 48))),LO 31 (.cvt .i64 (LT 30)),LO 32 (.bin .add (LT 26) (LT 31)),LM 6 32])) (.dT [LM 23 7,LO 24 (.bin .add (LT 23) (LI 1)),LM 7 24])))
def mQ:aD:=(.seq (LS [LM 11 4,LO 12 (.bin .gtr (LT 11) (LI 0))] (.cond (LT 12) .skip (.exit 0))) (.seq (.block 1 (LS [LO 5 (.mv (LI 0))] (.seq (LS [LM 15 4,LO 16 (.bin .gtr (LT 15) (LI 9))] (.cond (LT 16) (.dT [LM 17 4,LO 18 (.bin .sub (LT 17) (LI 9)),LM 5 18]) .skip)) (LS [LO 6 (.mv (LI 0))] (.seq (LS [LM 19 5,LM 7 19] (.block 2 (.loop mG))) (.dT [LM 33 3,LM 34 6,LO 35 (.lit [(.int .i64 0)] 1 [(0,(LT 34))]),LO 36 (.app 1 8 (LT 33) (LT 35)),LM 3 36])))))) (.dT [LM 13 4,LO 14 (.bin .sub (LT 13) (LI 9)),LM 4 14])))
def zF:aD:=(LS [LO 2 (.mv (.const (.slice none 0 0)))] (LS [LO 8 (.lit [(.int .i64 0)] 0 []),LM 3 8] (.seq (LS [LM 9 0,LO 10 (.slen (LT 9)),LM 4 10] (.block 0 (.loop mQ))) (LS [LM 37 3,LO 38 (.call 211 [(LT 37)]),LM 2 38] .ret))))
def B2:aV:=⟨39,[(.tmp 2)],zF⟩
theorem F1:gT 224=some B2:=by kernel_rfl
def qK:aD:=(.seq (LS [LM 19 4,LO 20 (.bin .geq (LT 19) (LI 0))] (.cond (LT 20) .skip (.exit 0))) (.seq (.block 1 (LS [LM 23 0,LM 24 4,LO 25 (.iaddr 1 (LT 23) (LT 24)),LO 26 (LL 25),LO 27 (.bin .add (LT 26) (LI 1000000000)),LO 28 (.call 235 [(LT 27)]),LM 5 28] (.dT [LM 29 3,LM 30 5,LO 31 (.ssub (LT 30) (some (LI 1)) none),LO 32 (.bin .add (LT 29) (LT 31)),LM 3 32]))) (.dT [LM 21 4,LO 22 (.bin .sub (LT 21) (LI 1)),LM 4 22])))
def rU:aD:=(LS [LO 2 (.mv (.const (.string ⟨#[]⟩)))] (.seq (LS [LM 6 0,LO 7 (.len (LT 6)),LO 8 (.bin .eql (LT 7) (LI 0))] (.cond (LT 8) (LS [LO 2 (.mv (.const (.string ⟨#[48]⟩)))] .ret) .skip)) (LS [LM 9 0,LM 10 0,LO 11 (.len (LT 10)),LO 12 (.bin .sub (LT 11) (LI 1)),LO 13 (.iaddr 1 (LT 9) (LT 12)),LO 14 (LL 13),LO 15 (.call 235 [(LT 14)]),LM 3 15] (.seq (LS [LM 16 0,LO 17 (.len (LT 16)),LO 18 (.bin .sub (LT 17) (LI 2)),LM 4 18] (.block 0 (.loop qK))) (LS [LM 33 3,LM 2 33] .ret)))))
def vH:aV:=⟨34,[(.tmp 2)],rU⟩
theorem FD:gT 212=some vH:=by kernel_rfl
def vL:aD:=(LS [LO 2 (.mv (LI 0)),LO 3 (.mv LF)] (.seq (LS [LM 4 0,LO 5 (.len (LT 4)),LO 6 (.bin .gtr (LT 5) (LI 2))] (.cond (LT 6) (LS [LO 2 (.mv (LI 0)),LO 3 (.mv LF)] .ret) .skip)) (LS [LM 7 0,LO 8 (.call 225 [(LT 7),(LI 0)]),LM 9 0,LO 10 (.call 225 [(LT 9),(LI 1)]),LO 11 (.bin .mul (LI 1000000000) (LT 10)),LO 12 (.bin .add (LT 8) (LT 11)),LM 2 12,LO 3 (.mv LG)] .ret)))
def Aj:aV:=⟨13,[(.tmp 2),(.tmp 3)],vL⟩
theorem I8:gT 236=some Aj:=by kernel_rfl
def pJ:aD:=(.seq (LS [LM 16 8,LO 17 (.bin .geq (LT 16) (LI 0))] (.cond (LT 17) .skip (.exit 0))) (.seq (.block 1 (LS [LM 20 7,LO 21 (.bin .mul (LT 20) (LI 1000000000)),LM 22 0,LM 23 8,LO 24 (.iaddr 1 (LT 22) (LT 23)),LO 25 (LL 24),LO 26 (.bin .add (LT 21) (LT 25)),LM 9 26] (LS [LM 27 6,LM 28 8,LM 29 9,LM 30 1,LO 31 (.bin .quo (LT 29) (LT 30)),LO 32 (.iaddr 1 (LT 27) (LT 28)),LN (.store 1 (LT 32) (LT 31))] (.dT [LM 33 9,LM 34 1,LO 35 (.bin .rem (LT 33) (LT 34)),LM 7 35])))) (.dT [LM 18 8,LO 19 (.bin .sub (LT 18) (LI 1)),LM 8 19])))
def yV:aD:=(LS [LO 4 (.mv (.const (.slice none 0 0))),LO 5 (.mv (LI 0))] (LS [LM 10 0,LO 11 (.len (LT 10)),LO 12 (.make [(.int .i64 0)] 8 (LT 11) (LT 11)),LM 6 12] (LS [LO 7 (.mv (LI 0))] (.seq (LS [LM 13 0,LO 14 (.len (LT 13)),LO 15 (.bin .sub (LT 14) (LI 1)),LM 8 15] (.block 0 (.loop pJ))) (LS [LM 36 6,LO 37 (.call 211 [(LT 36)]),LM 38 7,LM 4 37,LM 5 38] .ret)))))
def AZ:aV:=⟨39,[(.tmp 4),(.tmp 5)],yV⟩
theorem Ew:gT 237=some AZ:=by kernel_rfl
def lE:aD:=(LS [LO 17 (.bin .lss (LT 16) (LT 15))] (.seq (.cond (LT 17) .skip (.exit 0)) (.seq (.block 1 (LS [LO 18 (.iaddr 1 (LT 14) (LT 16)),LO 19 (LL 18),LM 8 19] (LS [LM 20 8,LM 21 1,LO 22 (.bin .mul (LT 20) (LT 21)),LM 23 6,LO 24 (.bin .add (LT 22) (LT 23)),LM 9 24] (LS [LM 25 5,LM 26 9,LO 27 (.bin .rem (LT 26) (LI 1000000000)),LO 28 (.lit [(.int .i64 0)] 1 [(0,(LT 27))]),LO 29 (.app 1 8 (LT 25) (LT 28)),LM 5 29] (.dT [LM 30 9,LO 31 (.bin .quo (LT 30) (LI 1000000000)),LM 6 31]))))) (.dT [LO 32 (.bin .add (LT 16) (LI 1)),LM 16 32]))))
def yS:aD:=(LS [LO 4 (.mv (.const (.slice none 0 0)))] (LS [LM 10 0,LO 11 (.len (LT 10)),LO 12 (.bin .add (LT 11) (LI 1)),LO 13 (.make [(.int .i64 0)] 8 (LI 0) (LT 12)),LM 5 13] (LS [LO 6 (.mv (LI 0))] (.seq (LS [LM 14 0,LO 15 (.len (LT 14)),LO 16 (.mv (LI 0))] (.block 0 (.loop lE))) (.seq (LS [LM 33 6,LO 34 (.bin .gtr (LT 33) (LI 0))] (.cond (LT 34) (.dT [LM 35 5,LM 36 6,LO 37 (.lit [(.int .i64 0)] 1 [(0,(LT 36))]),LO 38 (.app 1 8 (LT 35) (LT 37)),LM 5 38]) .skip)) (LS [LM 39 5,LM 4 39] .ret))))))
def Ar:aV:=⟨40,[(.tmp 4)],yS⟩
theorem E0:gT 238=some Ar:=by kernel_rfl
def jY:aD:=(LS [LO 16 (.bin .lss (LT 15) (LT 14))] (.seq (.cond (LT 16) .skip (.exit 0)) (.seq (.block 1 (LS [LM 17 15,LO 18 (.iaddr 1 (LT 13) (LT 15)),LO 19 (LL 18),LM 10 17,LM 11 19] (LS [LM 20 0,LM 21 2,LM 22 10,LO 23 (.bin .add (LT 21) (LT 22)),LO 24 (.iaddr 1 (LT 20) (LT 23)),LO 25 (LL 24),LM 26 11,LM 27 3,LO 28 (.bin .mul (LT 26) (LT 27)),LO 29 (.bin .rem (LT 28) (LI 1000000000)),LO 30 (.bin .sub (LT 25) (LT 29)),LM 31 9,LO 32 (.bin .sub (LT 30) (LT 31)),LM 12 32] (LS [LM 33 11,LM 34 3,LO 35 (.bin .mul (LT 33) (LT 34)),LO 36 (.bin .quo (LT 35) (LI 1000000000)),LM 9 36] (.seq (LS [LM 37 12,LO 38 (.bin .lss (LT 37) (LI 0))] (.cond (LT 38) (LS [LM 39 12,LO 40 (.bin .add (LT 39) (LI 1000000000)),LM 12 40] (LS [LM 41 9,LO 42 (.bin .add (LT 41) (LI 1)),LM 9 42] (LS [LM 43 12,LO 44 (.bin .lss (LT 43) (LI 0))] (.cond (LT 44) (LS [LM 45 12,LO 46 (.bin .add (LT 45) (LI 1000000000)),LM 12 46] (.dT [LM 47 9,LO 48 (.bin .add (LT 47) (LI 1)),LM 9 48])) .skip)))) .skip)) (.dT [LM 49 0,LM 50 2,LM 51 10,LO 52 (.bin .add (LT 50) (LT 51)),LM 53 12,LO 54 (.iaddr 1 (LT 49) (LT 52)),LN (.store 1 (LT 54) (LT 53))])))))) (.dT [LO 55 (.bin .add (LT 15) (LI 1)),LM 15 55]))))
def zY:aD:=(LS [LO 8 (.mv LF)] (LS [LO 9 (.mv (LI 0))] (.seq (LS [LM 13 1,LO 14 (.len (LT 13)),LO 15 (.mv (LI 0))] (.block 0 (.loop jY))) (LS [LM 56 0,LM 57 2,LM 58 1,LO 59 (.len (LT 58)),LO 60 (.bin .add (LT 57) (LT 59)),LO 61 (.iaddr 1 (LT 56) (LT 60)),LO 62 (LL 61),LM 63 9,LO 64 (.bin .sub (LT 62) (LT 63)),LO 65 (.iaddr 1 (LT 56) (LT 60)),LN (.store 1 (LT 65) (LT 64))] (LS [LM 66 0,LM 67 2,LM 68 1,LO 69 (.len (LT 68)),LO 70 (.bin .add (LT 67) (LT 69)),LO 71 (.iaddr 1 (LT 66) (LT 70)),LO 72 (LL 71),LO 73 (.bin .lss (LT 72) (LI 0)),LM 8 73] .ret)))))
def BR:aV:=⟨74,[(.tmp 8)],zY⟩
theorem FV:gT 239=some BR:=by kernel_rfl
def qM:aD:=(LS [LO 13 (.bin .lss (LT 12) (LT 11))] (.seq (.cond (LT 13) .skip (.exit 0)) (.seq (.block 1 (LS [LM 14 12,LO 15 (.iaddr 1 (LT 10) (LT 12)),LO 16 (LL 15),LM 7 14,LM 8 16] (LS [LM 17 0,LM 18 2,LM 19 7,LO 20 (.bin .add (LT 18) (LT 19)),LO 21 (.iaddr 1 (LT 17) (LT 20)),LO 22 (LL 21),LM 23 8,LO 24 (.bin .add (LT 22) (LT 23)),LM 25 6,LO 26 (.bin .add (LT 24) (LT 25)),LM 9 26] (LS [LM 27 9,LO 28 (.bin .quo (LT 27) (LI 1000000000)),LM 6 28] (.dT [LM 29 0,LM 30 2,LM 31 7,LO 32 (.bin .add (LT 30) (LT 31)),LM 33 9,LO 34 (.bin .rem (LT 33) (LI 1000000000)),LO 35 (.iaddr 1 (LT 29) (LT 32)),LN (.store 1 (LT 35) (LT 34))]))))) (.dT [LO 36 (.bin .add (LT 12) (LI 1)),LM 12 36]))))
def zH:aD:=(LS [LO 6 (.mv (LI 0))] (.seq (LS [LM 10 1,LO 11 (.len (LT 10)),LO 12 (.mv (LI 0))] (.block 0 (.loop qM))) (.dT [LM 37 0,LM 38 2,LM 39 1,LO 40 (.len (LT 39)),LO 41 (.bin .add (LT 38) (LT 40)),LO 42 (.iaddr 1 (LT 37) (LT 41)),LO 43 (LL 42),LM 44 6,LO 45 (.bin .add (LT 43) (LT 44)),LO 46 (.iaddr 1 (LT 37) (LT 41)),LN (.store 1 (LT 46) (LT 45))])))
def BS:aV:=⟨47,[],zH⟩
theorem FL:gT 240=some BS:=by kernel_rfl
def jX:aD:=(.seq (LS [LM 8 3,LO 9 (.len (LT 8)),LO 10 (.bin .eql (LT 9) (LI 0)),LM 11 10,LZ 11 12 (.mv (LT 4)),LZ 11 13 (.bin .neq (LT 12) (LI 0)),LO 14 (.pick (LT 11) LG (LT 13))] (.cond (LT 14) .skip (.exit 0))) (.block 1 (LS [LM 15 4,LO 16 (.bin .rem (LT 15) (LI 10)),LM 5 16] (.seq (LS [LM 17 5,LO 18 (.bin .lss (LT 17) (LI 0))] (.cond (LT 18) (.dT [LM 19 5,LO 20 (.un .neg (LT 19)),LM 5 20]) .skip)) (LS [LM 21 5,LO 22 (.bin .add (LI 48) (LT 21)),LO 23 (.cvt .u8 (LT 22)),LO 24 (.lit [(.int .u8 0)] 1 [(0,(LT 23))]),LM 25 3,LO 26 (.app 1 1 (LT 24) (LT 25)),LM 3 26] (.dT [LM 27 4,LO 28 (.bin .quo (LT 27) (LI 10)),LM 4 28]))))))
def D2:aD:=(LS [LO 2 (.mv (.const (.string ⟨#[]⟩)))] (LS [LO 6 (.lit [(.int .u8 0)] 0 []),LM 3 6] (LS [LM 7 0,LM 4 7] (.seq (.block 0 (.loop jX)) (.seq (LS [LM 29 0,LO 30 (.bin .lss (LT 29) (LI 0))] (.cond (LT 30) (.dT [LO 31 (.lit [(.int .u8 0)] 1 [(0,(.const (.int .u8 45)))]),LM 32 3,LO 33 (.app 1 1 (LT 31) (LT 32)),LM 3 33]) .skip)) (LS [LM 34 3,LO 35 (.b2s (LT 34)),LM 2 35] .ret))))))
def Iv:aV:=⟨36,[(.tmp 2)],D2⟩
theorem Lt:gT 235=some Iv:=by kernel_rfl
end Go.PM
namespace Go.PM
open Go.Lib
def d10 (n:Nat):UInt8:=UInt8.ofNat (48+n)
def B8:Nat→Nat→List UInt8
 | 0,_=>[]
 | k+1,r=>B8 k (r / 10)++[d10 (r % 10)]
theorem iR {n:Nat} (h:n<10):decDigits n=[d10 n]:=by rw[decDigits,dif_pos h];rfl
theorem zE {n:Nat} (h:¬n<10):decDigits n=decDigits (n / 10)++[d10 (n % 10)]:=by rw[decDigits,dif_neg h];rfl
theorem OE (n:Nat):decDigits n≠[]:=by
 by_cases h:n<10
 ·rw[iR h];simp
 ·rw[zE h];simp
theorem aaR (k r:Nat):(B8 k r).length=k:=by
 induction k generalizing r with
 | zero=>rfl
 | succ k ih=>rw[B8,List.length_append,ih];rfl
theorem XD (k:Nat):B8 k 0=List.replicate k 48:=by
 induction k with
 | zero=>rfl
 | succ k ih=>rw[B8,ih,List.replicate_succ'];rfl
theorem acK {q:Nat} (hq:0<q) (k r:Nat) (hr:r<10^k):decDigits (q*10^k+r)=decDigits q++B8 k r:=by
 induction k generalizing r with
 |
  zero =>
  have:r=0:=by simp at hr;exact hr
  subst this
  simp[B8]
 |
  succ k ih =>
  rw[Nat.pow_succ] at hr ⊢
  have hp:0<10^k:=Nat.pow_pos (by decide)
  have h1:q*(10^k*10)=10*(q*10^k):=by grind
  have h2:1*1≤q*10^k:=Nat.mul_le_mul hq hp
  rw[zE (by omega),h1,show (10*(q*10^k)+r) / 10=q*10^k+r / 10 by omega,show (10*(q*10^k)+r) % 10=r % 10 by omega,ih (r / 10) (by omega),B8,List.append_assoc]
theorem afU (k r:Nat) (hr:r<10^(k+1)):B8 (k+1) r=List.replicate (k+1-(decDigits r).length) 48++decDigits r:=by
 induction k generalizing r with
 |
  zero =>
  have h:r<10:=by simpa using hr
  rw[iR h,B8,B8,Nat.mod_eq_of_lt h]
  rfl
 |
  succ k ih =>
  rw[B8]
  by_cases h:r<10
  ·rw[show r / 10=0 by omega,XD,iR h,Nat.mod_eq_of_lt h]
   rfl
  ·rw[ih (r / 10) (by rw[Nat.pow_succ] at hr;omega),zE h,List.append_assoc,List.length_append]
   congr 2
   simp only[List.length_cons,List.length_nil]
   omega
theorem Bi (n:Nat) (k:Nat) (h:n<10^(k+1)):(decDigits n).length≤k+1:=by
 rw[decDigits_length]
 induction k generalizing n with
 | zero=>rw[nDigits_small (by simpa using h)];exact Nat.le_refl _
 |
  succ k ih =>
  by_cases hn:n<10
  ·rw[nDigits_small hn];omega
  ·rw[nDigits_big hn]
   have:=ih (n / 10) (by rw[Nat.pow_succ] at h;omega)
   omega
theorem G3 {q r:Nat} (hq:0<q) (hr:r<1000000000):decDigits (q*1000000000+r)=decDigits q++B8 9 r:=acK hq 9 r hr
theorem adR {r:Nat} (hr:r<1000000000):decDigits (r+1000000000)=d10 1::B8 9 r:=by
 have:=G3 (q:=1) (by decide) hr
 rw[show r+1000000000=1*1000000000+r by omega,this,iR (by decide)]
 rfl
theorem SY (xs:List (List UInt8)):join xs []=xs.flatten:=by
 induction xs with
 | nil=>rfl
 |
  cons x xs ih =>
  unfold join at ih ⊢
  cases xs with
  | nil=>simp[List.intercalate]
  |
   cons y ys =>
   rw[List.flatten_cons,←ih]
   simp[List.intercalate,List.intersperse]
end Go.PM
namespace Go.PM
abbrev aW (l:List UInt8):VV := .sc (.string ⟨l.toArray⟩)
theorem VT.Ay {f:Nat} {p:List Value→aE→Option Value} {args:List VV} {r:VV} (hp:Iw f=some p) (h:∀(V:View) (dV:List Value),VL V args dV→∃pv,p dV V.P=some pv∧∀V',VR V' r pv):VT f args r:=by
 intro F P dV dS hF hl aaQ
 obtain⟨pv,h1,h2⟩:=h (bare F P) dV hl
 have e:qP f dV dS P=some (pv,P):=by
  show call cfg gT f dV dS P=some (pv,P)
  rw[WI (E:=cfg) (T:=gT) hp]
  have Vr:p dV P=some pv:=h1
  rw[Vr]
  rfl
 exact⟨P,pv,e,List.prefix_refl _,h2 _⟩
theorem TC.Ay {f:Nat} {p:List Value→aE→Option Value} {args:List VV} {r:VV} (hp:Iw f=some p) (hr:C0.contains f=false) (ha:aJ args=true) (Sg:eQ r=true) (h:∀(V:View) (dV:List Value),VL V args dV→∃pv,p dV V.P=some pv∧∀V',VR V' r pv):TC f args r :=
 TC.of hr ha (aeP ha Sg (VT.Ay hp h))
theorem VL.one {V:View} {x:Value} {ps:List Value} (h:VL V [.sc x] ps):ps=[x]:=by
 cases h with
 |
  cons _ v _ vs h hs =>
  cases h
  cases hs
  rfl
theorem VL.two {V:View} {x y:Value} {ps:List Value} (h:VL V [.sc x,.sc y] ps):ps=[x,y]:=by
 cases h with
 |
  cons _ v _ vs h hs =>
  cases h
  rw[hs.one]
theorem VL.three {V:View} {x y z:Value} {ps:List Value} (h:VL V [.sc x,.sc y,.sc z] ps):ps=[x,y,z]:=by
 cases h with
 |
  cons _ v _ vs h hs =>
  cases h
  rw[hs.two]
theorem Wx (x:Nat) (h:x<4294967296):TC 219 [.sc (.int .u32 (x:Int))] (VI (32-(Lib.bitLen x:Int))):=by
 refine TC.Ay (p:=Cy) rfl rfl rfl rfl fun V ps hl => ?_
 rw[hl.one]
 unfold Cy
 simp only
 rw[if_pos ⟨by omega,by omega⟩,Int.toNat_natCast]
 exact⟨_,rfl,fun _ => .sc _ rfl⟩
theorem afT (n:Nat) (h:n<18446744073709551616):TC 184 [.sc (.int .u64 (n:Int)),VI 10] (aW (Lib.decDigits n)):=by
 refine TC.Ay (p:=uM) rfl rfl rfl rfl fun V ps hl => ?_
 rw[hl.two]
 unfold uM
 simp only
 rw[if_pos ⟨trivial,by omega,by omega⟩,Int.toNat_natCast]
 exact⟨_,rfl,fun _ => .sc _ rfl⟩
theorem Yz (s:List UInt8) (c:Nat) (h:s.length*c≤140737488355328) (hc:c≤9223372036854775807):TC 103 [aW s,VI (c:Int)] (aW (Lib.repeatL s c)):=by
 refine TC.Ay (p:=F6) rfl rfl rfl rfl fun V ps hl => ?_
 rw[hl.two]
 unfold F6
 simp only
 rw[if_pos ⟨by omega,by omega,by rw[Int.toNat_natCast];exact h⟩,Int.toNat_natCast]
 exact⟨_,rfl,fun _ => .sc _ rfl⟩
theorem D5 {V:View}:∀ {xs:List (List UInt8)} {ps:List Value},VL V ((xs.map aW).flatMap aB) ps→strCells ps=some (xs.map fun x=>⟨x.toArray⟩)
 |
  [],ps,h=>by
  have h':VL V [] ps:=h
  cases h'
  rfl
 |
  x::xs,ps,h=>by
  rw[List.map_cons,List.flatMap_cons] at h
  have h':VL V (aW x::(xs.map aW).flatMap aB) ps:=h
  cases h' with
  |
   cons _ v _ vs h1 h2 =>
   cases h1
   rw[strCells,D5 h2]
   rfl
theorem ahR (xs:List (List UInt8)) (hx:xs.length≤140737488355328) (hlen:xs.flatten.length≤140737488355328):TC 186 [aL aW xs,aW []] (aW xs.flatten):=by
 refine TC.Ay (p:=Po) rfl rfl (by simp only[aJ,gW (f:=aW) (fun _=>rfl) (fun _=>rfl),Bool.and_true];rfl) rfl fun V ps hl => ?_
 cases hl with
 |
  cons _ v _ vs h hs =>
  rw[hs.one]
  have ahL:(xs.map fun x=>(⟨x.toArray⟩:ByteArray)).map (·.data.toList)=xs:=by
   rw[List.map_map]
   exact List.map_id' xs
  have jn:Lib.join ((xs.map fun x=>(⟨x.toArray⟩:ByteArray)).map (·.data.toList)) ([]:List UInt8)=xs.flatten:=by rw[ahL,SY]
  have h':VR V (.tree (xs.map aW) .op) v:=h
  clear h
  generalize L9:xs.map aW=es at h'
  cases h' with
  |
   nG k hk =>
   have:xs=[]:=List.map_eq_nil_iff.1 L9
   subst this
   exact⟨_,rfl,fun _ => .sc _ rfl⟩
  |
   tree _ k b o c r e p hF hb ho hc he hk hl =>
   subst L9
   by_cases h0:xs=[]
   ·subst h0
    exact⟨_,rfl,fun _ => .sc _ rfl⟩
   ·obtain⟨y,ys,rfl⟩:=List.exists_cons_of_ne_nil h0
    have e1:e=1:=(he (aW y) (by simp)).symm
    subst e1
    rw[Nat.mul_one] at ho hl
    have hr:V.P.read b o ((y::ys).map aW).length=some ((r.drop o).take ((y::ys).map aW).length):=by
     unfold aE.read
     rw[hb]
     simp only
     rw[if_pos ho]
    have hn:¬((y::ys).map aW).length=0:=by simp
    refine⟨.string ⟨(y::ys).flatten.toArray⟩,?_,fun _ => .sc _ rfl⟩
    unfold Po
    simp only[hn,if_false,hr,Option.bind_some,D5 hl]
    rw[if_pos ⟨by simp,hc,by simpa using hx,by rw[jn];exact hlen⟩,jn]
theorem aaP (s:List UInt8) (c:UInt8):TC 241 [aW s,aW [c]] (VI (Lib.indexByte s c)):=by
 refine TC.Ay (p:=Of) rfl rfl rfl rfl fun V ps hl => ?_
 rw[hl.two]
 exact⟨_,rfl,fun _ => .sc _ rfl⟩
theorem abV (s:List UInt8) (u:Nat) (hs:s.length≤9223372036854775806) (h:Lib.parseUintB 64 s = .ok u):TC 217 [aW s,VI 10,VI 64] (.dL [.sc (.int .u64 (u:Int)),.sc .nilIface]):=by
 refine TC.Ay (p:=yT) rfl rfl rfl rfl fun V ps hl => ?_
 rw[hl.three]
 unfold yT
 simp only
 rw[if_pos ⟨trivial,trivial,hs⟩]
 have h':Lib.parseUintB 64 (⟨s.toArray⟩:ByteArray).data.toList = .ok u:=h
 rw[h']
 refine⟨_,rfl,fun V' => ?_⟩
 exact .dL _ _ (.cons _ _ _ _ (.sc _ rfl) (.cons _ _ _ _ (.sc _ rfl) .nil))
end Go.PM
namespace Go.PM
section
variable {b:Nat}
theorem NO {α:Type} {pre iH post:List α} {o j:Nat} (ho:pre.length=o) (hj:j<iH.length):(pre++iH++post)[o+j]? = iH[j]? := by
 subst ho
 rw[List.append_assoc,List.getElem?_append_right (by omega),Nat.add_sub_cancel_left,List.getElem?_append_left hj]
theorem TB {α:Type} {pre iH post:List α} {o j:Nat} {v:α} (ho:pre.length=o) (hj:j<iH.length):(pre++iH++post).set (o+j) v=pre++iH.set j v++post:=by
 subst ho
 rw[List.append_assoc,List.set_append_right _ _ (by omega),Nat.add_sub_cancel_left,List.set_append_left _ _ hj,List.append_assoc]
theorem Lu {xs:List Nat} {i d:Nat} (h:i<xs.length):(xs.set i d).drop (i+1)=xs.drop (i+1):=by
 rw[List.set_eq_take_append_cons_drop,if_pos h,List.drop_append]
 simp[Nat.min_eq_left (by omega:i≤xs.length)]
theorem Xw {U V W P V2 U3 g:Nat} (hV:V<(V2+1)*P) (hU:U3*P≤U) (hWP:W*P≤V) (hg:g≤W) (h:g*V2≤U3):g*V≤U+V:=by
 have h1:g*V≤g*((V2+1)*P):=Nat.mul_le_mul_left _ (by omega)
 have h2:g*((V2+1)*P)=g*V2*P+g*P:=by grind
 have h3:g*V2*P≤U3*P:=Nat.mul_le_mul_right _ h
 have h4:g*P≤W*P:=Nat.mul_le_mul_right _ hg
 omega
theorem YX {U V P V2 U3 g q:Nat} (hP:0<P) (hV:V2*P≤V) (hU:U<(U3+1)*P) (hq:q*V≤U) (h:U3<g*V2):q<g:=by
 have h1:q*(V2*P)≤q*V:=Nat.mul_le_mul_left _ hV
 have h2:q*V2*P<(U3+1)*P:=by
  have:q*V2*P=q*(V2*P):=by grind
  omega
 have h3:q*V2<U3+1:=Nat.lt_of_mul_lt_mul_right h2
 have h4:q*V2<g*V2:=by omega
 exact Nat.lt_of_mul_lt_mul_right h4
theorem zQ {xs:List Nat} {n t:Nat} (hx:∀d∈xs,d<b) (hn:xs.length=n+1) (ht:xs[n]? = some t):t*b^n≤val b xs∧val b xs<(t+1)*b^n:=by
 have h1:=aY (b:=b) ht
 rw[List.take_of_length_le (by omega)] at h1
 have h2:=oM (b:=b) (xs:=xs.take n) fun d hd=>hx d (List.mem_of_mem_take hd)
 rw[List.length_take,Nat.min_eq_left (by omega)] at h2
 rw[Nat.add_mul,Nat.mul_comm t]
 omega
theorem C7 {xs:List Nat} {n t u:Nat} (hx:∀d∈xs,d<b) (hn:xs.length=n+2) (ht:xs[n+1]? = some t) (hu:xs[n]? = some u):(t*b+u)*b^n≤val b xs∧val b xs<(t*b+u+1)*b^n:=by
 have h1:=aY (b:=b) ht
 rw[List.take_of_length_le (by omega),aY hu] at h1
 have h2:=oM (b:=b) (xs:=xs.take n) fun d hd=>hx d (List.mem_of_mem_take hd)
 rw[List.length_take,Nat.min_eq_left (by omega)] at h2
 have e:(t*b+u)*b^n=b^n*u+b^(n+1)*t:=by rw[Nat.pow_succ];grind
 rw[Nat.add_mul (t*b+u),e]
 omega
theorem Pw {xs:List Nat} {n t u v:Nat} (hx:∀d∈xs,d<b) (hn:xs.length=n+3) (ht:xs[n+2]? = some t) (hu:xs[n+1]? = some u) (hv:xs[n]? = some v):((t*b+u)*b+v)*b^n≤val b xs∧val b xs<((t*b+u)*b+v+1)*b^n:=by
 have h1:=aY (b:=b) ht
 rw[List.take_of_length_le (by omega),aY hu,aY hv] at h1
 have h2:=oM (b:=b) (xs:=xs.take n) fun d hd=>hx d (List.mem_of_mem_take hd)
 rw[List.length_take,Nat.min_eq_left (by omega)] at h2
 have e:((t*b+u)*b+v)*b^n=b^n*v+b^(n+1)*u+b^(n+2)*t:=by rw[Nat.pow_succ,Nat.pow_succ];grind
 rw[Nat.add_mul ((t*b+u)*b+v),e]
 omega
structure vS (b:Nat) (us vs:List Nat) (n u2 u1 u0 v1 v0:Nat):Prop where
 hb:2≤b
 Mg:∀d∈us,d<b
 Mm:∀d∈vs,d<b
 SE:us.length=n+3
 Li:vs.length=n+2
 e2:us[n+2]? = some u2
 e1:us[n+1]? = some u1
 e0:us[n]? = some u0
 f1:vs[n+1]? = some v1
 f0:vs[n]? = some v0
 pos:1≤v1
 less:val b us<b*val b vs
section
variable {us vs:List Nat} {n u2 u1 u0 v1 v0:Nat} (G:vS b us vs n u2 u1 u0 v1 v0)
include G
theorem vS.HE:0<val b vs:=by
 have h:=(C7 G.Mm G.Li G.f1 G.f0).1
 have h1:0<(v1*b+v0)*b^n:=Nat.mul_pos (by have:=Nat.mul_pos G.pos (show 0<b by have:=G.hb;omega);omega) (Nat.pow_pos (by have:=G.hb;omega))
 omega
theorem vS.afH:u2<b:=G.Mg _ (List.mem_of_getElem? G.e2)
theorem vS.Zi:u1<b:=G.Mg _ (List.mem_of_getElem? G.e1)
theorem vS.aeM:u0<b:=G.Mg _ (List.mem_of_getElem? G.e0)
theorem vS.T0:v1<b:=G.Mm _ (List.mem_of_getElem? G.f1)
theorem vS.Z0:v0<b:=G.Mm _ (List.mem_of_getElem? G.f0)
theorem vS.abS:val b us / val b vs<b:=(Nat.div_lt_iff_lt_mul G.HE).2 G.less
theorem vS.top:u2≤v1:=by
 have h1:=(zQ (n:=n+2) G.Mg G.SE G.e2).1
 have h2:=(zQ (n:=n+1) G.Mm G.Li G.f1).2
 have h3:b*val b vs<b*((v1+1)*b^(n+1)):=Nat.mul_lt_mul_of_pos_left h2 (by have:=G.hb;omega)
 have h4:b*((v1+1)*b^(n+1))=(v1+1)*b^(n+2):=by rw[Nat.pow_succ b (n+1)];grind
 have h5:=G.less
 have h6:u2*b^(n+2)<(v1+1)*b^(n+2):=by omega
 have:=Nat.lt_of_mul_lt_mul_right h6
 omega
theorem vS.too {g left:Nat} (hh:u2*b+u1=g*v1+left) (h:left*b+u0<g*v0):val b us / val b vs<g:=by
 have hu:=(Pw G.Mg G.SE G.e2 G.e1 G.e0).2
 have hv:=(C7 G.Mm G.Li G.f1 G.f0).1
 refine YX (P:=b^n) (V2:=v1*b+v0) (U3:=(u2*b+u1)*b+u0) (Nat.pow_pos (by have:=G.hb;omega)) hv hu (Nat.div_mul_le_self _ _) ?_
 rw[hh]
 have:(g*v1+left)*b+u0=g*v1*b+(left*b+u0):=by grind
 have:g*(v1*b+v0)=g*v1*b+g*v0:=by grind
 omega
theorem vS.WE {g left:Nat} (hh:u2*b+u1=g*v1+left) (hg:g≤b) (h:g*v0≤left*b+u0):g≤val b us / val b vs+1:=by
 have hu:=(Pw G.Mg G.SE G.e2 G.e1 G.e0).1
 have hv:=C7 G.Mm G.Li G.f1 G.f0
 have h1:b*b^n≤val b vs:=by
  have:b*b^n≤(v1*b+v0)*b^n:=Nat.mul_le_mul_right _ (by have:=Nat.mul_le_mul_right b G.pos;omega)
  omega
 have h2:=Xw (U:=val b us) (V:=val b vs) (W:=b) (P:=b^n) (V2:=v1*b+v0) (U3:=(u2*b+u1)*b+u0) (g:=g) hv.2 hu h1 hg (by
  rw[hh]
  have:(g*v1+left)*b+u0=g*v1*b+(left*b+u0):=by grind
  have:g*(v1*b+v0)=g*v1*b+g*v0:=by grind
  omega)
 have h3:g≤(val b us+val b vs) / val b vs:=(Nat.le_div_iff_mul_le G.HE).2 h2
 rwa [Nat.add_div_right _ G.HE] at h3
theorem vS.broken {g left:Nat} (hh:u2*b+u1=g*v1+left) (h:b≤left):g<b∧g*v0≤left*b+u0:=by
 have h1:=G.top
 have h2:=G.Zi
 have h3:u2*b≤v1*b:=Nat.mul_le_mul_right _ h1
 have h4:g*v1<b*v1:=by rw[Nat.mul_comm b];omega
 have hg:g<b:=Nat.lt_of_mul_lt_mul_right h4
 refine⟨hg,?_⟩
 have h5:=G.Z0
 have h6:g*v0≤b*b:=Nat.mul_le_mul (by omega) (by omega)
 have h7:b*b≤left*b:=Nat.mul_le_mul_right _ h
 omega
end
theorem WX {P A N T c l x y r W l' c' c1 lo t:Nat} (h:A+P*(c+l)=N+T) (h1:c1=c+t*y) (h2:c1=lo+W*c') (hd:r+lo+l=x+W*l'):(A+P*x)+P*W*(c'+l')=(N+P*r)+(T+P*(t*y)):=by
 subst h1
 have e:r+(c+t*y)+l=x+W*l'+W*c':=by omega
 have e2:P*(r+(c+t*y)+l)=P*(x+W*l'+W*c'):=by rw[e]
 grind
theorem Ye {S S' V t P cl:Nat} (h:S+P*cl=S'+t*V) (hS':S'<P) (hV:V≤P) (ht:t*V≤S+V):cl=0∨cl=1:=by
 rcases Nat.lt_or_ge cl 2 with h1 | h1
 ·omega
 ·have:P*2≤P*cl:=Nat.mul_le_mul_left _ h1
  omega
theorem Xn {S S1 S2 V t P c:Nat} (h1:S+P=S1+t*V) (h2:S1+V=S2+P*c) (hS2:S2<P) (hV:V≤P) (ht:t*V≤S+V) (hS:S<P) (bD:S<t*V):S2+t*V=S+V:=by
 have hc:c=1:=by
  rcases Nat.lt_or_ge c 1 with h | h
  ·have:c=0:=by omega
   subst this
   omega
  ·rcases Nat.lt_or_ge c 2 with h3 | h3
   ·omega
   ·have:P*2≤P*c:=Nat.mul_le_mul_left _ h3
    omega
 subst hc
 omega
end
end Go.PM
namespace Go.PM
abbrev uV (d:Nat):VV := .sc (.int .u32 (d:Int))
abbrev AY (ds:List Nat):VV:=aL uV ds
def bH (n:Nat):VV:=AY (aC 4294967296 n)
theorem RS:∀d:Nat,(aB (uV d)).length=1:=fun _=>rfl
theorem Ve (ds:List Nat):aM (AY ds)=true:=gW RS fun _=>rfl
theorem XY (ds:List Nat):eQ (AY ds)=true:=xF RS (fun _=>rfl) fun _=>rfl
theorem bM (n:Nat):aM (bH n)=true:=Ve _
theorem pW (n:Nat):eQ (bH n)=true:=XY _
theorem DP:bH 0 = .tree [] .op:=by rw[bH,bW];rfl
theorem Ud (a b:Nat) (ha:a<18446744073709551616) (hb:0<b):dF .quo (.int .u64 (a:Int)) (.int .u64 (b:Int))=some (.int .u64 ((a / b:Nat):Int)):=by
 have h1:¬((b:Int)=0):=by omega
 have h2:(a:Int).tdiv (b:Int)=((a / b:Nat):Int):=by rw[Int.tdiv_eq_ediv_of_nonneg (by omega)];simp
 have h3:a / b≤a:=Nat.div_le_self _ _
 simp only[dF,if_true,h1,if_false,h2]
 rw[fH _ (by omega)]
theorem OL (a b:Nat) (hb:0<b):dF .rem (.int .u64 (a:Int)) (.int .u64 (b:Int))=some (.int .u64 ((a % b:Nat):Int)):=by
 have h1:¬((b:Int)=0):=by omega
 have h2:(a:Int).tmod (b:Int)=((a % b:Nat):Int):=by rw[Int.tmod_eq_emod_of_nonneg (by omega)];simp
 simp only[dF,if_true,h1,if_false,h2]
theorem ahT (n s:Nat) (hn:n<4294967296) (hs:s≤31):dF .shl (.int .u64 (n:Int)) (.int .i64 (s:Int))=some (.int .u64 ((n*2^s:Nat):Int)):=by
 have h1:¬((s:Int)<0):=by omega
 have h2:Nat.min (Int.toNat (s:Int)) IntKind.u64.bits=s:=by
  rw[Int.toNat_natCast]
  exact Nat.min_eq_left (by show s≤64;omega)
 have h3:2^s≤2^31:=Nat.pow_le_pow_right (by decide) hs
 have h4:n*2^s≤n*2^31:=Nat.mul_le_mul_left _ h3
 simp only[dF,h1,if_false,h2]
 congr 2
 have e:(n:Int)*2^s=((n*2^s:Nat):Int):=by simp
 rw[e]
 exact fH _ (by omega)
theorem ZF (n s:Nat) (hs:s≤31):dF .shr (.int .u64 (n:Int)) (.int .i64 (s:Int))=some (.int .u64 ((n / 2^s:Nat):Int)):=by
 have h1:¬((s:Int)<0):=by omega
 have h2:Nat.min (Int.toNat (s:Int)) IntKind.u64.bits=s:=by
  rw[Int.toNat_natCast]
  exact Nat.min_eq_left (by show s≤64;omega)
 simp only[dF,h1,if_false,h2]
 congr 2
 rw[Int.fdiv_eq_ediv_of_nonneg _ (by exact Int.le_of_lt (Int.pow_pos (by decide)))]
 simp
theorem aiK (a m s:Nat) (ha:a<2^s) (hm:m*2^s+a<4294967296):dF .or (.int .u32 (a:Int)) (.int .u32 ((m*2^s:Nat):Int))=some (.int .u32 ((a+m*2^s:Nat):Int)):=by
 have e:a ||| (m*2^s)=a+m*2^s:=by
  have:=Nat.shiftLeft_add_eq_or_of_lt ha m
  rw[Nat.shiftLeft_eq] at this
  rw[Nat.or_comm,←this,Nat.add_comm]
 have e1:(BitVec.ofInt IntKind.u32.bits (a:Int) ||| BitVec.ofInt IntKind.u32.bits ((m*2^s:Nat):Int)).toNat=a+m*2^s:=by
  show (BitVec.ofInt 32 (a:Int) ||| BitVec.ofInt 32 ((m*2^s:Nat):Int)).toNat=a+m*2^s
  rw[BitVec.toNat_or,BitVec.ofInt_natCast,BitVec.ofInt_natCast,BitVec.toNat_ofNat,BitVec.toNat_ofNat,Nat.mod_eq_of_lt (by omega),Nat.mod_eq_of_lt (by omega),e]
 simp only[dF,if_true,e1]
 rw[wrap32,Nat.mod_eq_of_lt (by omega)]
section
variable {rows:List Nat} {b g c n e:Nat} {w:Bool} {H:aA}
theorem Jq {m d:Nat} (hr:aP H b g=some (rows.map uV,1,w)) (hn:n≤rows.length) (hc:n≤c) (he:rows.take n=aC 4294967296 m):fz (d+2) H (.ref b g 0 n c)=some (bH m):=by
 have:aM (.ref b g 0 n c)=false:=rfl
 unfold fz
 simp only[this,hr,Bool.false_eq_true,if_false]
 have CL:aJ ((rows.map uV).take n)=true:=by rw[←List.map_take];exact eO fun _=>rfl
 rw[if_pos ⟨by simpa using hn,hc⟩,List.drop_zero,mapM_pure CL,←List.map_take,he]
 rfl
theorem NT {m:Nat} (hr:aP H b g=some (rows.map uV,1,w)) (hn:n≤rows.length) (hc:n≤c) (he:rows.take n=aC 4294967296 m):fz depth H (.ref b g 0 n c)=some (bH m):=Jq (d:=6) hr hn hc he
theorem bG {d:Nat} {u u' v v':VV} (h1:fz (d+1) H u=some u') (h2:fz (d+1) H v=some v'):fz (d+2) H (.dL [u,v])=some (.dL [u',v']):=by
 have e:fz (d+2) H (.dL [u,v])=if aM (.dL [u,v])=true then some (.dL [u,v]) else ([u,v].mapM (fz (d+1) H)).map .dL:=rfl
 rw[e]
 by_cases hp:aM (.dL [u,v])=true
 ·rw[if_pos hp]
  simp only[aM,aJ,Bool.and_eq_true,and_true] at hp
  rw[aH hp.1] at h1
  rw[aH hp.2] at h2
  cases h1
  cases h2
  rfl
 ·rw[if_neg hp,List.mapM_cons,h1,List.mapM_cons,h2]
  rfl
theorem iQ {j d:Nat} (hr:aP H b g=some (rows.map uV,1,w)) (hj:rows[j]? = some d):dN false 1 (.ptr b g j 0) H=some (uV d):=tN hr hj
theorem NV {xs:List Nat} {m d:Nat} (hm:xs.length=m+1) (hd:xs[m]? = some d) (h:d≠0):xs.getLast? ≠ some 0:=by
 rw[List.getLast?_eq_getElem?,hm,Nat.add_sub_cancel,hd]
 simpa using h
end
theorem ZT {rows:List Nat} {b g n c:Nat} {w:Bool} {H:aA} {lo:Nat} (hr:aP H b g=some (rows.map uV,1,w)) (hn:n≤rows.length) (hc:n≤c) (Df:n≤70368744177664) (hd:∀d∈rows.take n,d<4294967296) :
  oO 182 [.ref b g 0 n c] lo H fun r H'=>H'=H∧∃k,k≤n∧r = .ref b g 0 k c∧rows.take k=aC 4294967296 (val 4294967296 (rows.take n)):=by
 refine oO.walk ⟨true,false⟩ zU (Nat.le_of_ble_eq_true rfl) ?_
 simp only[vK,sL,VX,Nat.reduceEqDiff,Nat.reduceAdd]
 refine bC (fun(k:Nat) ρ H'=>k≤n∧H'=H∧val 4294967296 (rows.take k)=val 4294967296 (rows.take n)∧ρ 0 = .ref b g 0 k c) (fun k=>k) n ⟨Nat.le_refl _,rfl,rfl,rfl⟩ ?_
 rintro k ρ H' ⟨hk,rfl,hv,h0⟩
 have e0:pV (.ref b g 0 k c) H'=some (VI k):=fM hr
 have done:(rows.take k).getLast? ≠ some 0→rows.take k=aC 4294967296 (val 4294967296 (rows.take n)):=fun fR=>by
  rw[←hv,Lj (by decide) (fun d h=>hd d ?_) fR]
  exact(List.take_sublist_take_left hk).mem h
 rcases Nat.eq_zero_or_pos k with hz | hp
 ·subst hz
  simp only[fJ,h0,e0,Int.reduceLT,Int.natCast_zero,VX,Nat.reduceEqDiff,Nat.reduceAdd]
  exact⟨0,hk,rfl,done (by simp)⟩
 ·obtain⟨m,rfl⟩:∃m,k=m+1:=⟨k-1,by omega⟩
  obtain⟨d,YP⟩:∃d,rows[m]? = some d:=⟨_,List.getElem?_eq_getElem (by omega)⟩
  have CL:(0:Int)<((m+1:Nat):Int):=by omega
  have w1:IntKind.i64.wrap (((m+1:Nat):Int)-1)=(m:Int):=by rw[wrap64 (by omega) (by omega)];omega
  have e1:bJ 1 (.ref b g 0 (m+1) c) (VI m) H'=some (.ptr b g m 0):=by rw[bB hr (by omega),Nat.zero_add]
  have e2:=iQ hr YP
  by_cases Cl:(d:Int)=0
  ·have hd1:d=0:=by omega
   subst hd1
   have e3:Fs 1 (.ref b g 0 (m+1) c) none (some (VI m)) none H'=some (.ref b g 0 m c):=qV hr (by omega)
   simp only[fJ,h0,e0,CL,w1,e1,e2,e3,Cl,VX,Nat.reduceEqDiff,Nat.reduceAdd]
   refine⟨m,by omega,by omega,?_,rfl⟩
   rw[←hv,aY YP,Nat.mul_zero,Nat.add_zero]
  ·simp only[fJ,h0,e0,CL,w1,e1,e2,Cl,VX,Nat.reduceEqDiff,Nat.reduceAdd]
   refine⟨m+1,hk,rfl,done (NV (m:=m) (d:=d) (by rw[List.length_take];omega) ?_ (by omega))⟩
   rw[List.getElem?_take_of_lt (by omega)]
   exact YP
theorem Vc (ds:List Nat) (t:TK) {lo:Nat} {H:aA} (h:∀d∈ds,d<4294967296) (hlen:ds.length≤70368744177664) :
  oO 182 [.tree (ds.map uV) t] lo H fun r H'=>H'=H∧∃t',(t'=t∨t' = .op)∧r = .tree ((aC 4294967296 (val 4294967296 ds)).map uV) t':=by
 refine oO.walk ⟨true,false⟩ zU (Nat.le_of_ble_eq_true rfl) ?_
 simp only[vK,sL,VX,Nat.reduceEqDiff,Nat.reduceAdd]
 refine bC (fun(s:List Nat×TK) ρ H'=>(∀d∈s.1,d<4294967296)∧val 4294967296 s.1=val 4294967296 ds∧s.1.length≤ds.length∧H'=H∧(s.2=t∨s.2 = .op)∧ρ 0 = .tree (s.1.map uV) s.2) (fun s=>s.1.length) (ds,t) ⟨h,rfl,Nat.le_refl _,rfl,.inl rfl,rfl⟩ ?_
 rintro⟨xs,t'⟩ ρ H' ⟨hx,hv,hl,rfl,ht,h0⟩
 simp only at hx hv hl ht h0
 have done:xs.getLast? ≠ some 0→xs=aC 4294967296 (val 4294967296 ds):=fun fR=>by rw[←hv,Lj (by decide) hx fR]
 rcases Nat.eq_zero_or_pos xs.length with hz | hp
 ·have hxn:xs=[]:=List.length_eq_zero_iff.1 hz
  subst hxn
  simp only[fJ,h0,Int.reduceLT,Int.natCast_zero,VX,Nat.reduceEqDiff,Nat.reduceAdd]
  exact⟨t',ht,by rw[←done (by simp)];rfl⟩
 ·obtain⟨m,hm⟩:∃m,xs.length=m+1:=⟨xs.length-1,by omega⟩
  obtain⟨d,hd⟩:∃d,xs[m]? = some d:=⟨_,List.getElem?_eq_getElem (by omega)⟩
  have CL:(0:Int)<((m+1:Nat):Int):=by omega
  have w1:IntKind.i64.wrap (((m+1:Nat):Int)-1)=(m:Int):=by rw[wrap64 (by omega) (by omega)];omega
  have e1:=aI (f:=uV) (t:=t') (H:=H') (size:=1) (k := .i64) hd rfl
  by_cases Cl:(d:Int)=0
  ·have hd1:d=0:=by omega
   subst hd1
   have e2:=IB (f:=uV) (size:=1) (t:=t') (H:=H') (k2 := .i64) (xs:=xs) (h:=m) RS (by omega) (by omega)
   have Q5:xs=xs.take m++[0]:=by
    have:=List.take_append_drop m xs
    have h3:=(List.getElem?_eq_some_iff.1 hd)
    rw[List.drop_eq_getElem_cons h3.1,h3.2,List.drop_of_length_le (by omega)] at this
    exact this.symm
   simp only[fJ,h0,hm,CL,w1,e1,e2,Cl,VX,Nat.reduceEqDiff,Nat.reduceAdd]
   refine⟨(xs.take m,.op),by simp only[List.length_take];omega,fun d hd=>hx d (List.mem_of_mem_take hd),?_,by simp only[List.length_take];omega,.inr rfl,rfl⟩
   rw[←hv]
   conv=>rhs;rw[Q5]
   rw[sB]
   simp
  ·simp only[fJ,h0,hm,CL,w1,e1,Cl,VX,Nat.reduceEqDiff,Nat.reduceAdd]
   exact⟨t',ht,by rw[←done (NV hm hd (by omega))]⟩
theorem rA {rows:List Nat} {b g n c:Nat} {w:Bool} {H:aA} {K:VV→aA→Prop} {m lo:Nat} (hr:aP H b g=some (rows.map uV,1,w)) (hn:n≤rows.length) (hc:n≤c) (Df:n≤70368744177664) (hd:∀d∈rows.take n,d<4294967296) (hm:val 4294967296 (rows.take n)=m)
  (hk:∀k,k≤n→rows.take k=aC 4294967296 m→K (.ref b g 0 k c) H):cT 182 [.ref b g 0 n c] lo H K:=by
 refine kI rfl ((ZT hr hn hc Df hd).mono ?_)
 rintro r H' ⟨rfl,k,h1,rfl,h2⟩
 rw[hm] at h2
 exact hk k h1 h2
theorem Kp {ds:List Nat} {t:TK} {lo:Nat} {H:aA} {K:VV→aA→Prop} {m:Nat} (h:∀d∈ds,d<4294967296) (hlen:ds.length≤70368744177664) (hm:val 4294967296 ds=m) (hk:∀t',(t'=t∨t' = .op)→K (.tree ((aC 4294967296 m).map uV) t') H):cT 182 [.tree (ds.map uV) t] lo H K:=by
 refine kI rfl ((Vc ds t h hlen).mono ?_)
 rintro r H' ⟨rfl,t',h1,rfl⟩
 rw[hm]
 exact hk t' h1
theorem acZ {H:aA} {m:Nat} {t:TK} (ht:t = .cl 1∨t = .op):fz depth H (.tree ((aC 4294967296 m).map uV) t)=some (bH m):=by
 rcases ht with rfl | rfl
 ·exact aeY (eO fun _=>rfl)
 ·exact aG (bM m)
end Go.PM
namespace Go.PM
theorem mR (n:Nat) (h:n<18446744073709551616):TC 101 [VK .u64 n] (bH n):=by
 refine TC.walk ⟨true,false⟩ NR rfl (Nat.le_of_ble_eq_true rfl) rfl (pW _) ?_
 have e1:=X7 (H:=[]) (z:=[.int .u32 0]) (u:=uV (n % 4294967296)) (v:=uV (n / 4294967296 % 4294967296)) rfl rfl rfl rfl rfl
 have hm:∀d∈[n % 4294967296,n / 4294967296 % 4294967296],d<4294967296:=by
  intro d hd
  simp only[List.mem_cons,List.not_mem_nil,or_false] at hd
  rcases hd with rfl | rfl<;>exact Nat.mod_lt _ (by decide)
 have hv:val 4294967296 [n % 4294967296,n / 4294967296 % 4294967296]=n:=by
  simp only[val]
  have:=Nat.mod_add_div n 4294967296
  rw[Nat.mod_eq_of_lt (show n / 4294967296<4294967296 by omega)]
  omega
 simp only[JX,Fv,wrap32,rO,e1,VX,Nat.reduceEqDiff,Nat.reduceAdd]
 refine Kp (ds:=[n % 4294967296,n / 4294967296 % 4294967296]) (t := .cl 1) hm (by show 2≤70368744177664;decide) hv fun t' ht => ?_
 simp only[VX,Nat.reduceEqDiff,Nat.reduceAdd]
 exact acZ ht
theorem AU (n:Nat) (hn:(aC 4294967296 n).length≤17592186044416):TC 218 [bH n] (if (aC 4294967296 n).length≤2 then .dL [VK .u64 n,VB true] else .dL [VK .u64 0,VB false]):=by
 refine TC.walk ⟨true,false⟩ EO rfl (Nat.le_of_ble_eq_true rfl) (by simp[aJ,bM]) (by split<;>rfl) ?_
 have hv:=cA (b:=4294967296) (by decide) n
 have hl:=fF (b:=4294967296) (by decide) n
 unfold bH AY
 generalize aC 4294967296 n=ds at *
 have w1:IntKind.i64.wrap ((ds.length:Int)-1)=(ds.length:Int)-1:=wrap64 (by omega) (by omega)
 simp only[Ba,xA,w1,VX,Nat.reduceEqDiff,Nat.reduceAdd]
 by_cases h2:ds.length≤2
 ·rw[if_pos h2]
  have c2:(ds.length:Int)≤2:=by omega
  refine bC (fun(j:Nat) ρ H=>j≤ds.length∧H=[]∧ρ 0=aL uV ds∧ρ 4=VK .u64 (val 4294967296 (ds.drop j):Nat)∧ρ 5=VI ((j:Int)-1)) (fun j=>j) ds.length ⟨Nat.le_refl _,rfl,rfl,by rw[List.drop_length];rfl,rfl⟩ ?_
  rintro j ρ H ⟨hj,rfl,g0,g4,g5⟩
  by_cases hz:(0:Int)≤(j:Int)-1
  ·obtain⟨i,rfl⟩:∃i,j=i+1:=⟨j-1,by omega⟩
   obtain⟨x,hx⟩:∃x,ds[i]? = some x:=⟨_,List.getElem?_eq_getElem (by omega)⟩
   have Km:((i+1:Nat):Int)-1=(i:Int):=by omega
   rw[Km] at g5 hz
   have e1:=aI (f:=uV) (t := .op) (H:=[]) (size:=1) (k := .i64) hx rfl
   have lx:=hl x (List.mem_of_getElem? hx)
   have ld:=oM (b:=4294967296) (xs:=ds.drop (i+1)) fun d hd=>hl d (List.mem_of_mem_drop hd)
   have hle:(ds.drop (i+1)).length≤1:=by rw[List.length_drop];omega
   have hpw:4294967296^(ds.drop (i+1)).length≤4294967296^1:=Nat.pow_le_pow_right (by decide) hle
   rw[Nat.pow_one] at hpw
   have w2:IntKind.i64.wrap ((i:Int)-1)=(i:Int)-1:=wrap64 (by omega) (by omega)
   have w3:IntKind.u64.wrap (x:Int)=(x:Int):=fH _ (by omega)
   have w4:IntKind.u64.wrap (((val 4294967296 (ds.drop (i+1))*4294967296:Nat):Int)+(x:Int))=((val 4294967296 (ds.drop i):Nat):Int):=by
    rw[sJ hx,←Int.natCast_add,fH _ (by omega)]
    congr 1
    omega
   have w5:=DJ (val 4294967296 (ds.drop (i+1))) .u64 (by omega)
   simp only[lF,g0,g4,g5,hz,c2,e1,w2,w3,w4,w5,VX,Nat.reduceEqDiff,Nat.reduceAdd]
   exact⟨i,by omega,by omega,by (repeat' apply And.intro)<;>first | rfl | trivial⟩
  ·have RZ:j=0:=by omega
   subst RZ
   rw[List.drop_zero,hv] at g4
   simp only[lF,g0,g4,g5,hz,c2,VX,Nat.reduceEqDiff,Nat.reduceAdd]
   exact aG rfl
 ·rw[if_neg h2]
  have c2:¬(ds.length:Int)≤2:=by omega
  have c3:(0:Int)≤(ds.length:Int)-1:=by omega
  refine bC (fun(j:Nat) ρ H=>H=[]∧ρ 0=aL uV ds∧ρ 4=VK .u64 0∧ρ 5=VI ((ds.length:Int)-1)) (fun j=>j) 0 ⟨rfl,rfl,rfl,rfl⟩ ?_
  rintro j ρ H ⟨rfl,g0,g4,g5⟩
  simp only[lF,g0,g4,g5,c2,c3,VX,Nat.reduceEqDiff,Nat.reduceAdd]
  exact aG rfl
theorem jV (a b:Nat) (ha:(aC 4294967296 a).length≤17592186044416) (hb:(aC 4294967296 b).length≤17592186044416):TC 170 [bH a,bH b] (VI (fC a b)):=by
 refine TC.walk ⟨true,false⟩ HB rfl (Nat.le_of_ble_eq_true rfl) (by simp[aJ,bM]) rfl ?_
 have fin:∀ {x:Int},x=fC a b→fz depth [] (VI x)=some (VI (fC a b)):=fun h=>by rw[h];exact aG rfl
 unfold bH AY
 by_cases hl:(((aC 4294967296 a).length:Nat):Int)=(((aC 4294967296 b).length:Nat):Int)
 ·have zA:(aC 4294967296 a).length=(aC 4294967296 b).length:=by omega
  have w1:IntKind.i64.wrap ((((aC 4294967296 b).length:Nat):Int)-1)=(((aC 4294967296 b).length:Nat):Int)-1:=wrap64 (by omega) (by omega)
  simp only[rZ,oX,hl,w1,VX,Nat.reduceEqDiff,Nat.reduceAdd]
  refine bC (fun(j:Nat) ρ H=>j≤(aC 4294967296 b).length∧H=[]∧(aC 4294967296 a).drop j=(aC 4294967296 b).drop j∧ρ 0=aL uV (aC 4294967296 a)∧ρ 1=aL uV (aC 4294967296 b)∧ρ 5=VI ((j:Int)-1)) (fun j=>j) (aC 4294967296 b).length ⟨Nat.le_refl _,rfl,by rw[List.drop_length,←zA,List.drop_length],rfl,rfl,rfl⟩ ?_
  rintro j ρ H ⟨hj,rfl,hd,h0,h1,h5⟩
  by_cases hz:(0:Int)≤(j:Int)-1
  ·obtain⟨i,rfl⟩:∃i,j=i+1:=⟨j-1,by omega⟩
   obtain⟨x,hx⟩:∃x,(aC 4294967296 a)[i]? = some x:=⟨_,List.getElem?_eq_getElem (by omega)⟩
   obtain⟨y,hy⟩:∃y,(aC 4294967296 b)[i]? = some y:=⟨_,List.getElem?_eq_getElem (by omega)⟩
   have Km:((i+1:Nat):Int)-1=(i:Int):=by omega
   have e1:=aI (f:=uV) (t := .op) (H:=[]) (size:=1) (k := .i64) hx rfl
   have e2:=aI (f:=uV) (t := .op) (H:=[]) (size:=1) (k := .i64) hy rfl
   rw[Km] at h5 hz
   have w2:IntKind.i64.wrap ((i:Int)-1)=(i:Int)-1:=wrap64 (by omega) (by omega)
   by_cases Ap:(x:Int)=(y:Int)
   ·simp only[kK,h0,h1,h5,hz,e1,e2,Ap,w2,VX,Nat.reduceEqDiff,Nat.reduceAdd]
    have aiD:x=y:=by omega
    subst aiD
    refine⟨i,by omega,by omega,?_⟩
    obtain⟨g1,g2⟩:=List.getElem?_eq_some_iff.1 hx
    obtain⟨g3,g4⟩:=List.getElem?_eq_some_iff.1 hy
    rw[List.drop_eq_getElem_cons g1,List.drop_eq_getElem_cons g3,g2,g4,hd]
    exact⟨rfl,rfl⟩
   ·by_cases bD:(x:Int)<(y:Int)
    ·simp only[kK,h0,h1,h5,hz,e1,e2,Ap,bD,VX,Nat.reduceEqDiff,Nat.reduceAdd]
     refine fin ?_
     have:=DF (fF (by decide) a) zA hx hy hd (by omega)
     rw[cA (by decide),cA (by decide)] at this
     simp[fC,this]
    ·simp only[kK,h0,h1,h5,hz,e1,e2,Ap,bD,VX,Nat.reduceEqDiff,Nat.reduceAdd]
     refine fin ?_
     have:=DF (fF (by decide) b) zA.symm hy hx hd.symm (by omega)
     rw[cA (by decide),cA (by decide)] at this
     rw[fC,if_neg (by omega),if_neg (by omega)]
  ·have RZ:j=0:=by omega
   subst RZ
   simp only[kK,h0,h1,h5,hz,VX,Nat.reduceEqDiff,Nat.reduceAdd]
   refine fin ?_
   have:=Rl (b:=4294967296) (by decide) (by simpa using hd)
   subst this
   simp[fC]
 ·by_cases bD:(((aC 4294967296 a).length:Nat):Int)<(((aC 4294967296 b).length:Nat):Int)
  ·simp only[rZ,oX,hl,bD,VX,Nat.reduceEqDiff,Nat.reduceAdd]
   refine fin ?_
   have:=Ds (b:=4294967296) (by decide) (m:=a) (n:=b) (by omega)
   simp[fC,this]
  ·simp only[rZ,oX,hl,bD,VX,Nat.reduceEqDiff,Nat.reduceAdd]
   refine fin ?_
   have:=Ds (b:=4294967296) (by decide) (m:=b) (n:=a) (by omega)
   rw[fC,if_neg (by omega),if_neg (by omega)]
end Go.PM
namespace Go.PM
section
variable {b:Nat}
theorem Hm (hb:2≤b) (n i:Nat):(aC b n).getD i 0=n / b^i % b:=by
 induction i generalizing n with
 |
  zero =>
  by_cases h:n=0
  ·subst h;simp[bW]
  ·rw[jH hb h,List.getD_cons_zero,Nat.pow_zero,Nat.div_one]
 |
  succ i ih =>
  by_cases h:n=0
  ·subst h;simp[bW]
  ·rw[jH hb h,List.getD_cons_succ,ih,Nat.div_div_eq_div_mul,Nat.pow_succ,Nat.mul_comm b]
theorem Dx (hb:2≤b) {n i:Nat}:i<(aC b n).length↔n / b^i≠0:=by
 induction i generalizing n with
 |
  zero =>
  rw[Nat.pow_zero,Nat.div_one,List.length_pos_iff]
  exact not_congr (lM hb)
 |
  succ i ih =>
  by_cases h:n=0
  ·subst h;simp[bW]
  ·rw[jH hb h,List.length_cons,Nat.add_lt_add_iff_right,ih,Nat.div_div_eq_div_mul,Nat.pow_succ,Nat.mul_comm b]
theorem JH (hb:2≤b) {n i:Nat} (h:i<(aC b n).length):(aC b n)[i]? = some (n / b^i % b):=by
 rw[←Hm hb,List.getD_eq_getElem?_getD,List.getElem?_eq_getElem h]
 rfl
theorem Wr (hb:2≤b) (n i:Nat):(aC b n).drop i=aC b (n / b^i):=by
 induction i generalizing n with
 | zero=>simp
 |
  succ i ih =>
  by_cases h:n=0
  ·subst h;simp[bW]
  ·rw[jH hb h,List.drop_succ_cons,ih,Nat.div_div_eq_div_mul,Nat.pow_succ,Nat.mul_comm b]
theorem rD (n i:Nat):n / b^(i+1)=n / b^i / b:=by rw[Nat.div_div_eq_div_mul,Nat.pow_succ]
theorem Ea (xs:List Nat) (i:Nat):val b (xs.take (i+1))=val b (xs.take i)+b^i*xs.getD i 0:=by
 by_cases h:i<xs.length
 ·rw[aY (List.getElem?_eq_getElem h),List.getD_eq_getElem?_getD,List.getElem?_eq_getElem h]
  rfl
 ·rw[jP (by omega),jP (by omega),List.getD_eq_getElem?_getD,List.getElem?_eq_none (by omega)]
  simp
theorem Nc (hb:2≤b) {n d q:Nat} (hn:n≠0) (h:n=d+b*q) (hd:d<b):aC b n=d::aC b q:=by
 rw[jH hb hn,h,Nat.add_mul_mod_self_left,Nat.mod_eq_of_lt hd,Nat.add_mul_div_left _ _ (by omega),Nat.div_eq_of_lt hd,Nat.zero_add]
theorem VU (hb:2≤b) {x y c:Nat} (h:x+y+c≠0):aC b (x+y+c)=(x % b+y % b+c) % b::aC b (x / b+y / b+(x % b+y % b+c) / b):=by
 refine Nc hb h ?_ (Nat.mod_lt _ (by omega))
 have h1:=Nat.mod_add_div x b
 have h2:=Nat.mod_add_div y b
 have h3:=Nat.mod_add_div (x % b+y % b+c) b
 have e:b*(x / b+y / b+(x % b+y % b+c) / b)=b*(x / b)+b*(y / b)+b*((x % b+y % b+c) / b):=by grind
 omega
theorem V4 (hb:2≤b) {x d c:Nat} (h:x*d+c≠0):aC b (x*d+c)=(x % b*d+c) % b::aC b (x / b*d+(x % b*d+c) / b):=by
 refine Nc hb h ?_ (Nat.mod_lt _ (by omega))
 have h1:=Nat.mod_add_div x b
 have h3:=Nat.mod_add_div (x % b*d+c) b
 have e:b*(x / b*d+(x % b*d+c) / b)=b*(x / b)*d+b*((x % b*d+c) / b):=by grind
 have e2:x*d=x % b*d+b*(x / b)*d:=by
  conv=>lhs;rw[←h1,Nat.add_mul]
 omega
theorem N3 (hb:2≤b) {m n k:Nat} (hm:(aC b m).length≤k) (hn:(aC b n).length≤k):(aC b (m+n)).length≤k+1:=by
 refine lW hb ?_
 have y1:=gK hb m
 have y2:=gK hb n
 have y3:b^(aC b m).length≤b^k:=Nat.pow_le_pow_right (by omega) hm
 have y4:b^(aC b n).length≤b^k:=Nat.pow_le_pow_right (by omega) hn
 have y5:b^k*2≤b^k*b:=Nat.mul_le_mul_left _ hb
 rw[Nat.pow_succ]
 omega
theorem Oz (hb:2≤b) (m n:Nat):(aC b (m*n)).length≤(aC b m).length+(aC b n).length:=by
 refine lW hb ?_
 rw[Nat.pow_add]
 exact Nat.mul_lt_mul'' (gK hb m) (gK hb n)
theorem CW (hb:2≤b) {c:Nat} (h:c≠0) (hc:c<b):aC b c=[c]:=by
 rw[jH hb h,Nat.mod_eq_of_lt hc,Nat.div_eq_of_lt hc,bW]
end
end Go.PM