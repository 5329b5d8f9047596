/- Texts of a claim, in one: part 7. -/
import Derived.KernelRfl
import Derived.Lib.ItoaNum
import Derived.Lib.Join
import Derived.Test.YtjmflicajplclaaGreatDoorKXf
set_option linter.unusedSimpArgs false
set_option linter.unusedVariables false
namespace Go.PM
def uG (n:Nat) (H:aA) (bare:Bool) (x:List ByteArray) (c:VV):Prop :=
 (bare=true∧x=[]∧c = .tree [] .nil)∨∃b,n<b∧c = .ref b 0 0 x.length (x.length+room x.length)∧aH H b 0=some ((jT jG x).map sV,1,true)
def Fk (n:Nat) (H:aA) (c:VV):Prop:=∃b,n<b∧c = .ref b 0 0 1 1∧aH H b 0=some ([sV jG],1,true)
theorem uG.cL {n:Nat} {H H':aA} {bare:Bool} {x:List ByteArray} {c:VV} (h:uG n H bare x c) (hk:∀b g x,n<b→aH H b g=some x→aH H' b g=some x):uG n H' bare x c:=by
 rcases h with h | ⟨b,h1,h2,h3⟩
 ·exact .inl h
 ·exact .inr ⟨b,h1,h2,hk _ _ _ h1 h3⟩
theorem Fk.cL {n:Nat} {H H':aA} {c:VV} (h:Fk n H c) (hk:∀b g x,n<b→aH H b g=some x→aH H' b g=some x):Fk n H' c:=by
 obtain⟨b,h1,h2,h3⟩:=h
 exact⟨b,h1,h2,hk _ _ _ h1 h3⟩
theorem uG.cell {n:Nat} {H:aA} {bare:Bool} {x:List ByteArray} {c:VV} (h:uG n H bare x c):aB c=[c]∧cC c=true∧∀k,k≤n→dY k c=true:=by
 rcases h with⟨_,_,rfl⟩ | ⟨b,h1,rfl,_⟩
 ·exact⟨rfl,rfl,fun _ _=>rfl⟩
 ·exact⟨rfl,rfl,fun k hk=>by simp[dY];omega⟩
theorem Fk.cell {n:Nat} {H:aA} {c:VV} (h:Fk n H c):aB c=[c]∧cC c=true∧∀k,k≤n→dY k c=true:=by
 obtain⟨b,h1,rfl,_⟩:=h
 exact⟨rfl,rfl,fun k hk=>by simp[dY];omega⟩
theorem uG.fz {n d:Nat} {H:aA} {bare:Bool} {x:List ByteArray} {c:VV} (h:uG n H bare x c):PM.fz (d+2) H c=some (fM x):=by
 rcases h with⟨_,rfl,rfl⟩ | ⟨b,h1,rfl,h3⟩
 ·show PM.fz ((d+1)+1) H _=_
  unfold PM.fz
  have:bA (.tree [] .nil)=false:=rfl
  simp only[this,Bool.false_eq_true,if_false]
  rfl
 ·show PM.fz ((d+1)+1) H _=_
  unfold PM.fz
  have:bA (.ref b 0 0 x.length (x.length+room x.length))=false:=rfl
  simp only[this,h3,Bool.false_eq_true,if_false]
  rw[if_pos ⟨by simp[jT],Nat.le_add_right _ _⟩,List.drop_zero,←List.map_take,P6,mapM_pure (n:=d) (fJ fun _=>rfl)]
  rfl
theorem Fk.fz {n d:Nat} {H:aA} {c:VV} (h:Fk n H c):PM.fz (d+2) H c=some (fM [jG]):=by
 obtain⟨b,h1,rfl,h3⟩:=h
 show PM.fz ((d+1)+1) H _=_
 unfold PM.fz
 have:bA (.ref b 0 0 1 1)=false:=rfl
 simp only[this,h3,Bool.false_eq_true,if_false]
 rw[if_pos ⟨by simp,Nat.le_refl _⟩,List.drop_zero,List.take_of_length_le (by simp),mapM_pure (n:=d) (by rfl)]
 rfl
def pI (H:aA) (bare:Bool) (xs:List (List ByteArray)) (b:Nat):Prop :=
 ∃cells yA,aH H b 0=some (cells++yA,1,true)∧cells.length=xs.length∧yA.length=room xs.length∧(∀(i:Nat) x,xs[i]? = some x→∃c,cells[i]? = some c∧uG b H bare x c)∧∀c∈yA,Fk b H c
theorem pI.cL {H H':aA} {bare:Bool} {xs:List (List ByteArray)} {b:Nat} (h:pI H bare xs b) (hk:∀b' g x,b≤b'→aH H b' g=some x→aH H' b' g=some x):pI H' bare xs b:=by
 obtain⟨cells,yA,h1,h2,h3,h4,h5⟩:=h
 exact⟨cells,yA,hk _ _ _ (Nat.le_refl _) h1,h2,h3,fun i x hx=>by
  obtain⟨c,k1,k2⟩:=h4 i x hx
  exact⟨c,k1,k2.cL fun b' g x hb=>hk b' g x (Nat.le_of_lt hb)⟩,fun c hc=>(h5 c hc).cL fun b' g x hb=>hk b' g x (Nat.le_of_lt hb)⟩
theorem pI.pre {H H':aA} {bare:Bool} {xs:List (List ByteArray)} {b:Nat} (h:pI H bare xs b) (hh:H <+: H'):pI H' bare xs b:=h.cL fun _ _ _ _=>cP hh
def ayC (xs:List (List ByteArray)) (bare:Bool) (n:Nat) (r:VV) (L:aA):Prop :=
 (bare=true∧xs=[]∧r = .tree [] .nil∧L=[])∨(r = .ref n 0 0 xs.length (xs.length+room xs.length)∧pI (List.replicate n .dead++L) bare xs n)
theorem vU.pre {n:Nat} {H L:aA} (h:vU n H) (hL:dR n L=true):vU n (H++L):=by
 obtain⟨L0,rfl,h0⟩:=h
 refine⟨L0++L,by rw[List.append_assoc],?_⟩
 unfold dR at *
 rw[List.all_append,h0,hL]
 rfl
theorem afJ {n:Nat} {x:List ByteArray} {bare:Bool} {H:aA} {K:VV→aA→Prop} (hx:x.length≤1000000000) (hH:vU n H) (bH:n<H.length)
  (hk:∀c H',H <+: H'→vU n H'→uG n H' bare x c→K c H'):cZ 34 [fM x,.sc (.bool bare)] n H K:=by
 refine(IU x bare hx).call rfl (mapM_pure (n:=7) (by simp[aM,kR];rfl)) ?_
 rintro r L (⟨hb,rfl,rfl,rfl⟩ | ⟨rfl,rfl⟩)
 ·rw[List.append_nil]
  exact hk _ _ (List.prefix_refl _) hH (.inl ⟨hb,rfl,rfl⟩)
 ·exact hk _ _ (List.prefix_append _ _) (hH.app (DY (fun _=>rfl) _)) (.inr ⟨_,bH,rfl,Jd (i:=0) rfl⟩)
set_option maxHeartbeats 2000000 in
theorem Aj (xs:List (List ByteArray)) (bare:Bool) (hn:xs.length≤1000000000) (hx:∀x∈xs,x.length≤1000000000):FC 17 [fI xs,.sc (.bool bare)] (ayC xs bare):=by
 refine FC.walk ⟨true,true⟩ Ht (Nat.le_of_ble_eq_true rfl) fun n => ?_
 have hr:=room_le xs.length
 by_cases hb:bare=true∧(xs.length:Int)=0
 ·obtain⟨rfl,h0⟩:=hb
  simp only[rM,oT,h0,VX,Nat.reduceEqDiff,Nat.reduceAdd]
  refine⟨[],by simp,rfl,rfl,.inl ⟨rfl,?_,rfl,rfl⟩⟩
  cases xs with
  | nil=>rfl
  | cons x xs=>simp at h0;omega
 have uC:bare=true→¬(xs.length:Int)=0:=fun h h'=>hb ⟨h,h'⟩
 clear hb
 have w1:IntKind.i64.wrap ((xs.length:Int)+(room xs.length:Int))=((xs.length+room xs.length:Nat):Int):=wrapN _ (by omega) (by omega)
 have em:=uO (H:=List.replicate n cA.dead) (z:=[.slice none 0 0]) (bytes:=24) (n:=xs.length+room xs.length) (f:=fun v:VV=>v) (x := .tree [] .nil) rfl (by omega) (by omega)
 rw[List.length_replicate,List.map_id'] at em
 have main:∀ρ:dH,ρ 0=fI xs→ρ 1 = .sc (.bool bare)→ρ 5 = .ref n 0 0 (xs.length+room xs.length) (xs.length+room xs.length)→ρ 6=VI 0→∀Q:VQ,
   (∀(bI:dH) (H:aA) (cells:List VV),bI 0=fI xs→bI 5 = .ref n 0 0 (xs.length+room xs.length) (xs.length+room xs.length)→vU n H→cells.length=xs.length→aH H n 0=some (cells++List.replicate (room xs.length) (.tree [] .nil),1,true) →
    (∀(i:Nat) x,xs[i]? = some x→∃c,cells[i]? = some c∧uG n H bare x c)→Q (.exit 0) bI H) →
   VW ⟨true,true⟩ n (.loop nU) Q ρ (List.replicate n cA.dead++[.row 0 (List.replicate (xs.length+room xs.length) (.tree [] .nil)) 1 true]):=by
  intro ρ h0 h1 h5 h6 Q hQ
  refine aP (fun(s:Nat×List VV) ρ H=>s.1≤xs.length∧s.2.length=s.1∧vU n H∧aH H n 0=some (s.2++List.replicate (xs.length+room xs.length-s.1) (.tree [] .nil),1,true)∧(∀(i:Nat) x,i<s.1→xs[i]? = some x→∃c,s.2[i]? = some c∧uG n H bare x c) ∧
   ρ 0=fI xs∧ρ 1 = .sc (.bool bare)∧ρ 5 = .ref n 0 0 (xs.length+room xs.length) (xs.length+room xs.length)∧ρ 6=VI s.1) (fun s=>xs.length-s.1) (0,[])
   ⟨Nat.zero_le _,rfl,⟨_,rfl,by simp[dR,vS,dY]⟩,by rw[Am,aU];rfl,fun i x h=>absurd h (Nat.not_lt_zero _),h0,h1,h5,h6⟩ ?_
  rintro⟨i,cells⟩ ρ H ⟨hi,lO,hO,gG,nX,h0,h1,h5,h6⟩
  simp only at hi lO gG nX h6
  by_cases cK:(i:Int)<(xs.length:Int)
  ·obtain⟨x,Gg⟩:∃x,xs[i]? = some x:=⟨_,List.getElem?_eq_getElem (by omega)⟩
   have e1:=aI (f:=fM) (t := .op) (H:=H) (size:=1) (k := .i64) Gg rfl
   have wi:IntKind.i64.wrap ((i:Int)+1)=((i+1:Nat):Int):=wrapN (i+1) (by omega) (by omega)
   simp only[nU,h0,h1,h5,h6,cK,e1,VX,Nat.reduceEqDiff,Nat.reduceAdd]
   refine afJ (hx x (List.mem_of_getElem? Gg)) hO (eW gG) fun c H' hh hO' hc => ?_
   have MY:=cP hh gG
   have e3:=aS (o:=0) (n:=xs.length+room xs.length) (c:=xs.length+room xs.length) (i:=i) (k := .i64) MY (by omega)
   have e4:=bX (j:=i) (lo:=n) (v:=c) MY (by simp;omega) (Nat.le_refl _) (by rw[hc.cell.1];rfl) (by rw[hc.cell.1];simp[hc.cell.2.1])
   have vC:=Ge cells (xs.length+room xs.length-(i+1)) (.tree [] .nil) c
   rw[lO,show xs.length+room xs.length-(i+1)+1=xs.length+room xs.length-i by omega] at vC
   rw[vC] at e4
   simp only[h6,e3,e4,wi,Nat.zero_add,VX,Nat.reduceEqDiff,Nat.reduceAdd]
   refine⟨(i+1,cells++[c]),by simp only;omega,by simp only;omega,by simp[lO],?_,bJ MY,?_,h0,h1,by (repeat' apply And.intro)<;>first | rfl | trivial⟩
   ·refine hO'.set (Nat.le_refl _) (vS.2 fun y hy => ?_)
    rcases List.mem_append.1 hy with hy | hy
    ·rcases List.mem_append.1 hy with hy | hy
     ·obtain⟨j,hj⟩:=List.getElem?_of_mem hy
      have hjl:=(List.getElem?_eq_some_iff.1 hj).1
      obtain⟨z,hz⟩:∃z,xs[j]? = some z:=⟨_,List.getElem?_eq_getElem (by omega)⟩
      obtain⟨c',k1,k2⟩:=nX j z (by omega) hz
      rw[hj] at k1
      injection k1 with k1
      subst k1
      exact k2.cell.2.2 _ (Nat.le_refl _)
     ·rw[List.mem_singleton] at hy
      subst hy
      exact hc.cell.2.2 _ (Nat.le_refl _)
    ·rw[List.eq_of_mem_replicate hy]
     rfl
   ·intro j z hj hz
    by_cases Jy:j<i
    ·obtain⟨c',k1,k2⟩:=nX j z Jy hz
     exact⟨c',by rw[List.getElem?_append_left (by omega)];exact k1,k2.cL fun b g y hb h=>aZ (Nat.ne_of_lt hb) (cP hh h)⟩
    ·have:j=i:=by simp only at hj;omega
     subst this
     rw[Gg] at hz
     injection hz with hz
     subst hz
     exact⟨c,by rw[List.getElem?_append_right (by omega),lO,Nat.sub_self];rfl,hc.cL fun b g y hb h=>aZ (Nat.ne_of_lt hb) h⟩
  ·have lS:i=xs.length:=by omega
   subst lS
   simp only[nU,h0,h1,h5,h6,cK,VX,Nat.reduceEqDiff,Nat.reduceAdd]
   rw[Nat.add_sub_cancel_left] at gG
   exact hQ _ _ cells h0 h5 hO lO gG fun i x hx=>nX i x (List.getElem?_eq_some_iff.1 hx).1 hx
 have RC:∀(ρ:dH) (H:aA) (cells:List VV),ρ 0=fI xs→ρ 5 = .ref n 0 0 (xs.length+room xs.length) (xs.length+room xs.length)→ρ 7=VI xs.length→vU n H→cells.length=xs.length→aH H n 0=some (cells++List.replicate (room xs.length) (.tree [] .nil),1,true) →
    (∀(i:Nat) x,xs[i]? = some x→∃c,cells[i]? = some c∧uG n H bare x c)→∀Q:VQ,
   (∀(bI:dH) (H:aA),bI 0=fI xs→bI 5 = .ref n 0 0 (xs.length+room xs.length) (xs.length+room xs.length)→vU n H→pI H bare xs n→Q (.exit 2) bI H) →
   VW ⟨true,true⟩ n (.loop nS) Q ρ H:=by
  intro ρ H cells h0 h5 h7 hO lO gG nX Q hQ
  have Lr:∀y∈cells,dY n y=true:=fun y hy=>by
   obtain⟨j,hj⟩:=List.getElem?_of_mem hy
   have hjl:=(List.getElem?_eq_some_iff.1 hj).1
   obtain⟨z,hz⟩:∃z,xs[j]? = some z:=⟨_,List.getElem?_eq_getElem (by omega)⟩
   obtain⟨c',k1,k2⟩:=nX j z hz
   rw[hj] at k1
   injection k1 with k1
   subst k1
   exact k2.cell.2.2 _ (Nat.le_refl _)
  refine aP (fun(s:Nat×List VV) ρ H=>s.1≤room xs.length∧s.2.length=s.1∧vU n H∧aH H n 0=some (cells++s.2++List.replicate (room xs.length-s.1) (.tree [] .nil),1,true)∧(∀(i:Nat) x,xs[i]? = some x→∃c,cells[i]? = some c∧uG n H bare x c)∧(∀c∈s.2,Fk n H c) ∧
   ρ 0=fI xs∧ρ 5 = .ref n 0 0 (xs.length+room xs.length) (xs.length+room xs.length)∧ρ 7=VI (xs.length+s.1:Nat)) (fun s=>room xs.length-s.1) (0,[])
   ⟨Nat.zero_le _,rfl,hO,by rw[List.append_nil];exact gG,nX,fun c hc=>(by cases hc),h0,h5,h7⟩ ?_
  rintro⟨i,fs⟩ ρ H ⟨hi,hfl,hO,gG,nX,hfs,h0,h5,h7⟩
  simp only at hi hfl gG nX h7 hfs
  have el:=dP (o:=0) (n:=xs.length+room xs.length) (c:=xs.length+room xs.length) gG
  by_cases cK:((xs.length+i:Nat):Int)<((xs.length+room xs.length:Nat):Int)
  ·have eL:jY true [.string ⟨#[]⟩] 1 [(0,.sc (.string ⟨#[126,115,112,97,114,101,126]⟩))] H=some (.ref H.length 0 0 1 1,H++[.row 0 [sV jG] 1 true]):=WK rfl rfl rfl
   have MY:=bK (L:=[.row 0 [sV jG] 1 true]) gG
   have bH:=eW gG
   have e3:=aS (o:=0) (n:=xs.length+room xs.length) (c:=xs.length+room xs.length) (i:=xs.length+i) (k := .i64) MY (by omega)
   have e4:=bX (j:=xs.length+i) (lo:=n) (v := .ref H.length 0 0 1 1) MY (by simp;omega) (Nat.le_refl _) rfl rfl
   have vC:=Ge (cells++fs) (room xs.length-(i+1)) (.tree [] .nil) (.ref H.length 0 0 1 1)
   rw[show (cells++fs).length=xs.length+i by simp[lO,hfl],show room xs.length-(i+1)+1=room xs.length-i by omega] at vC
   rw[vC] at e4
   have wi:IntKind.i64.wrap (((xs.length+i:Nat):Int)+1)=((xs.length+(i+1):Nat):Int):=wrapN _ (by omega) (by omega)
   simp only[nS,h0,h5,h7,cK,el,eL,e3,e4,wi,Nat.zero_add,VX,Nat.reduceEqDiff,Nat.reduceAdd]
   have DS:∀b g x,n<b→aH H b g=some x→aH ((H++[cA.row 0 [sV jG] 1 true]).set n (cA.row 0 (cells++fs++[VV.ref H.length 0 0 1 1]++List.replicate (room xs.length-(i+1)) (VV.tree [] TK.nil)) 1 true)) b g=some x:=fun b g x hb h=>aZ (Nat.ne_of_lt hb) (bK h)
   refine⟨(i+1,fs++[.ref H.length 0 0 1 1]),by simp only;omega,by simp only;omega,by simp[hfl],?_,?_,?_,?_,by (repeat' apply And.intro)<;>first | rfl | trivial | assumption⟩
   ·refine(hO.app rfl).set (Nat.le_refl _) (vS.2 fun y hy => ?_)
    rcases List.mem_append.1 hy with hy | hy
    ·rcases List.mem_append.1 hy with hy | hy
     ·rcases List.mem_append.1 hy with hy | hy
      ·exact Lr y hy
      ·exact(hfs y hy).cell.2.2 _ (Nat.le_refl _)
     ·rw[List.mem_singleton] at hy
      subst hy
      simp[dY];omega
    ·rw[List.eq_of_mem_replicate hy]
     rfl
   ·rw[bJ MY]
    simp only[List.append_assoc]
   ·intro j z hz
    obtain⟨c',k1,k2⟩:=nX j z hz
    exact⟨c',k1,k2.cL DS⟩
   ·intro c hc
    rcases List.mem_append.1 hc with hc | hc
    ·exact(hfs c hc).cL DS
    ·rw[List.mem_singleton] at hc
     subst hc
     exact⟨_,bH,rfl,aZ (Nat.ne_of_lt bH) iD⟩
  ·have lS:i=room xs.length:=by omega
   subst lS
   simp only[nS,h0,h5,h7,cK,el,VX,Nat.reduceEqDiff,Nat.reduceAdd]
   rw[Nat.sub_self,List.replicate_zero,List.append_nil] at gG
   exact hQ _ _ h0 h5 hO ⟨cells,fs,gG,lO,hfl,nX,hfs⟩
 have goal:∀(ρ0:dH),ρ0 0=fI xs→ρ0 1 = .sc (.bool bare)→ρ0 5 = .ref n 0 0 (xs.length+room xs.length) (xs.length+room xs.length)→True:=fun _ _ _ _=>trivial
 cases bare with
 |
  true =>
  have Ny:=uC rfl
  simp only[rM,oT,Ny,w1,em,iY,VX,Nat.reduceEqDiff,Nat.reduceAdd]
  refine main _ rfl rfl rfl rfl _ fun bI H cells h0 h5 hO lO gG nX => ?_
  simp only[h0,h5,VX,Nat.reduceEqDiff,Nat.reduceAdd]
  refine RC _ _ cells (by exact h0) (by exact h5) rfl hO lO gG nX _ fun Ac H h0 h5 hO hS => ?_
  obtain⟨cs,fs,k1,k2⟩:=hS
  have es:=sD (o:=0) (n:=xs.length+room xs.length) (c:=xs.length+room xs.length) (h:=xs.length) (k2 := .i64) k1 (by omega)
  simp only[h0,h5,es,VX,Nat.reduceEqDiff,Nat.reduceAdd]
  obtain⟨L,rfl,hL⟩:=hO
  exact⟨L,rfl,by simp[dY],hL,.inr ⟨rfl,cs,fs,k1,k2⟩⟩
 |
  false =>
  simp only[rM,oT,w1,em,iY,VX,Nat.reduceEqDiff,Nat.reduceAdd]
  refine main _ rfl rfl rfl rfl _ fun bI H cells h0 h5 hO lO gG nX => ?_
  simp only[h0,h5,VX,Nat.reduceEqDiff,Nat.reduceAdd]
  refine RC _ _ cells (by exact h0) (by exact h5) rfl hO lO gG nX _ fun Ac H h0 h5 hO hS => ?_
  obtain⟨cs,fs,k1,k2⟩:=hS
  have es:=sD (o:=0) (n:=xs.length+room xs.length) (c:=xs.length+room xs.length) (h:=xs.length) (k2 := .i64) k1 (by omega)
  simp only[h0,h5,es,VX,Nat.reduceEqDiff,Nat.reduceAdd]
  obtain⟨L,rfl,hL⟩:=hO
  exact⟨L,rfl,by simp[dY],hL,.inr ⟨rfl,cs,fs,k1,k2⟩⟩
end Go.PM
namespace Go.PM
structure Kr where
 b:List ByteArray
 g:List (List ByteArray)
 e:List ByteArray
def svV (s:Kr):VV := .agg [fM s.b,fI s.g,fM s.e]
theorem ZN (s:Kr):bA (svV s)=true:=by
 show aM [fM s.b,fI s.g,fM s.e]=true
 simp only[aM,kR,lR,Bool.and_self]
mutual
theorem N7 {n n':Nat} (h:n≤n') (v:VV) (hv:dY n' v=true):dY n v=true:=by
 cases v with
 | any=>cases hv
 | sc v=>exact hv
 | agg cs=>exact BB h cs hv
 | fN cs=>exact BB h cs hv
 | tree es k=>exact hv
 | dB=>cases hv
 | ref b g o n c=>simp only[dY,decide_eq_true_eq] at hv ⊢;omega
 | ptr b g j o=>simp only[dY,decide_eq_true_eq] at hv ⊢;omega
 | vM=>cases hv
theorem BB {n n':Nat} (h:n≤n') (vs:List VV) (hv:pC n' vs=true):pC n vs=true:=by
 cases vs with
 | nil=>rfl
 |
  cons x xs =>
  simp only[pC,Bool.and_eq_true] at hv ⊢
  exact⟨N7 h x hv.1,BB h xs hv.2⟩
end
def Cp (n k:Nat) (H:aA):Prop:=∀(b g:Nat) (es:List VV) (e:Nat) (w:Bool),k≤b→H[b]? = some (.row g es e w)→pC n es=true
theorem Cp.app {n k:Nat} {H L:aA} (h:Cp n k H) (hn:n≤H.length) (hL:dR H.length L=true):Cp n k (H++L):=by
 intro b g es e w hb hr
 rcases Nat.lt_or_ge b H.length with bH | CR
 ·rw[List.getElem?_append_left bH] at hr
  exact h b g es e w hb hr
 ·rw[List.getElem?_append_right CR] at hr
  exact BB hn _ (List.all_eq_true.1 hL _ (List.mem_of_getElem? hr))
theorem Cp.set {n k b:Nat} {H:aA} {x:cA} (h:Cp n k H) (hb:b<k):Cp n k (H.set b x):=by
 intro b' g es e w uC hr
 rw[List.getElem?_set_ne (by omega)] at hr
 exact h b' g es e w uC hr
theorem QS {n k:Nat} {H:aA} (hk:n≤k) (hl:k≤H.length) (hO:Cp n k H):∃L,Gk H (List.replicate n .dead++L)∧dR n L=true∧∀b g x,k≤b→aH H b g=some x→aH (List.replicate n .dead++L) b g=some x:=by
 have e:List.replicate n cA.dead++(List.replicate (k-n) .dead++H.drop k)=List.replicate k .dead++H.drop k:=by
  rw[←List.append_assoc,List.replicate_append_replicate,Nat.add_sub_cancel' hk]
 have get:∀b,k≤b→(List.replicate k cA.dead++H.drop k)[b]? = H[b]? := fun b hb=>by
  rw[List.getElem?_append_right (by simpa using hb),List.length_replicate,List.getElem?_drop]
  congr 1
  omega
 refine⟨List.replicate (k-n) .dead++H.drop k,⟨?_,?_⟩,?_,?_⟩
 ·rw[e];simp;omega
 ·intro b g es e' w hb
  rw[e] at hb
  rcases Nat.lt_or_ge b k with h | h
  ·rw[List.getElem?_append_left (by simpa using h)] at hb
   have:=List.eq_of_mem_replicate (List.mem_of_getElem? hb)
   cases this
  ·rw[get b h] at hb
   exact hb
 ·unfold dR
  rw[List.all_append,Bool.and_eq_true]
  constructor
  ·rw[List.all_eq_true]
   intro x hx
   rw[List.eq_of_mem_replicate hx]
  ·rw[List.all_eq_true]
   intro x hx
   obtain⟨j,hj⟩:=List.getElem?_of_mem hx
   rw[List.getElem?_drop] at hj
   cases x with
   | dead=>rfl
   | row g es e' w=>exact hO _ _ _ _ _ (Nat.le_add_right _ _) hj
 ·intro b g x hb h
  obtain⟨es,e',w⟩:=x
  rw[cW] at h ⊢
  rw[e,get b hb]
  exact h
def zI (n:Nat) (H:aA) (bare:Bool) (xs:List (List ByteArray)) (c:VV):Prop :=
 (bare=true∧xs=[]∧c = .tree [] .nil)∨∃b,n<b∧c = .ref b 0 0 xs.length (xs.length+room xs.length)∧pI H bare xs b
theorem zI.cL {n:Nat} {H H':aA} {bare:Bool} {xs:List (List ByteArray)} {c:VV} (h:zI n H bare xs c) (hk:∀b g x,n<b→aH H b g=some x→aH H' b g=some x):zI n H' bare xs c:=by
 rcases h with h | ⟨b,h1,h2,h3⟩
 ·exact .inl h
 ·exact .inr ⟨b,h1,h2,h3.cL fun b' g x hb=>hk b' g x (by omega)⟩
theorem zI.cell {n:Nat} {H:aA} {bare:Bool} {x:List (List ByteArray)} {c:VV} (h:zI n H bare x c):aB c=[c]∧cC c=true:=by
 rcases h with⟨_,_,rfl⟩ | ⟨b,h1,rfl,_⟩
 ·exact⟨rfl,rfl⟩
 ·exact⟨rfl,rfl⟩
theorem pI.fz {d b:Nat} {H:aA} {bare:Bool} {xs:List (List ByteArray)} (h:pI H bare xs b):PM.fz (d+3) H (.ref b 0 0 xs.length (xs.length+room xs.length))=some (fI xs):=by
 obtain⟨cells,yA,h1,h2,h3,h4,h5⟩:=h
 show PM.fz ((d+2)+1) H _=_
 unfold PM.fz
 have:bA (.ref b 0 0 xs.length (xs.length+room xs.length))=false:=rfl
 simp only[this,h1,Bool.false_eq_true,if_false]
 rw[if_pos ⟨by simp;omega,Nat.le_add_right _ _⟩,List.drop_zero,List.take_left' h2]
 have:∀(xs:List (List ByteArray)) (cells:List VV),cells.length=xs.length→(∀(i:Nat) x,xs[i]? = some x→∃c,cells[i]? = some c∧uG b H bare x c)→cells.mapM (PM.fz (d+2) H)=some (xs.map fM):=by
  intro xs
  induction xs with
  |
   nil=>intro cells hl _;cases cells with
   | nil=>rfl
   | cons=>cases hl
  |
   cons x xs ih =>
   intro cells hl hc
   cases cells with
   | nil=>cases hl
   |
    cons c cells =>
    obtain⟨c',k1,k2⟩:=hc 0 x rfl
    injection k1 with k1
    subst k1
    rw[List.mapM_cons,k2.fz,ih cells (by simpa using hl) fun i x hx=>hc (i+1) x hx]
    rfl
 rw[this xs cells h2 h4]
 rfl
theorem HD {d:Nat} {H:aA}:PM.fz (d+1) H (.tree [] .nil)=some (.tree [] .op):=by
 unfold PM.fz
 have:bA (.tree [] .nil)=false:=rfl
 simp only[this,Bool.false_eq_true,if_false]
 rfl
theorem zI.fz {n d:Nat} {H:aA} {bare:Bool} {xs:List (List ByteArray)} {c:VV} (h:zI n H bare xs c):PM.fz (d+3) H c=some (fI xs):=by
 rcases h with⟨_,rfl,rfl⟩ | ⟨b,h1,rfl,h3⟩
 ·exact HD
 ·exact h3.fz
def C8 (n:Nat) (H:aA) (bare:Bool) (s:Kr) (r:VV):Prop:=∃c0 c1 c2,r = .agg [c0,c1,c2]∧uG n H bare s.b c0∧zI n H bare s.g c1∧uG n H bare s.e c2
theorem C8.cL {n:Nat} {H H':aA} {bare:Bool} {s:Kr} {c:VV} (h:C8 n H bare s c) (hk:∀b g x,n<b→aH H b g=some x→aH H' b g=some x):C8 n H' bare s c:=by
 obtain⟨c0,c1,c2,rfl,h0,h1,h2⟩:=h
 exact⟨c0,c1,c2,rfl,h0.cL hk,h1.cL hk,h2.cL hk⟩
theorem C8.pre {n:Nat} {H H':aA} {bare:Bool} {s:Kr} {c:VV} (h:C8 n H bare s c) (hh:H <+: H'):C8 n H' bare s c:=h.cL fun _ _ _ _=>cP hh
theorem C8.fz {n:Nat} {H:aA} {bare:Bool} {s:Kr} {c:VV} (h:C8 n H bare s c):PM.fz depth H c=some (svV s):=by
 obtain⟨c0,c1,c2,rfl,h0,h1,h2⟩:=h
 cases hp:bA (.agg [c0,c1,c2]) with
 |
  true =>
  simp only[bA,aM,Bool.and_eq_true] at hp
  have f0:=h0.fz (d:=0)
  have f1:=h1.fz (d:=0)
  have f2:=h2.fz (d:=0)
  rw[aJ hp.1] at f0
  rw[aJ hp.2.1] at f1
  rw[aJ hp.2.2.1] at f2
  injection f0 with f0
  injection f1 with f1
  injection f2 with f2
  subst f0 f1 f2
  exact aK (ZN s)
 |
  false =>
  show PM.fz (7+1) H _=_
  unfold PM.fz
  simp only[hp,Bool.false_eq_true,if_false]
  rw[List.mapM_cons,h0.fz (d:=5),List.mapM_cons,h1.fz (d:=4),List.mapM_cons,h2.fz (d:=5)]
  rfl
end Go.PM
namespace Go.Proofs.YtjmflicajplclaaGreatDoor
open Go.ChangeShapes Go.WideShapes Go.ChangeAt Go.RowKit Go.PM
theorem UP {P:Program} {W:World} {base:Nat} {u e:TypeId} {v:Value} (ht:P.underlying u=some (.slice e)) (h:Cell.okWide P W .any base u v) (hB:¬AG W):v = .slice none 0 0:=by
 simp only[Cell.okWide,ht,Cell.ok] at h
 split at h
 case h_7=>rfl
 case h_9 =>
  obtain⟨_,_,_,_,row,n,hs,_⟩:=h
  exfalso
  apply hB
  unfold World.shape? at hs
  split at hs
  ·rename_i arr e' fz hb
   exact⟨_,arr,e',fz,hb⟩
  ·cases hs
 all_goals first | exact h.elim | (rename_i hx;cases hx) | (rename_i hx _;cases hx)
theorem Tg {T:Type} {AS:TypeId×Value→T} {W:World} (hB:AG W):K4 AS Tryz.prog W 33 1 fun vs=>∃s:List ByteArray,s.length≤maxLen∧(∀x∈s,x.size≤maxLen)∧vs=[fM s] :=
 JW (f:=sV) (Z9:=fun x=>x.size≤maxLen) Tryz.underlying33 (by kernel_rfl) (by decide) hB Y0 (Pt Tryz.underlying9)
theorem QX {T:Type} {AS:TypeId×Value→T} {W:World} (hB:AG W):K4 AS Tryz.prog W 22 1 fun vs=>∃s:List (List ByteArray),s.length≤maxLen∧(∀x∈s,x.length≤maxLen∧∀y∈x,y.size≤maxLen)∧vs=[fI s]:=by
 refine JW (f:=fM) (Z9:=fun x=>x.length≤maxLen∧∀y∈x,y.size≤maxLen) Tryz.underlying22 (by kernel_rfl) (by decide) hB (fun _=>rfl) ?_
 intro fuel cs y h m H hI
 obtain⟨hl,m',L,HV,vs,ho,s,h1,h2,rfl⟩:=Tg hB fuel cs y h m H hI
 exact⟨hl,m',L,HV,_,ho,s,⟨h1,h2⟩,rfl⟩
end Go.Proofs.YtjmflicajplclaaGreatDoor
namespace Go.Proofs.YtjmflicajplclaaGreatDoor
open Go.ChangeShapes Go.WideShapes Go.ChangeAt Go.RowKit Go.PM
theorem X6 {T:Type} {AS:TypeId×Value→T} {P:Program} {W:World} {t:TypeId} {v:Value} {d:DataW T} {ps:List MemPlace} {m:dM} {H:aE} {S:VV→Prop} (ho:AG W→K4 AS P W t 1 fun vs=>∃x,S x∧vs=[x]) (hno:¬AG W→v = .slice none 0 0) (h0:S (.tree [] .op)) (hc:v.cells.toList=[v])
  (h:DataW.Trod AS P W 0 (fun _=>true) true t v d ps) (hI:In m H W):∃m' L pv x,In m' (H++L) W∧(∀b l,m b=some l→m' b=some l)∧RV m' pv v∧VR (bare (· < (H++L).length) (H++L)) x pv∧S x:=by
 by_cases hB:AG W
 ·obtain⟨fuel,hf⟩:=h
  rw[hc] at hf
  obtain⟨hl,m',L,HV,vs,hop,x,hx,rfl⟩:=ho hB fuel _ _ hf m H hI
  have hlen:=hop.len
  match HV,hlen with
  |
   [p],_ =>
   have hr:=hop.rv 0 (by simp)
   have ht:=hop.tree
   cases ht with
   | cons _ _ _ _ h1 h2=>exact⟨m',L,p,x,hop.inn,hop.ext,hr,h1,hx⟩
 ·have:=hno hB
  subst this
  exact⟨m,[],.slice none 0 0,.tree [] .op,by rw[List.append_nil];exact hI,fun _ _ h=>h,.Nl,.pB _ (.inl rfl),h0⟩
theorem Rr {P:Program} {W:World} {base:Nat} {u e:TypeId} {v:Value} (ht:P.underlying u=some (.slice e)) (h:Value.okWide P W .any base u v) (hB:¬AG W):v = .slice none 0 0:=by
 obtain⟨a,n,c,rfl⟩:=okWide_slice ht h
 simp only[Value.okWide,ht] at h
 exact UP ht h hB
theorem SC {P:Program} {W:World} {base:Nat} {u e:TypeId} {v:Value} (ht:P.underlying u=some (.slice e)) (h:Value.okWide P W .any base u v):v.cells.toList=[v]:=by
 obtain⟨a,n,c,rfl⟩:=okWide_slice ht h
 rfl
end Go.Proofs.YtjmflicajplclaaGreatDoor
namespace Go.Proofs.YtjmflicajplclaaGreatDoor
open Go.ChangeShapes Go.WideShapes Go.ChangeAt Go.RowKit Go.PM
set_option maxRecDepth 100000 in
theorem TM {T:Type} {AS:TypeId×Value→T} {W:World} {v:Value} {d:DataW T} {ps:List MemPlace} {base:Nat} {m:dM} {H:aE} (h:DataW.Trod AS Tryz.prog W 0 (fun _=>true) true 22 v d ps) (hv:Value.okWide Tryz.prog W .any base 22 v) (hI:In m H W) :
  ∃m' L pv s,In m' (H++L) W∧(∀b l,m b=some l→m' b=some l)∧RV m' pv v∧VR (bare (· < (H++L).length) (H++L)) (fI s) pv∧afY s:=by
 obtain⟨m',L,pv,x,h1,h2,h3,h4,s,hs,rfl⟩:=X6 (S:=fun x=>∃s:List (List ByteArray),afY s∧x=fI s) (fun hB fuel cs y h m H hI=>by
  obtain⟨hl,m',L,HV,vs,ho,s,h1,h2,rfl⟩:=QX hB fuel cs y h m H hI
  exact⟨hl,m',L,HV,_,ho,_,⟨s,⟨h1,h2⟩,rfl⟩,rfl⟩) (Rr Tryz.underlying22 hv) ⟨[],⟨Nat.zero_le _,fun x hx=>(by cases hx)⟩,rfl⟩ (SC Tryz.underlying22 hv) h hI
 exact⟨m',L,pv,s,h1,h2,h3,h4,hs⟩
end Go.Proofs.YtjmflicajplclaaGreatDoor
namespace Go.PM
end Go.PM
namespace Go.PM
theorem QQ {b d:Nat} {H:aA}:∀ {yA:List VV},(∀c∈yA,Fk b H c)→yA.mapM (PM.fz (d+2) H)=some ((List.replicate yA.length [jG]).map fM)
 | [],_=>rfl
 |
  c::yA,h=>by
  rw[List.mapM_cons,(h c List.mem_cons_self).fz,QQ fun c hc=>h c (List.mem_cons_of_mem _ hc)]
  rfl
theorem pI.Vz {b:Nat} {H:aA} {bare:Bool} {xs:List (List ByteArray)} (h:pI H bare xs b):PM.fz depth H (.ref b 0 xs.length (room xs.length) (room xs.length))=some (fI (List.replicate (room xs.length) [jG])):=by
 obtain⟨cells,yA,h1,h2,h3,h4,h5⟩:=h
 show PM.fz (7+1) H _=_
 unfold PM.fz
 have:bA (.ref b 0 xs.length (room xs.length) (room xs.length))=false:=rfl
 simp only[this,h1,Bool.false_eq_true,if_false]
 rw[if_pos ⟨by simp;omega,Nat.le_refl _⟩,List.drop_left' h2,List.take_of_length_le (by omega),QQ (d:=5) h5,h3]
 rfl
theorem pI.get {b i:Nat} {H:aA} {xs:List (List ByteArray)} {x:List ByteArray} (h:pI H false xs b) (hx:xs[i]? = some x) :
  ∃b',cN false 1 (.ptr b 0 i 0) H=some (.ref b' 0 0 x.length (x.length+room x.length))∧aH H b' 0=some ((jT jG x).map sV,1,true):=by
 obtain⟨cells,yA,h1,h2,h3,h4,h5⟩:=h
 obtain⟨c,k1,k2⟩:=h4 i x hx
 rcases k2 with⟨k,_⟩ | ⟨b',_,rfl,k3⟩
 ·cases k
 ·refine⟨b',?_,k3⟩
  rw[bR,h1]
  simp only[List.getElem?_append_left (List.getElem?_eq_some_iff.1 k1).1,k1]
  rfl
theorem CX {lo b b':Nat} {H:aA} (xs:List (List ByteArray)) (hn:xs.length≤400000000) (hx:∀x∈xs,x.length≤400000000) (hX:pI H false xs b) (hY:pI H false xs b') {K:VV→aA→Prop} (hk:K (.sc (.bool true)) H) :
  cZ 20 [.ref b 0 0 xs.length (xs.length+room xs.length),.ref b' 0 0 xs.length (xs.length+room xs.length)] lo H K:=by
 refine gC rfl (kS.walk ⟨true,false⟩ CT (Nat.le_of_ble_eq_true rfl) ?_)
 have hr:=room_le xs.length
 have w1:IntKind.i64.wrap ((xs.length:Int)+(room xs.length:Int))=((xs.length+room xs.length:Nat):Int):=wrapN _ (by omega) (by omega)
 have gX:=fun i x h=>hX.get (i:=i) (x:=x) h
 have gY:=fun i x h=>hY.get (i:=i) (x:=x) h
 have fX:=hX.Vz
 have fY:=hY.Vz
 obtain⟨cX,eX,rX,_⟩:=hX
 obtain⟨cY,eY,rY,_⟩:=hY
 have l1:=dP (o:=0) (n:=xs.length) (c:=xs.length+room xs.length) rX
 have l2:=dP (o:=0) (n:=xs.length) (c:=xs.length+room xs.length) rY
 have e1:=LR (o:=0) (n:=xs.length) (c:=xs.length+room xs.length) (l:=xs.length) (h:=xs.length+room xs.length) (k1 := .i64) (k2 := .i64) rX (Nat.le_add_right _ _) (Nat.le_refl _)
 have e2:=LR (o:=0) (n:=xs.length) (c:=xs.length+room xs.length) (l:=xs.length) (h:=xs.length+room xs.length) (k1 := .i64) (k2 := .i64) rY (Nat.le_add_right _ _) (Nat.le_refl _)
 rw[Nat.add_sub_cancel_left,Nat.zero_add] at e1 e2
 have e3:=(AH (List.replicate (room xs.length) [jG]) (List.replicate (room xs.length) [jG]) (by simp;omega) (fun x hx=>by rw[List.eq_of_mem_replicate hx];decide)).flat (H:=H) rfl (by simp[aM,lR]) (fz2 fX fY) rfl
 simp only[xC,uF,iY,l1,l2,w1,eq_self,VX,Nat.reduceEqDiff,Nat.reduceAdd]
 refine aP (fun(i:Nat) ρ H1=>i≤xs.length∧H1=H∧ρ 0 = .ref b 0 0 xs.length (xs.length+room xs.length)∧ρ 1 = .ref b' 0 0 xs.length (xs.length+room xs.length)∧ρ 5=VI (xs.length+room xs.length:Nat)∧ρ 6=VI i) (fun i=>xs.length-i) 0 ⟨Nat.zero_le _,rfl,rfl,rfl,rfl,rfl⟩ ?_
 rintro i ρ H1 ⟨hi,rfl,h0,h1,h5,h6⟩
 by_cases cK:(i:Int)<(xs.length:Int)
 ·obtain⟨x,Gg⟩:∃x,xs[i]? = some x:=⟨_,List.getElem?_eq_getElem (by omega)⟩
  obtain⟨bx,vx,ux⟩:=gX i x Gg
  obtain⟨bY,vy,uy⟩:=gY i x Gg
  have a1:=aS (o:=0) (n:=xs.length) (c:=xs.length+room xs.length) (i:=i) (k := .i64) rX (by omega)
  have a2:=aS (o:=0) (n:=xs.length) (c:=xs.length+room xs.length) (i:=i) (k := .i64) rY (by omega)
  have wi:IntKind.i64.wrap ((i:Int)+1)=((i+1:Nat):Int):=wrapN (i+1) (by omega) (by omega)
  simp only[mY,h0,h1,h6,cK,l2,a1,a2,vx,vy,Nat.zero_add,VX,Nat.reduceEqDiff,Nat.reduceAdd]
  refine Df x (hx x (List.mem_of_getElem? Gg)) ux uy ?_
  simp only[h6,wi,VX,Nat.reduceEqDiff,Nat.reduceAdd]
  exact⟨i+1,by omega,by omega,by (repeat' apply And.intro)<;>first | rfl | trivial | assumption⟩
 ·have lS:i=xs.length:=by omega
  subst lS
  simp only[mY,h0,h1,h5,h6,cK,l2,e1,e2,e3,VX,Nat.reduceEqDiff,Nat.reduceAdd]
  exact hk
theorem uG.ref {n:Nat} {H:aA} {x:List ByteArray} {c:VV} (h:uG n H false x c):∃b,c = .ref b 0 0 x.length (x.length+room x.length)∧aH H b 0=some ((jT jG x).map sV,1,true):=by
 rcases h with⟨k,_⟩ | ⟨b',_,rfl,k3⟩
 ·cases k
 ·exact⟨b',rfl,k3⟩
theorem zI.ref {n:Nat} {H:aA} {x:List (List ByteArray)} {c:VV} (h:zI n H false x c):∃b,c = .ref b 0 0 x.length (x.length+room x.length)∧pI H false x b:=by
 rcases h with⟨k,_⟩ | ⟨b',_,rfl,k3⟩
 ·cases k
 ·exact⟨b',rfl,k3⟩
end Go.PM
namespace Go.PM
def D1:aD:=(LS [LO 0 (.new [(.bool false),(.slice none 0 0),(.slice none 0 0)])] (LS [LO 1 (.call 130 [(LI 0)]),LN (.store 3 (LT 0) (LT 1))] .ret))
def GD:aT:=⟨2,[(.cell 0 true 3)],D1⟩
theorem Ll:gO 77=some GD:=by kernel_rfl
def kW:aD:=(LS [LO 2 (.box (LT 0)),LO 3 (.box (LT 1)),LO 4 (.mv LF)] (.seq (LS [LO 6 (LA 0 2),LO 7 (LL 6),LO 8 (LA 0 3),LO 9 (LL 8),LO 10 (.eqb true (LT 7) (LT 9))] (.cond (LT 10) (LS [LO 11 (LA 0 2),LO 12 (LL 11),LM 4 12] .ret) .skip)) (LS [LO 13 (LA 1 2),LO 14 (LL 13),LO 15 (LA 2 3),LO 16 (LL 15),LQ 17 (.call 152 [(LT 14),(LT 16)]),LO 18 (LA 1 3),LO 19 (LL 18),LO 20 (LA 2 2),LO 21 (LL 20),LQ 22 (.call 152 [(LT 19),(LT 21)]),LQ 23 (.call 155 [(LT 17),(LT 22)]),LM 5 23] (LS [LO 24 (LA 0 2),LO 25 (LL 24),LO 26 (.un .not (LT 25)),LM 27 26,LY 27 28 (.mv (LT 5)),LY 27 29 (.bin .lss (LT 28) (LI 0)),LO 30 (.pick (LT 27) (LT 29) LF),LM 31 30,LZ 31 32 (LA 0 2),LZ 31 33 (LL 32),LZ 31 34 (.mv (LT 33)),LY 34 35 (.mv (LT 5)),LY 34 36 (.bin .gtr (LT 35) (LI 0)),LZ 31 37 (.pick (LT 34) (LT 36) LF),LO 38 (.pick (LT 31) LG (LT 37)),LM 4 38] .ret))))
def nI:aT:=⟨39,[(.tmp 4)],kW⟩
theorem MH:gO 80=some nI:=by kernel_rfl
def vI:aD:=(LS [LO 2 (.box (LT 0)),LO 3 (.box (LT 1)),LO 4 (.new [(.bool false),(.slice none 0 0),(.slice none 0 0)])] (LS [LO 8 (LA 1 2),LO 9 (LL 8),LO 10 (LA 2 3),LO 11 (LL 10),LO 12 (.call 152 [(LT 9),(LT 11)]),LM 5 12] (LS [LO 13 (LA 1 3),LO 14 (LL 13),LO 15 (LA 2 2),LO 16 (LL 15),LO 17 (.call 152 [(LT 14),(LT 16)]),LM 6 17] (LS [LO 18 (LA 2 2),LO 19 (LL 18),LO 20 (LA 2 3),LO 21 (LL 20),LO 22 (.call 152 [(LT 19),(LT 21)]),LM 7 22] (.seq (LS [LO 23 (LA 0 2),LO 24 (LL 23),LO 25 (LA 0 3),LO 26 (LL 25),LO 27 (.eqb false (LT 24) (LT 26))] (.cond (LT 27) (LS [LO 28 (LA 0 2),LO 29 (LL 28),LM 30 5,LM 31 6,LQ 32 (.call 154 [(LT 30),(LT 31)]),LM 33 7,LQ 34 (.call 153 [(LT 29),(LT 32),(LT 33)]),LN (.store 3 (LT 4) (LT 34))] .ret) .skip)) (.seq (LS [LM 35 5,LM 36 6,LO 37 (.call 155 [(LT 35),(LT 36)]),LO 38 (.bin .geq (LT 37) (LI 0))] (.cond (LT 38) (LS [LO 39 (LA 0 2),LO 40 (LL 39),LM 41 5,LM 42 6,LQ 43 (.call 156 [(LT 41),(LT 42)]),LM 44 7,LQ 45 (.call 153 [(LT 40),(LT 43),(LT 44)]),LN (.store 3 (LT 4) (LT 45))] .ret) .skip)) (LS [LO 46 (LA 0 3),LO 47 (LL 46),LM 48 6,LM 49 5,LQ 50 (.call 156 [(LT 48),(LT 49)]),LM 51 7,LQ 52 (.call 153 [(LT 47),(LT 50),(LT 51)]),LN (.store 3 (LT 4) (LT 52))] .ret)))))))
def Ap:aT:=⟨53,[(.cell 4 true 3)],vI⟩
theorem M8:gO 79=some Ap:=by kernel_rfl
def AR:aD:=(LS [LO 2 (.new [(.bool false),(.slice none 0 0),(.slice none 0 0)])] (.seq (LS [LM 3 0,LO 4 (.bin .lss (LT 3) (LI 0))] (.cond (LT 4) (LS [LM 5 0,LO 6 (.un .neg (LT 5)),LO 7 (.call 178 [(LT 6)]),LO 8 (.lit [(.int .i64 0)] 1 [(0,(LI 1))]),LO 9 (.build [(.bool false),(.slice none 0 0),(.slice none 0 0)] [(0,1),(1,1),(2,1)] [(0,LG),(1,(LT 7)),(2,(LT 8))]),LN (.store 3 (LT 2) (LT 9))] .ret) .skip)) (LS [LM 10 0,LO 11 (.call 178 [(LT 10)]),LO 12 (.lit [(.int .i64 0)] 1 [(0,(LI 1))]),LO 13 (.build [(.bool false),(.slice none 0 0),(.slice none 0 0)] [(0,1),(1,1),(2,1)] [(1,(LT 11)),(2,(LT 12))]),LN (.store 3 (LT 2) (LT 13))] .ret)))
def Dz:aT:=⟨14,[(.cell 2 true 3)],AR⟩
theorem Nc:gO 130=some Dz:=by kernel_rfl
def Dr:aD:=(LS [LO 2 (.box (LT 0)),LO 3 (.box (LT 1)),LO 4 (.new [(.bool false),(.slice none 0 0),(.slice none 0 0)])] (LS [LO 5 (LA 0 2),LO 6 (LL 5),LO 7 (LA 0 3),LO 8 (LL 7),LO 9 (.eqb true (LT 6) (LT 8)),LO 10 (LA 1 2),LO 11 (LL 10),LO 12 (LA 2 3),LO 13 (LL 12),LQ 14 (.call 152 [(LT 11),(LT 13)]),LO 15 (LA 2 2),LO 16 (LL 15),LO 17 (LA 1 3),LO 18 (LL 17),LQ 19 (.call 152 [(LT 16),(LT 18)]),LQ 20 (.call 153 [(LT 9),(LT 14),(LT 19)]),LN (.store 3 (LT 4) (LT 20))] .ret))
def G1:aT:=⟨21,[(.cell 4 true 3)],Dr⟩
theorem ME:gO 81=some G1:=by kernel_rfl
def Ct:aD:=(LS [LO 2 (.box (LT 0)),LO 3 (.box (LT 1)),LO 4 (.new [(.bool false),(.slice none 0 0),(.slice none 0 0)])] (LS [LO 5 (LK 2),LO 6 (LK 3),LQ 7 (.call 157 [(LT 6)]),LQ 8 (.call 79 [(LT 5),(LT 7)]),LN (.store 3 (LT 4) (LT 8))] .ret))
def Fa:aT:=⟨9,[(.cell 4 true 3)],Ct⟩
theorem Kj:gO 82=some Fa:=by kernel_rfl
def zY:aD:=(LS [LO 1 (.box (LT 0)),LO 2 (.mv LF)] (LS [LO 3 (LA 1 1),LO 4 (LL 3),LO 5 (.len (LT 4)),LO 6 (.bin .eql (LT 5) (LI 0)),LM 2 6] .ret))
def Cg:aT:=⟨7,[(.tmp 2)],zY⟩
theorem La:gO 59=some Cg:=by kernel_rfl
def nR:aD:=(LS [LO 12 (.bin .lss (LT 11) (LT 10))] (.seq (.cond (LT 12) .skip (.exit 0)) (.seq (.block 1 (LS [LM 13 11,LM 5 13] (LS [LM 15 0,LM 16 5,LO 17 (.iaddr 3 (LT 15) (LT 16)),LO 18 (LK 17),LO 19 (.call 171 [(LT 18)]),LM 14 19,LO 20 (LX 14 0),LO 21 (LX 14 1),LM 6 20,LM 7 21] (.seq (LS [LM 22 7,LO 23 (.un .not (LT 22))] (.cond (LT 23) (LS [LO 2 (.mv (.const (.slice none 0 0))),LO 3 (.mv LF)] .ret) .skip)) (.dJ [LM 24 4,LM 25 6,LO 26 (.lit [(.string ⟨#[]⟩)] 1 [(0,(LT 25))]),LO 27 (.app 1 16 (LT 24) (LT 26)),LM 4 27]))))) (.dJ [LO 28 (.bin .add (LT 11) (LI 1)),LM 11 28]))))
def Ay:aD:=(LS [LO 2 (.mv (.const (.slice none 0 0))),LO 3 (.mv LF)] (LS [LO 8 (.lit [(.string ⟨#[]⟩)] 0 []),LM 4 8] (.seq (LS [LM 9 0,LO 10 (.len (LT 9)),LO 11 (.mv (LI 0))] (.block 0 (.loop nR))) (LS [LM 29 4,LM 2 29,LO 3 (.mv LG)] .ret))))
def CH:aT:=⟨30,[(.tmp 2),(.tmp 3)],Ay⟩
theorem Gd:gO 181=some CH:=by kernel_rfl
def rL:aD:=(LS [LO 15 (.bin .lss (LT 14) (LT 13))] (.seq (.cond (LT 15) .skip (.exit 0)) (.seq (.block 1 (LS [LM 16 14,LM 5 16] (LS [LM 18 0,LM 19 5,LO 20 (.iaddr 1 (LT 18) (LT 19)),LO 21 (LL 20),LO 22 (.call 110 [(LT 21)]),LM 17 22,LO 23 (LX 17 0),LO 24 (LX 17 1),LO 6 (.new [(.bool false),(.slice none 0 0),(.slice none 0 0)]),LN (.store 3 (LT 6) (LT 23)),LM 7 24] (.seq (LS [LM 25 7,LO 26 (.un .not (LT 25))] (.cond (LT 26) (LS [LO 2 (.mv (.const (.slice none 0 0))),LO 3 (.mv LF)] .ret) .skip)) (.dJ [LM 27 4,LO 28 (LK 6),LO 29 (.lit [(.bool false),(.slice none 0 0),(.slice none 0 0)] 1 [(0,(LT 28))]),LO 30 (.app 3 56 (LT 27) (LT 29)),LM 4 30]))))) (.dJ [LO 31 (.bin .add (LT 14) (LI 1)),LM 14 31]))))
def zK:aD:=(LS [LO 2 (.mv (.const (.slice none 0 0))),LO 3 (.mv LF)] (.seq (LS [LM 8 0,LO 9 (.len (LT 8)),LO 10 (.bin .gtr (LT 9) (LI 300))] (.cond (LT 10) (LS [LO 2 (.mv (.const (.slice none 0 0))),LO 3 (.mv LF)] .ret) .skip)) (LS [LO 11 (.lit [(.bool false),(.slice none 0 0),(.slice none 0 0)] 0 []),LM 4 11] (.seq (LS [LM 12 0,LO 13 (.len (LT 12)),LO 14 (.mv (LI 0))] (.block 0 (.loop rL))) (LS [LM 32 4,LM 2 32,LO 3 (.mv LG)] .ret)))))
def BX:aT:=⟨33,[(.tmp 2),(.tmp 3)],zK⟩
theorem Mq:gO 57=some BX:=by kernel_rfl
def yM:aD:=(LS [LO 1 (.box (LT 0)),LO 2 (.mv (.const (.string ⟨#[]⟩))),LO 3 (.mv LF)] (.seq (LS [LO 4 (LK 1),LO 5 (.call 188 [(LT 4)]),LO 6 (.un .not (LT 5))] (.cond (LT 6) (LS [LO 2 (.mv (.const (.string ⟨#[]⟩))),LO 3 (.mv LF)] .ret) .skip)) (LS [LO 7 (LK 1),LO 8 (.call 189 [(LT 7)]),LM 2 8,LO 3 (.mv LG)] .ret)))
def Ce:aT:=⟨9,[(.tmp 2),(.tmp 3)],yM⟩
theorem MI:gO 171=some Ce:=by kernel_rfl
def Fi:aD:=(LS [LO 0 (.new [(.bool false),(.slice none 0 0),(.slice none 0 0)])] (LS [LO 1 (.call 130 [(LI 1)]),LN (.store 3 (LT 0) (LT 1))] .ret))
def JI:aT:=⟨2,[(.cell 0 true 3)],Fi⟩
theorem M5:gO 83=some JI:=by kernel_rfl
def lY:aD:=(LS [LO 7 (.bin .lss (LT 6) (LT 5))] (.seq (.cond (LT 7) .skip (.exit 0)) (.seq (.block 1 (LS [LM 8 6,LM 3 8] (LS [LM 9 0,LM 10 3,LO 11 (.iaddr 3 (LT 9) (LT 10)),LO 12 (LA 0 11),LO 13 (LL 12)] (.cond (LT 13) (LS [LO 2 (.mv LF)] .ret) .skip)))) (.dJ [LO 14 (.bin .add (LT 6) (LI 1)),LM 6 14]))))
def yS:aD:=(LS [LO 2 (.mv LF)] (.seq (LS [LM 4 0,LO 5 (.len (LT 4)),LO 6 (.mv (LI 0))] (.block 0 (.loop lY))) (LS [LO 2 (.mv LG)] .ret)))
def Bo:aT:=⟨15,[(.tmp 2)],yS⟩
theorem FG:gO 58=some Bo:=by kernel_rfl
def vE:aD:=(LS [LO 9 (.bin .lss (LT 8) (LT 7))] (.seq (.cond (LT 9) .skip (.exit 0)) (.seq (.block 1 (LS [LM 10 8,LM 4 10] (.dJ [LO 11 (LK 3),LM 12 0,LM 13 4,LO 14 (.iaddr 3 (LT 12) (LT 13)),LO 15 (LK 14),LQ 16 (.call 79 [(LT 11),(LT 15)]),LN (.store 3 (LT 3) (LT 16))]))) (.dJ [LO 17 (.bin .add (LT 8) (LI 1)),LM 8 17]))))
def CC:aD:=(LS [LO 2 (.new [(.bool false),(.slice none 0 0),(.slice none 0 0)])] (LS [LO 5 (.call 77 []),LO 3 (.new [(.bool false),(.slice none 0 0),(.slice none 0 0)]),LN (.store 3 (LT 3) (LT 5))] (.seq (LS [LM 6 0,LO 7 (.len (LT 6)),LO 8 (.mv (LI 0))] (.block 0 (.loop vE))) (LS [LO 18 (LK 3),LN (.store 3 (LT 2) (LT 18))] .ret))))
def EW:aT:=⟨19,[(.cell 2 true 3)],CC⟩
theorem Kf:gO 60=some EW:=by kernel_rfl
def kV:aD:=(LS [LO 6 (.new [(.bool false),(.slice none 0 0),(.slice none 0 0)])] (LS [LM 8 1,LM 9 2,LO 10 (.call 170 [(LT 8),(LT 9)]),LM 7 10] (.seq (LS [LM 11 7,LO 12 (.lit [(.int .i64 0)] 1 [(0,(LI 1))]),LO 13 (.call 155 [(LT 11),(LT 12)]),LO 14 (.bin .neq (LT 13) (LI 0))] (.cond (LT 14) (LS [LM 16 1,LM 17 7,LO 18 (.call 185 [(LT 16),(LT 17)]),LM 15 18,LO 19 (LX 15 0),LO 20 (LX 15 1),LM 1 19] (.dJ [LM 22 2,LM 23 7,LO 24 (.call 185 [(LT 22),(LT 23)]),LM 21 24,LO 25 (LX 21 0),LO 26 (LX 21 1),LM 2 25])) .skip)) (LS [LM 27 0,LM 28 27,LY 28 29 (.mv (LT 1)),LY 28 30 (.len (LT 29)),LY 28 31 (.bin .gtr (LT 30) (LI 0)),LO 32 (.pick (LT 28) (LT 31) LF),LM 33 1,LM 34 2,LO 35 (.build [(.bool false),(.slice none 0 0),(.slice none 0 0)] [(0,1),(1,1),(2,1)] [(0,(LT 32)),(1,(LT 33)),(2,(LT 34))]),LN (.store 3 (LT 6) (LT 35))] .ret))))
def nP:aT:=⟨36,[(.cell 6 true 3)],kV⟩
theorem LU:gO 153=some nP:=by kernel_rfl
def pJ:aD:=(.seq (LS [LM 19 5,LO 20 (.bin .geq (LT 19) (LI 0))] (.cond (LT 20) .skip (.exit 0))) (.seq (.block 1 (LS [LM 23 0,LM 24 5,LO 25 (.iaddr 1 (LT 23) (LT 24)),LO 26 (LL 25),LM 27 1,LM 28 5,LO 29 (.iaddr 1 (LT 27) (LT 28)),LO 30 (LL 29),LO 31 (.bin .neq (LT 26) (LT 30))] (.cond (LT 31) (.seq (LS [LM 32 0,LM 33 5,LO 34 (.iaddr 1 (LT 32) (LT 33)),LO 35 (LL 34),LM 36 1,LM 37 5,LO 38 (.iaddr 1 (LT 36) (LT 37)),LO 39 (LL 38),LO 40 (.bin .lss (LT 35) (LT 39))] (.cond (LT 40) (LS [LO 4 (.mv (LI (-1)))] .ret) .skip)) (LS [LO 4 (.mv (LI 1))] .ret)) .skip))) (.dJ [LM 21 5,LO 22 (.bin .sub (LT 21) (LI 1)),LM 5 22])))
def vP:aD:=(LS [LO 4 (.mv (LI 0))] (.seq (LS [LM 6 0,LO 7 (.len (LT 6)),LM 8 1,LO 9 (.len (LT 8)),LO 10 (.bin .neq (LT 7) (LT 9))] (.cond (LT 10) (.seq (LS [LM 11 0,LO 12 (.len (LT 11)),LM 13 1,LO 14 (.len (LT 13)),LO 15 (.bin .lss (LT 12) (LT 14))] (.cond (LT 15) (LS [LO 4 (.mv (LI (-1)))] .ret) .skip)) (LS [LO 4 (.mv (LI 1))] .ret)) .skip)) (.seq (LS [LM 16 0,LO 17 (.len (LT 16)),LO 18 (.bin .sub (LT 17) (LI 1)),LM 5 18] (.block 0 (.loop pJ))) (LS [LO 4 (.mv (LI 0))] .ret))))
def An:aT:=⟨41,[(.tmp 4)],vP⟩
theorem Ni:gO 155=some An:=by kernel_rfl
def tT:aD:=(LS [LO 24 (.bin .lss (LT 23) (LT 22))] (.seq (.cond (LT 24) .skip (.exit 2)) (.seq (.block 3 (LS [LM 25 23,LM 8 25] (LS [LM 26 5,LM 27 6,LM 28 8,LO 29 (.bin .add (LT 27) (LT 28)),LO 30 (.iaddr 1 (LT 26) (LT 29)),LO 31 (LL 30),LM 32 0,LM 33 6,LO 34 (.iaddr 1 (LT 32) (LT 33)),LO 35 (LL 34),LM 36 1,LM 37 8,LO 38 (.iaddr 1 (LT 36) (LT 37)),LO 39 (LL 38),LO 40 (.bin .mul (LT 35) (LT 39)),LO 41 (.bin .add (LT 31) (LT 40)),LM 42 7,LO 43 (.bin .add (LT 41) (LT 42)),LM 9 43] (LS [LM 44 5,LM 45 6,LM 46 8,LO 47 (.bin .add (LT 45) (LT 46)),LM 48 9,LO 49 (.bin .rem (LT 48) (LI 1000000000)),LO 50 (.iaddr 1 (LT 44) (LT 47)),LN (.store 1 (LT 50) (LT 49))] (.dJ [LM 51 9,LO 52 (.bin .quo (LT 51) (LI 1000000000)),LM 7 52]))))) (.dJ [LO 53 (.bin .add (LT 23) (LI 1)),LM 23 53]))))
def tH:aD:=(LS [LO 19 (.bin .lss (LT 18) (LT 17))] (.seq (.cond (LT 19) .skip (.exit 0)) (.seq (.block 1 (LS [LM 20 18,LM 6 20] (LS [LO 7 (.mv (LI 0))] (.seq (LS [LM 21 1,LO 22 (.len (LT 21)),LO 23 (.mv (LI 0))] (.block 2 (.loop tT))) (.dJ [LM 54 5,LM 55 6,LM 56 1,LO 57 (.len (LT 56)),LO 58 (.bin .add (LT 55) (LT 57)),LO 59 (.iaddr 1 (LT 54) (LT 58)),LO 60 (LL 59),LM 61 7,LO 62 (.bin .add (LT 60) (LT 61)),LO 63 (.iaddr 1 (LT 54) (LT 58)),LN (.store 1 (LT 63) (LT 62))]))))) (.dJ [LO 64 (.bin .add (LT 18) (LI 1)),LM 18 64]))))
def Bq:aD:=(LS [LO 4 (.mv (.const (.slice none 0 0)))] (LS [LM 10 0,LO 11 (.len (LT 10)),LM 12 1,LO 13 (.len (LT 12)),LO 14 (.bin .add (LT 11) (LT 13)),LO 15 (.make [(.int .i64 0)] 8 (LT 14) (LT 14)),LM 5 15] (.seq (LS [LM 16 0,LO 17 (.len (LT 16)),LO 18 (.mv (LI 0))] (.block 0 (.loop tH))) (LS [LM 65 5,LO 66 (.call 184 [(LT 65)]),LM 4 66] .ret))))
def Dh:aT:=⟨67,[(.tmp 4)],Bq⟩
theorem IZ:gO 152=some Dh:=by kernel_rfl
def lI:aD:=(.seq (LS [LM 10 7,LM 11 0,LO 12 (.len (LT 11)),LO 13 (.bin .lss (LT 10) (LT 12)),LM 14 13,LZ 14 15 (.mv (LT 7)),LZ 14 16 (.mv (LT 1)),LZ 14 17 (.len (LT 16)),LZ 14 18 (.bin .lss (LT 15) (LT 17)),LO 19 (.pick (LT 14) LG (LT 18)),LM 20 19,LZ 20 21 (.mv (LT 6)),LZ 20 22 (.bin .gtr (LT 21) (LI 0)),LO 23 (.pick (LT 20) LG (LT 22))] (.cond (LT 23) .skip (.exit 0))) (.seq (.block 1 (LS [LM 26 0,LM 27 7,LO 28 (.call 186 [(LT 26),(LT 27)]),LM 29 1,LM 30 7,LO 31 (.call 186 [(LT 29),(LT 30)]),LO 32 (.bin .add (LT 28) (LT 31)),LM 33 6,LO 34 (.bin .add (LT 32) (LT 33)),LM 8 34] (LS [LM 35 5,LM 36 8,LO 37 (.bin .rem (LT 36) (LI 1000000000)),LO 38 (.lit [(.int .i64 0)] 1 [(0,(LT 37))]),LO 39 (.app 1 8 (LT 35) (LT 38)),LM 5 39] (.dJ [LM 40 8,LO 41 (.bin .quo (LT 40) (LI 1000000000)),LM 6 41])))) (.dJ [LM 24 7,LO 25 (.bin .add (LT 24) (LI 1)),LM 7 25])))
def Bz:aD:=(LS [LO 4 (.mv (.const (.slice none 0 0)))] (LS [LO 9 (.lit [(.int .i64 0)] 0 []),LM 5 9] (LS [LO 6 (.mv (LI 0))] (.seq (LS [LO 7 (.mv (LI 0))] (.block 0 (.loop lI))) (LS [LM 42 5,LM 4 42] .ret)))))
def C7:aT:=⟨43,[(.tmp 4)],Bz⟩
theorem HM:gO 154=some C7:=by kernel_rfl
def nK:aD:=(LS [LO 13 (.bin .lss (LT 12) (LT 11))] (.seq (.cond (LT 13) .skip (.exit 0)) (.seq (.block 1 (LS [LM 14 12,LM 7 14] (LS [LM 15 0,LM 16 7,LO 17 (.iaddr 1 (LT 15) (LT 16)),LO 18 (LL 17),LM 19 1,LM 20 7,LQ 21 (.call 186 [(LT 19),(LT 20)]),LO 22 (.bin .sub (LT 18) (LT 21)),LM 23 6,LO 24 (.bin .sub (LT 22) (LT 23)),LM 8 24] (LS [LO 6 (.mv (LI 0))] (.seq (LS [LM 25 8,LO 26 (.bin .lss (LT 25) (LI 0))] (.cond (LT 26) (LS [LM 27 8,LO 28 (.bin .add (LT 27) (LI 1000000000)),LM 8 28] (.dJ [LO 6 (.mv (LI 1))])) .skip)) (.dJ [LM 29 5,LM 30 8,LO 31 (.lit [(.int .i64 0)] 1 [(0,(LT 30))]),LO 32 (.app 1 8 (LT 29) (LT 31)),LM 5 32])))))) (.dJ [LO 33 (.bin .add (LT 12) (LI 1)),LM 12 33]))))
def AF:aD:=(LS [LO 4 (.mv (.const (.slice none 0 0)))] (LS [LO 9 (.lit [(.int .i64 0)] 0 []),LM 5 9] (LS [LO 6 (.mv (LI 0))] (.seq (LS [LM 10 0,LO 11 (.len (LT 10)),LO 12 (.mv (LI 0))] (.block 0 (.loop nK))) (LS [LM 34 5,LO 35 (.call 184 [(LT 34)]),LM 4 35] .ret)))))
def CI:aT:=⟨36,[(.tmp 4)],AF⟩
theorem He:gO 156=some CI:=by kernel_rfl
def yH:aD:=(.seq (LS [LM 5 0,LO 6 (.bin .gtr (LT 5) (LI 0))] (.cond (LT 6) .skip (.exit 0))) (.block 1 (LS [LM 7 3,LM 8 0,LO 9 (.bin .rem (LT 8) (LI 1000000000)),LO 10 (.lit [(.int .i64 0)] 1 [(0,(LT 9))]),LO 11 (.app 1 8 (LT 7) (LT 10)),LM 3 11] (.dJ [LM 12 0,LO 13 (.bin .quo (LT 12) (LI 1000000000)),LM 0 13]))))
def E4:aD:=(LS [LO 2 (.mv (.const (.slice none 0 0)))] (LS [LO 4 (.lit [(.int .i64 0)] 0 []),LM 3 4] (.seq (.block 0 (.loop yH)) (LS [LM 14 3,LM 2 14] .ret))))
def JS:aT:=⟨15,[(.tmp 2)],E4⟩
theorem Na:gO 178=some JS:=by kernel_rfl
def nO:aD:=(LS [LO 1 (.box (LT 0)),LO 2 (.new [(.bool false),(.slice none 0 0),(.slice none 0 0)])] (LS [LO 3 (LA 0 1),LO 4 (LL 3),LO 5 (.un .not (LT 4)),LM 6 5,LY 6 7 (LA 1 1),LY 6 8 (LL 7),LY 6 9 (.len (LT 8)),LY 6 10 (.bin .gtr (LT 9) (LI 0)),LO 11 (.pick (LT 6) (LT 10) LF),LO 12 (LA 1 1),LO 13 (LL 12),LO 14 (LA 2 1),LO 15 (LL 14),LO 16 (.build [(.bool false),(.slice none 0 0),(.slice none 0 0)] [(0,1),(1,1),(2,1)] [(0,(LT 11)),(1,(LT 13)),(2,(LT 15))]),LN (.store 3 (LT 2) (LT 16))] .ret))
def pU:aT:=⟨17,[(.cell 2 true 3)],nO⟩
theorem FH:gO 157=some pU:=by kernel_rfl
def bL:aD:=(LS [LO 2 (.new [(.bool false),(.slice none 0 0),(.slice none 0 0)]),LO 3 (.mv LF)] (LS [LM 8 0,LO 9 (.slen (LT 8)),LO 10 (.bin .gtr (LT 9) (LI 0)),LM 11 10,LY 11 12 (.mv (LT 0)),LY 11 13 (.sidx (LT 12) (LI 0)),LY 11 14 (.bin .eql (LT 13) (.const (.int .u8 45))),LO 15 (.pick (LT 11) (LT 14) LF),LM 4 15] (.seq (LS [LM 16 4] (.cond (LT 16) (.dJ [LM 17 0,LO 18 (.ssub (LT 17) (some (LI 1)) none),LM 0 18]) .skip)) (LS [LM 19 0,LO 20 (.call 167 [(LT 19),(.const (.int .u8 47))]),LM 5 20] (.seq (LS [LM 21 5,LO 22 (.len (LT 21)),LO 23 (.bin .gtr (LT 22) (LI 2)),LM 24 23,LZ 24 25 (.mv (LT 5)),LZ 24 26 (.iaddr 1 (LT 25) (LI 0)),LZ 24 27 (LL 26),LZ 24 28 (.call 168 [(LT 27)]),LZ 24 29 (.un .not (LT 28)),LO 30 (.pick (LT 24) LG (LT 29))] (.cond (LT 30) (LS [LO 31 (.build [(.bool false),(.slice none 0 0),(.slice none 0 0)] [(0,1),(1,1),(2,1)] []),LN (.store 3 (LT 2) (LT 31)),LO 3 (.mv LF)] .ret) .skip)) (LS [LM 32 5,LO 33 (.iaddr 1 (LT 32) (LI 0)),LO 34 (LL 33),LO 35 (.call 169 [(LT 34)]),LM 6 35] (.seq (LS [LM 36 4,LM 37 36,LY 37 38 (.mv (LT 6)),LY 37 39 (.len (LT 38)),LY 37 40 (.bin .eql (LT 39) (LI 0)),LO 41 (.pick (LT 37) (LT 40) LF)] (.cond (LT 41) (LS [LO 42 (.build [(.bool false),(.slice none 0 0),(.slice none 0 0)] [(0,1),(1,1),(2,1)] []),LN (.store 3 (LT 2) (LT 42)),LO 3 (.mv LF)] .ret) .skip)) (.seq (LS [LM 43 5,LO 44 (.len (LT 43)),LO 45 (.bin .eql (LT 44) (LI 1))] (.cond (LT 45) (LS [LM 46 4,LM 47 6,LO 48 (.lit [(.int .i64 0)] 1 [(0,(LI 1))]),LO 49 (.build [(.bool false),(.slice none 0 0),(.slice none 0 0)] [(0,1),(1,1),(2,1)] [(0,(LT 46)),(1,(LT 47)),(2,(LT 48))]),LN (.store 3 (LT 2) (LT 49)),LO 3 (.mv LG)] .ret) .skip)) (.seq (LS [LM 50 5,LO 51 (.iaddr 1 (LT 50) (LI 1)),LO 52 (LL 51),LO 53 (.call 168 [(LT 52)]),LO 54 (.un .not (LT 53))] (.cond (LT 54) (LS [LO 55 (.build [(.bool false),(.slice none 0 0),(.slice none 0 0)] [(0,1),(1,1),(2,1)] []),LN (.store 3 (LT 2) (LT 55)),LO 3 (.mv LF)] .ret) .skip)) (LS [LM 56 5,LO 57 (.iaddr 1 (LT 56) (LI 1)),LO 58 (LL 57),LO 59 (.call 169 [(LT 58)]),LM 7 59] (.seq (LS [LM 60 7,LO 61 (.lit [(.int .i64 0)] 1 [(0,(LI 1))]),LO 62 (.call 155 [(LT 60),(LT 61)]),LO 63 (.bin .leq (LT 62) (LI 0)),LM 64 63,LZ 64 65 (.mv (LT 6)),LZ 64 66 (.mv (LT 7)),LZ 64 67 (.call 170 [(LT 65),(LT 66)]),LZ 64 68 (.lit [(.int .i64 0)] 1 [(0,(LI 1))]),LZ 64 69 (.call 155 [(LT 67),(LT 68)]),LZ 64 70 (.bin .neq (LT 69) (LI 0)),LO 71 (.pick (LT 64) LG (LT 70))] (.cond (LT 71) (LS [LO 72 (.build [(.bool false),(.slice none 0 0),(.slice none 0 0)] [(0,1),(1,1),(2,1)] []),LN (.store 3 (LT 2) (LT 72)),LO 3 (.mv LF)] .ret) .skip)) (LS [LM 73 4,LM 74 6,LM 75 7,LO 76 (.build [(.bool false),(.slice none 0 0),(.slice none 0 0)] [(0,1),(1,1),(2,1)] [(0,(LT 73)),(1,(LT 74)),(2,(LT 75))]),LN (.store 3 (LT 2) (LT 76)),LO 3 (.mv LG)] .ret))))))))))))
def cF:aT:=⟨77,[(.cell 2 true 3),(.tmp 3)],bL⟩
theorem Ke:gO 110=some cF:=by kernel_rfl
def zZ:aD:=(LS [LO 1 (.box (LT 0)),LO 2 (.mv LF)] (LS [LO 3 (LA 1 1),LO 4 (LL 3),LO 5 (.call 208 [(LT 4)]),LO 6 (.slen (LT 5)),LO 7 (.bin .leq (LT 6) (LI 200)),LM 8 7,LY 8 9 (LA 2 1),LY 8 10 (LL 9),LY 8 11 (.call 208 [(LT 10)]),LY 8 12 (.slen (LT 11)),LY 8 13 (.bin .leq (LT 12) (LI 200)),LO 14 (.pick (LT 8) (LT 13) LF),LM 2 14] .ret))
def B6:aT:=⟨15,[(.tmp 2)],zZ⟩
theorem Mj:gO 188=some B6:=by kernel_rfl
def zA:aD:=(LS [LO 1 (.box (LT 0)),LO 2 (.mv (.const (.string ⟨#[]⟩)))] (LS [LO 4 (LA 1 1),LO 5 (LL 4),LO 6 (.call 208 [(LT 5)]),LM 3 6] (.seq (LS [LO 7 (LA 0 1),LO 8 (LL 7)] (.cond (LT 8) (.dJ [LM 9 3,LO 10 (.bin .add (.const (.string ⟨#[45]⟩)) (LT 9)),LM 3 10]) .skip)) (.seq (LS [LO 11 (LA 2 1),LO 12 (LL 11),LO 13 (.lit [(.int .i64 0)] 1 [(0,(LI 1))]),LO 14 (.call 155 [(LT 12),(LT 13)]),LO 15 (.bin .neq (LT 14) (LI 0))] (.cond (LT 15) (.dJ [LM 16 3,LO 17 (LA 2 1),LO 18 (LL 17),LO 19 (.call 208 [(LT 18)]),LO 20 (.bin .add (.const (.string ⟨#[47]⟩)) (LT 19)),LO 21 (.bin .add (LT 16) (LT 20)),LM 3 21]) .skip)) (LS [LM 22 3,LM 2 22] .ret)))))
def BV:aT:=⟨23,[(.tmp 2)],zA⟩
theorem Mb:gO 189=some BV:=by kernel_rfl
def yW:aD:=(.seq (LS [LM 7 1,LO 8 (.len (LT 7)),LO 9 (.bin .gtr (LT 8) (LI 0))] (.cond (LT 9) .skip (.exit 0))) (.block 1 (LS [LM 11 0,LM 12 1,LO 13 (.call 185 [(LT 11),(LT 12)]),LM 10 13,LO 14 (LX 10 0),LO 15 (LX 10 1),LM 5 14,LM 6 15] (LS [LM 16 1,LM 0 16] (.dJ [LM 17 6,LM 1 17])))))
def EZ:aD:=(LS [LO 4 (.mv (.const (.slice none 0 0)))] (.seq (.block 0 (.loop yW)) (LS [LM 18 0,LM 4 18] .ret)))
def JB:aT:=⟨19,[(.tmp 4)],EZ⟩
theorem Nz:gO 170=some JB:=by kernel_rfl
def gS:aD:=(.seq (LS [LM 132 19,LO 133 (.bin .geq (LT 132) (LI 1000000000)),LM 134 133,LZ 134 135 (.mv (LT 19)),LZ 134 136 (.mv (LT 14)),LZ 134 137 (.mv (LT 15)),LZ 134 138 (.bin .sub (LT 137) (LI 2)),LZ 134 139 (.iaddr 1 (LT 136) (LT 138)),LZ 134 140 (LL 139),LZ 134 141 (.bin .mul (LT 135) (LT 140)),LZ 134 142 (.mv (LT 20)),LZ 134 143 (.bin .mul (LT 142) (LI 1000000000)),LZ 134 144 (.mv (LT 13)),LZ 134 145 (.mv (LT 17)),LZ 134 146 (.mv (LT 15)),LZ 134 147 (.bin .add (LT 145) (LT 146)),LZ 134 148 (.bin .sub (LT 147) (LI 2)),LZ 134 149 (.iaddr 1 (LT 144) (LT 148)),LZ 134 150 (LL 149),LZ 134 151 (.bin .add (LT 143) (LT 150)),LZ 134 152 (.bin .gtr (LT 141) (LT 151)),LO 153 (.pick (LT 134) LG (LT 152))] (.cond (LT 153) .skip (.exit 2))) (.block 3 (LS [LM 154 19,LO 155 (.bin .sub (LT 154) (LI 1)),LM 19 155] (LS [LM 156 20,LM 157 14,LM 158 15,LO 159 (.bin .sub (LT 158) (LI 1)),LO 160 (.iaddr 1 (LT 157) (LT 159)),LO 161 (LL 160),LO 162 (.bin .add (LT 156) (LT 161)),LM 20 162] (LS [LM 163 20,LO 164 (.bin .geq (LT 163) (LI 1000000000))] (.cond (LT 164) (.exit 2) .skip))))))
def jC:aD:=(.seq (LS [LM 99 17,LO 100 (.bin .geq (LT 99) (LI 0))] (.cond (LT 100) .skip (.exit 0))) (.seq (.block 1 (LS [LM 103 13,LM 104 17,LM 105 15,LO 106 (.bin .add (LT 104) (LT 105)),LO 107 (.iaddr 1 (LT 103) (LT 106)),LO 108 (LL 107),LO 109 (.bin .mul (LT 108) (LI 1000000000)),LM 110 13,LM 111 17,LM 112 15,LO 113 (.bin .add (LT 111) (LT 112)),LO 114 (.bin .sub (LT 113) (LI 1)),LO 115 (.iaddr 1 (LT 110) (LT 114)),LO 116 (LL 115),LO 117 (.bin .add (LT 109) (LT 116)),LM 18 117] (LS [LM 118 18,LM 119 14,LM 120 15,LO 121 (.bin .sub (LT 120) (LI 1)),LO 122 (.iaddr 1 (LT 119) (LT 121)),LO 123 (LL 122),LO 124 (.bin .quo (LT 118) (LT 123)),LM 125 18,LM 126 14,LM 127 15,LO 128 (.bin .sub (LT 127) (LI 1)),LO 129 (.iaddr 1 (LT 126) (LT 128)),LO 130 (LL 129),LO 131 (.bin .rem (LT 125) (LT 130)),LM 19 124,LM 20 131] (.seq (.block 2 (.loop gS)) (.seq (LS [LM 165 13,LM 166 14,LM 167 17,LM 168 19,LO 169 (.call 204 [(LT 165),(LT 166),(LT 167),(LT 168)])] (.cond (LT 169) (LS [LM 170 19,LO 171 (.bin .sub (LT 170) (LI 1)),LM 19 171] (.dJ [LM 172 13,LM 173 14,LM 174 17,LO 175 (.call 205 [(LT 172),(LT 173),(LT 174)])])) .skip)) (.dJ [LM 176 16,LM 177 17,LM 178 19,LO 179 (.iaddr 1 (LT 176) (LT 177)),LN (.store 1 (LT 179) (LT 178))])))))) (.dJ [LM 101 17,LO 102 (.bin .sub (LT 101) (LI 1)),LM 17 102])))
def dS:aD:=(LS [LO 4 (.mv (.const (.slice none 0 0))),LO 5 (.mv (.const (.slice none 0 0)))] (LS [LM 24 0,LO 25 (.call 201 [(LT 24)]),LM 23 25,LO 26 (LX 23 0),LO 27 (LX 23 1),LM 6 26,LM 7 27] (LS [LM 29 1,LO 30 (.call 201 [(LT 29)]),LM 28 30,LO 31 (LX 28 0),LO 32 (LX 28 1),LM 8 31,LM 9 32] (.seq (LS [LM 33 7,LM 34 33,LY 34 35 (.mv (LT 9)),LO 36 (.pick (LT 34) (LT 35) LF)] (.cond (LT 36) (LS [LM 37 6,LM 38 8,LO 39 (.bin .quo (LT 37) (LT 38)),LQ 40 (.call 178 [(LT 39)]),LM 41 6,LM 42 8,LO 43 (.bin .rem (LT 41) (LT 42)),LQ 44 (.call 178 [(LT 43)]),LM 4 40,LM 5 44] .ret) .skip)) (.seq (LS [LM 45 0,LM 46 1,LO 47 (.call 155 [(LT 45),(LT 46)]),LO 48 (.bin .lss (LT 47) (LI 0))] (.cond (LT 48) (LS [LO 49 (.lit [(.int .i64 0)] 0 []),LO 50 (.lit [(.int .i64 0)] 0 []),LM 51 0,LO 52 (.app 1 8 (LT 50) (LT 51)),LM 4 49,LM 5 52] .ret) .skip)) (.seq (LS [LM 53 1,LO 54 (.len (LT 53)),LO 55 (.bin .eql (LT 54) (LI 1))] (.cond (LT 55) (LS [LM 57 0,LM 58 1,LO 59 (.iaddr 1 (LT 58) (LI 0)),LO 60 (LL 59),LO 61 (.call 202 [(LT 57),(LT 60)]),LM 56 61,LO 62 (LX 56 0),LO 63 (LX 56 1),LM 10 62,LM 11 63] (LS [LM 64 10,LM 65 11,LO 66 (.call 178 [(LT 65)]),LM 4 64,LM 5 66] .ret)) .skip)) (LS [LM 67 1,LM 68 1,LO 69 (.len (LT 68)),LO 70 (.bin .sub (LT 69) (LI 1)),LO 71 (.iaddr 1 (LT 67) (LT 70)),LO 72 (LL 71),LO 73 (.bin .add (LT 72) (LI 1)),LO 74 (.bin .quo (LI 1000000000) (LT 73)),LM 12 74] (LS [LM 75 0,LO 76 (.len (LT 75)),LO 77 (.bin .add (LT 76) (LI 1)),LO 78 (.make [(.int .i64 0)] 8 (LT 77) (LT 77)),LM 13 78] (LS [LM 79 13,LM 80 0,LM 81 12,LO 82 (.call 203 [(LT 80),(LT 81)]),LO 83 (.copy 1 (LT 79) (LT 82))] (LS [LM 84 1,LM 85 12,LO 86 (.call 203 [(LT 84),(LT 85)]),LM 14 86] (LS [LM 87 14,LO 88 (.len (LT 87)),LM 15 88] (LS [LM 89 13,LO 90 (.len (LT 89)),LM 91 15,LO 92 (.bin .sub (LT 90) (LT 91)),LO 93 (.make [(.int .i64 0)] 8 (LT 92) (LT 92)),LM 16 93] (.seq (LS [LM 94 13,LO 95 (.len (LT 94)),LM 96 15,LO 97 (.bin .sub (LT 95) (LT 96)),LO 98 (.bin .sub (LT 97) (LI 1)),LM 17 98] (.block 0 (.loop jC))) (LS [LM 181 13,LO 182 (.call 184 [(LT 181)]),LM 183 12,LO 184 (.call 202 [(LT 182),(LT 183)]),LM 180 184,LO 185 (LX 180 0),LO 186 (LX 180 1),LM 21 185,LM 22 186] (LS [LM 187 16,LO 188 (.call 184 [(LT 187)]),LM 189 21,LM 4 188,LM 5 189] .ret)))))))))))))))
def fL:aT:=⟨190,[(.tmp 4),(.tmp 5)],dS⟩
theorem Ir:gO 185=some fL:=by kernel_rfl
def rQ:aD:=(.seq (LS [LM 3 0,LO 4 (.len (LT 3)),LO 5 (.bin .gtr (LT 4) (LI 0)),LM 6 5,LY 6 7 (.mv (LT 0)),LY 6 8 (.mv (LT 0)),LY 6 9 (.len (LT 8)),LY 6 10 (.bin .sub (LT 9) (LI 1)),LY 6 11 (.iaddr 1 (LT 7) (LT 10)),LY 6 12 (LL 11),LY 6 13 (.bin .eql (LT 12) (LI 0)),LO 14 (.pick (LT 6) (LT 13) LF)] (.cond (LT 14) .skip (.exit 0))) (.block 1 (.dJ [LM 15 0,LM 16 0,LO 17 (.len (LT 16)),LO 18 (.bin .sub (LT 17) (LI 1)),LO 19 (.sub 1 (LT 15) none (some (LT 18)) none),LM 0 19])))
def Dt:aD:=(LS [LO 2 (.mv (.const (.slice none 0 0)))] (.seq (.block 0 (.loop rQ)) (LS [LM 20 0,LM 2 20] .ret)))
def Gw:aT:=⟨21,[(.tmp 2)],Dt⟩
theorem KT:gO 184=some Gw:=by kernel_rfl
def wP:aD:=(LS [LO 4 (.mv (LI 0))] (.seq (LS [LM 5 1,LM 6 0,LO 7 (.len (LT 6)),LO 8 (.bin .lss (LT 5) (LT 7))] (.cond (LT 8) (LS [LM 9 0,LM 10 1,LO 11 (.iaddr 1 (LT 9) (LT 10)),LO 12 (LL 11),LM 4 12] .ret) .skip)) (LS [LO 4 (.mv (LI 0))] .ret)))
def AL:aT:=⟨13,[(.tmp 4)],wP⟩
theorem Kg:gO 186=some AL:=by kernel_rfl
def pG:aD:=(.seq (LS [LM 9 7,LM 10 0,LO 11 (.slen (LT 10)),LO 12 (.bin .leq (LT 9) (LT 11))] (.cond (LT 12) .skip (.exit 0))) (.seq (.block 1 (LS [LM 15 7,LM 16 0,LO 17 (.slen (LT 16)),LO 18 (.bin .eql (LT 15) (LT 17)),LM 19 18,LZ 19 20 (.mv (LT 0)),LZ 19 21 (.mv (LT 7)),LZ 19 22 (.sidx (LT 20) (LT 21)),LZ 19 23 (.mv (LT 1)),LZ 19 24 (.bin .eql (LT 22) (LT 23)),LO 25 (.pick (LT 19) LG (LT 24))] (.cond (LT 25) (LS [LM 26 5,LM 27 0,LM 28 6,LM 29 7,LO 30 (.ssub (LT 27) (some (LT 28)) (some (LT 29))),LO 31 (.lit [(.string ⟨#[]⟩)] 1 [(0,(LT 30))]),LO 32 (.app 1 16 (LT 26) (LT 31)),LM 5 32] (.dJ [LM 33 7,LO 34 (.bin .add (LT 33) (LI 1)),LM 6 34])) .skip))) (.dJ [LM 13 7,LO 14 (.bin .add (LT 13) (LI 1)),LM 7 14])))
def Fm:aD:=(LS [LO 4 (.mv (.const (.slice none 0 0)))] (LS [LO 8 (.lit [(.string ⟨#[]⟩)] 0 []),LM 5 8] (LS [LO 6 (.mv (LI 0))] (.seq (LS [LO 7 (.mv (LI 0))] (.block 0 (.loop pG))) (LS [LM 35 5,LM 4 35] .ret)))))
def Jm:aT:=⟨36,[(.tmp 4)],Fm⟩
theorem Np:gO 167=some Jm:=by kernel_rfl
def dX:aD:=(.seq (LS [LM 4 3,LM 5 0,LO 6 (.slen (LT 5)),LO 7 (.bin .lss (LT 4) (LT 6))] (.cond (LT 7) .skip (.exit 0))) (.seq (.block 1 (LS [LM 10 0,LM 11 3,LO 12 (.sidx (LT 10) (LT 11)),LO 13 (.bin .lss (LT 12) (.const (.int .u8 48))),LM 14 13,LZ 14 15 (.mv (LT 0)),LZ 14 16 (.mv (LT 3)),LZ 14 17 (.sidx (LT 15) (LT 16)),LZ 14 18 (.bin .gtr (LT 17) (.const (.int .u8 57))),LO 19 (.pick (LT 14) LG (LT 18))] (.cond (LT 19) (LS [LO 2 (.mv LF)] .ret) .skip))) (.dJ [LM 8 3,LO 9 (.bin .add (LT 8) (LI 1)),LM 3 9])))
def A8:aD:=(LS [LO 2 (.mv LF)] (.seq (LS [LO 3 (.mv (LI 0))] (.block 0 (.loop dX))) (LS [LM 20 0,LO 21 (.slen (LT 20)),LO 22 (.bin .geq (LT 21) (LI 1)),LM 23 22,LY 23 24 (.mv (LT 0)),LY 23 25 (.slen (LT 24)),LY 23 26 (.bin .leq (LT 25) (LI 200)),LO 27 (.pick (LT 23) (LT 26) LF),LM 28 27,LY 28 29 (.mv (LT 0)),LY 28 30 (.slen (LT 29)),LY 28 31 (.bin .eql (LT 30) (LI 1)),LY 28 32 (.mv (LT 31)),LZ 32 33 (.mv (LT 0)),LZ 32 34 (.sidx (LT 33) (LI 0)),LZ 32 35 (.bin .neq (LT 34) (.const (.int .u8 48))),LY 28 36 (.pick (LT 32) LG (LT 35)),LO 37 (.pick (LT 28) (LT 36) LF),LM 2 37] .ret)))
def Dx:aT:=⟨38,[(.tmp 2)],A8⟩
theorem Il:gO 168=some Dx:=by kernel_rfl
def nD:aD:=(.seq (LS [LM 20 7,LM 21 4,LO 22 (.bin .lss (LT 20) (LT 21))] (.cond (LT 22) .skip (.exit 2))) (.seq (.block 3 (.dJ [LM 25 6,LO 26 (.bin .mul (LI 10) (LT 25)),LM 27 0,LM 28 7,LO 29 (.sidx (LT 27) (LT 28)),LO 30 (.bin .sub (LT 29) (.const (.int .u8 48))),LO 31 (.cvt .i64 (LT 30)),LO 32 (.bin .add (LT 26) (LT 31)),LM 6 32])) (.dJ [LM 23 7,LO 24 (.bin .add (LT 23) (LI 1)),LM 7 24])))
def nF:aD:=(.seq (LS [LM 11 4,LO 12 (.bin .gtr (LT 11) (LI 0))] (.cond (LT 12) .skip (.exit 0))) (.seq (.block 1 (LS [LO 5 (.mv (LI 0))] (.seq (LS [LM 15 4,LO 16 (.bin .gtr (LT 15) (LI 9))] (.cond (LT 16) (.dJ [LM 17 4,LO 18 (.bin .sub (LT 17) (LI 9)),LM 5 18]) .skip)) (LS [LO 6 (.mv (LI 0))] (.seq (LS [LM 19 5,LM 7 19] (.block 2 (.loop nD))) (.dJ [LM 33 3,LM 34 6,LO 35 (.lit [(.int .i64 0)] 1 [(0,(LT 34))]),LO 36 (.app 1 8 (LT 33) (LT 35)),LM 3 36])))))) (.dJ [LM 13 4,LO 14 (.bin .sub (LT 13) (LI 9)),LM 4 14])))
def Ah:aD:=(LS [LO 2 (.mv (.const (.slice none 0 0)))] (LS [LO 8 (.lit [(.int .i64 0)] 0 []),LM 3 8] (.seq (LS [LM 9 0,LO 10 (.slen (LT 9)),LM 4 10] (.block 0 (.loop nF))) (LS [LM 37 3,LO 38 (.call 184 [(LT 37)]),LM 2 38] .ret))))
def Cz:aT:=⟨39,[(.tmp 2)],Ah⟩
theorem G3:gO 169=some Cz:=by kernel_rfl
def sC:aD:=(.seq (LS [LM 19 4,LO 20 (.bin .geq (LT 19) (LI 0))] (.cond (LT 20) .skip (.exit 0))) (.seq (.block 1 (LS [LM 23 0,LM 24 4,LO 25 (.iaddr 1 (LT 23) (LT 24)),LO 26 (LL 25),LO 27 (.bin .add (LT 26) (LI 1000000000)),LO 28 (.call 219 [(LT 27)]),LM 5 28] (.dJ [LM 29 3,LM 30 5,LO 31 (.ssub (LT 30) (some (LI 1)) none),LO 32 (.bin .add (LT 29) (LT 31)),LM 3 32]))) (.dJ [LM 21 4,LO 22 (.bin .sub (LT 21) (LI 1)),LM 4 22])))
def tF:aD:=(LS [LO 2 (.mv (.const (.string ⟨#[]⟩)))] (.seq (LS [LM 6 0,LO 7 (.len (LT 6)),LO 8 (.bin .eql (LT 7) (LI 0))] (.cond (LT 8) (LS [LO 2 (.mv (.const (.string ⟨#[48]⟩)))] .ret) .skip)) (LS [LM 9 0,LM 10 0,LO 11 (.len (LT 10)),LO 12 (.bin .sub (LT 11) (LI 1)),LO 13 (.iaddr 1 (LT 9) (LT 12)),LO 14 (LL 13),LO 15 (.call 219 [(LT 14)]),LM 3 15] (.seq (LS [LM 16 0,LO 17 (.len (LT 16)),LO 18 (.bin .sub (LT 17) (LI 2)),LM 4 18] (.block 0 (.loop sC))) (LS [LM 33 3,LM 2 33] .ret)))))
def wW:aT:=⟨34,[(.tmp 2)],tF⟩
theorem Hw:gO 208=some wW:=by kernel_rfl
def wG:aD:=(LS [LO 2 (.mv (LI 0)),LO 3 (.mv LF)] (.seq (LS [LM 4 0,LO 5 (.len (LT 4)),LO 6 (.bin .gtr (LT 5) (LI 2))] (.cond (LT 6) (LS [LO 2 (.mv (LI 0)),LO 3 (.mv LF)] .ret) .skip)) (LS [LM 7 0,LO 8 (.call 186 [(LT 7),(LI 0)]),LM 9 0,LO 10 (.call 186 [(LT 9),(LI 1)]),LO 11 (.bin .mul (LI 1000000000) (LT 10)),LO 12 (.bin .add (LT 8) (LT 11)),LM 2 12,LO 3 (.mv LG)] .ret)))
def AV:aT:=⟨13,[(.tmp 2),(.tmp 3)],wG⟩
theorem J8:gO 201=some AV:=by kernel_rfl
def qV:aD:=(.seq (LS [LM 16 8,LO 17 (.bin .geq (LT 16) (LI 0))] (.cond (LT 17) .skip (.exit 0))) (.seq (.block 1 (LS [LM 20 7,LO 21 (.bin .mul (LT 20) (LI 1000000000)),LM 22 0,LM 23 8,LO 24 (.iaddr 1 (LT 22) (LT 23)),LO 25 (LL 24),LO 26 (.bin .add (LT 21) (LT 25)),LM 9 26] (LS [LM 27 6,LM 28 8,LM 29 9,LM 30 1,LO 31 (.bin .quo (LT 29) (LT 30)),LO 32 (.iaddr 1 (LT 27) (LT 28)),LN (.store 1 (LT 32) (LT 31))] (.dJ [LM 33 9,LM 34 1,LO 35 (.bin .rem (LT 33) (LT 34)),LM 7 35])))) (.dJ [LM 18 8,LO 19 (.bin .sub (LT 18) (LI 1)),LM 8 19])))
def zB:aD:=(LS [LO 4 (.mv (.const (.slice none 0 0))),LO 5 (.mv (LI 0))] (LS [LM 10 0,LO 11 (.len (LT 10)),LO 12 (.make [(.int .i64 0)] 8 (LT 11) (LT 11)),LM 6 12] (LS [LO 7 (.mv (LI 0))] (.seq (LS [LM 13 0,LO 14 (.len (LT 13)),LO 15 (.bin .sub (LT 14) (LI 1)),LM 8 15] (.block 0 (.loop qV))) (LS [LM 36 6,LO 37 (.call 184 [(LT 36)]),LM 38 7,LM 4 37,LM 5 38] .ret)))))
def BC:aT:=⟨39,[(.tmp 4),(.tmp 5)],zB⟩
theorem Ft:gO 202=some BC:=by kernel_rfl
def mA:aD:=(LS [LO 17 (.bin .lss (LT 16) (LT 15))] (.seq (.cond (LT 17) .skip (.exit 0)) (.seq (.block 1 (LS [LO 18 (.iaddr 1 (LT 14) (LT 16)),LO 19 (LL 18),LM 8 19] (LS [LM 20 8,LM 21 1,LO 22 (.bin .mul (LT 20) (LT 21)),LM 23 6,LO 24 (.bin .add (LT 22) (LT 23)),LM 9 24] (LS [LM 25 5,LM 26 9,LO 27 (.bin .rem (LT 26) (LI 1000000000)),LO 28 (.lit [(.int .i64 0)] 1 [(0,(LT 27))]),LO 29 (.app 1 8 (LT 25) (LT 28)),LM 5 29] (.dJ [LM 30 9,LO 31 (.bin .quo (LT 30) (LI 1000000000)),LM 6 31]))))) (.dJ [LO 32 (.bin .add (LT 16) (LI 1)),LM 16 32]))))
def zM:aD:=(LS [LO 4 (.mv (.const (.slice none 0 0)))] (LS [LM 10 0,LO 11 (.len (LT 10)),LO 12 (.bin .add (LT 11) (LI 1)),LO 13 (.make [(.int .i64 0)] 8 (LI 0) (LT 12)),LM 5 13] (LS [LO 6 (.mv (LI 0))] (.seq (LS [LM 14 0,LO 15 (.len (LT 14)),LO 16 (.mv (LI 0))] (.block 0 (.loop mA))) (.seq (LS [LM 33 6,LO 34 (.bin .gtr (LT 33) (LI 0))] (.cond (LT 34) (.dJ [LM 35 5,LM 36 6,LO 37 (.lit [(.int .i64 0)] 1 [(0,(LT 36))]),LO 38 (.app 1 8 (LT 35) (LT 37)),LM 5 38]) .skip)) (LS [LM 39 5,LM 4 39] .ret))))))
def BG:aT:=⟨40,[(.tmp 4)],zM⟩
theorem Fy:gO 203=some BG:=by kernel_rfl
def kJ:aD:=(LS [LO 16 (.bin .lss (LT 15) (LT 14))] (.seq (.cond (LT 16) .skip (.exit 0)) (.seq (.block 1 (LS [LM 17 15,LO 18 (.iaddr 1 (LT 13) (LT 15)),LO 19 (LL 18),LM 10 17,LM 11 19] (LS [LM 20 0,LM 21 2,LM 22 10,LO 23 (.bin .add (LT 21) (LT 22)),LO 24 (.iaddr 1 (LT 20) (LT 23)),LO 25 (LL 24),LM 26 11,LM 27 3,LO 28 (.bin .mul (LT 26) (LT 27)),LO 29 (.bin .rem (LT 28) (LI 1000000000)),LO 30 (.bin .sub (LT 25) (LT 29)),LM 31 9,LO 32 (.bin .sub (LT 30) (LT 31)),LM 12 32] (LS [LM 33 11,LM 34 3,LO 35 (.bin .mul (LT 33) (LT 34)),LO 36 (.bin .quo (LT 35) (LI 1000000000)),LM 9 36] (.seq (LS [LM 37 12,LO 38 (.bin .lss (LT 37) (LI 0))] (.cond (LT 38) (LS [LM 39 12,LO 40 (.bin .add (LT 39) (LI 1000000000)),LM 12 40] (LS [LM 41 9,LO 42 (.bin .add (LT 41) (LI 1)),LM 9 42] (LS [LM 43 12,LO 44 (.bin .lss (LT 43) (LI 0))] (.cond (LT 44) (LS [LM 45 12,LO 46 (.bin .add (LT 45) (LI 1000000000)),LM 12 46] (.dJ [LM 47 9,LO 48 (.bin .add (LT 47) (LI 1)),LM 9 48])) .skip)))) .skip)) (.dJ [LM 49 0,LM 50 2,LM 51 10,LO 52 (.bin .add (LT 50) (LT 51)),LM 53 12,LO 54 (.iaddr 1 (LT 49) (LT 52)),LN (.store 1 (LT 54) (LT 53))])))))) (.dJ [LO 55 (.bin .add (LT 15) (LI 1)),LM 15 55]))))
def Ar:aD:=(LS [LO 8 (.mv LF)] (LS [LO 9 (.mv (LI 0))] (.seq (LS [LM 13 1,LO 14 (.len (LT 13)),LO 15 (.mv (LI 0))] (.block 0 (.loop kJ))) (LS [LM 56 0,LM 57 2,LM 58 1,LO 59 (.len (LT 58)),LO 60 (.bin .add (LT 57) (LT 59)),LO 61 (.iaddr 1 (LT 56) (LT 60)),LO 62 (LL 61),LM 63 9,LO 64 (.bin .sub (LT 62) (LT 63)),LO 65 (.iaddr 1 (LT 56) (LT 60)),LN (.store 1 (LT 65) (LT 64))] (LS [LM 66 0,LM 67 2,LM 68 1,LO 69 (.len (LT 68)),LO 70 (.bin .add (LT 67) (LT 69)),LO 71 (.iaddr 1 (LT 66) (LT 70)),LO 72 (LL 71),LO 73 (.bin .lss (LT 72) (LI 0)),LM 8 73] .ret)))))
def CO:aT:=⟨74,[(.tmp 8)],Ar⟩
theorem Gp:gO 204=some CO:=by kernel_rfl
def rS:aD:=(LS [LO 13 (.bin .lss (LT 12) (LT 11))] (.seq (.cond (LT 13) .skip (.exit 0)) (.seq (.block 1 (LS [LM 14 12,LO 15 (.iaddr 1 (LT 10) (LT 12)),LO 16 (LL 15),LM 7 14,LM 8 16] (LS [LM 17 0,LM 18 2,LM 19 7,LO 20 (.bin .add (LT 18) (LT 19)),LO 21 (.iaddr 1 (LT 17) (LT 20)),LO 22 (LL 21),LM 23 8,LO 24 (.bin .add (LT 22) (LT 23)),LM 25 6,LO 26 (.bin .add (LT 24) (LT 25)),LM 9 26] (LS [LM 27 9,LO 28 (.bin .quo (LT 27) (LI 1000000000)),LM 6 28] (.dJ [LM 29 0,LM 30 2,LM 31 7,LO 32 (.bin .add (LT 30) (LT 31)),LM 33 9,LO 34 (.bin .rem (LT 33) (LI 1000000000)),LO 35 (.iaddr 1 (LT 29) (LT 32)),LN (.store 1 (LT 35) (LT 34))]))))) (.dJ [LO 36 (.bin .add (LT 12) (LI 1)),LM 12 36]))))
def AA:aD:=(LS [LO 6 (.mv (LI 0))] (.seq (LS [LM 10 1,LO 11 (.len (LT 10)),LO 12 (.mv (LI 0))] (.block 0 (.loop rS))) (.dJ [LM 37 0,LM 38 2,LM 39 1,LO 40 (.len (LT 39)),LO 41 (.bin .add (LT 38) (LT 40)),LO 42 (.iaddr 1 (LT 37) (LT 41)),LO 43 (LL 42),LM 44 6,LO 45 (.bin .add (LT 43) (LT 44)),LO 46 (.iaddr 1 (LT 37) (LT 41)),LN (.store 1 (LT 46) (LT 45))])))
def CB:aT:=⟨47,[],AA⟩
theorem GU:gO 205=some CB:=by kernel_rfl
def kK:aD:=(.seq (LS [LM 8 3,LO 9 (.len (LT 8)),LO 10 (.bin .eql (LT 9) (LI 0)),LM 11 10,LZ 11 12 (.mv (LT 4)),LZ 11 13 (.bin .neq (LT 12) (LI 0)),LO 14 (.pick (LT 11) LG (LT 13))] (.cond (LT 14) .skip (.exit 0))) (.block 1 (LS [LM 15 4,LO 16 (.bin .rem (LT 15) (LI 10)),LM 5 16] (.seq (LS [LM 17 5,LO 18 (.bin .lss (LT 17) (LI 0))] (.cond (LT 18) (.dJ [LM 19 5,LO 20 (.un .neg (LT 19)),LM 5 20]) .skip)) (LS [LM 21 5,LO 22 (.bin .add (LI 48) (LT 21)),LO 23 (.cvt .u8 (LT 22)),LO 24 (.lit [(.int .u8 0)] 1 [(0,(LT 23))]),LM 25 3,LO 26 (.app 1 1 (LT 24) (LT 25)),LM 3 26] (.dJ [LM 27 4,LO 28 (.bin .quo (LT 27) (LI 10)),LM 4 28]))))))
def EO:aD:=(LS [LO 2 (.mv (.const (.string ⟨#[]⟩)))] (LS [LO 6 (.lit [(.int .u8 0)] 0 []),LM 3 6] (LS [LM 7 0,LM 4 7] (.seq (.block 0 (.loop kK)) (.seq (LS [LM 29 0,LO 30 (.bin .lss (LT 29) (LI 0))] (.cond (LT 30) (.dJ [LO 31 (.lit [(.int .u8 0)] 1 [(0,(.const (.int .u8 45)))]),LM 32 3,LO 33 (.app 1 1 (LT 31) (LT 32)),LM 3 33]) .skip)) (LS [LM 34 3,LO 35 (.b2s (LT 34)),LM 2 35] .ret))))))
def Je:aT:=⟨36,[(.tmp 2)],EO⟩
theorem Nt:gO 219=some Je:=by kernel_rfl
end Go.PM
namespace Go.PM
open Go.Lib
def d10 (n:Nat):UInt8:=UInt8.ofNat (48+n)
def CU:Nat→Nat→List UInt8
 | 0,_=>[]
 | k+1,r=>CU k (r / 10)++[d10 (r % 10)]
theorem jE {n:Nat} (h:n<10):decDigits n=[d10 n]:=by rw[decDigits,dif_pos h];rfl
theorem AJ {n:Nat} (h:¬n<10):decDigits n=decDigits (n / 10)++[d10 (n % 10)]:=by rw[decDigits,dif_neg h];rfl
theorem Qf (n:Nat):decDigits n≠[]:=by
 by_cases h:n<10
 ·rw[jE h];simp
 ·rw[AJ h];simp
theorem agD (k r:Nat):(CU k r).length=k:=by
 induction k generalizing r with
 | zero=>rfl
 | succ k ih=>rw[CU,List.length_append,ih];rfl
theorem aaZ (k:Nat):CU k 0=List.replicate k 48:=by
 induction k with
 | zero=>rfl
 | succ k ih=>rw[CU,ih,List.replicate_succ'];rfl
theorem aeE {q:Nat} (hq:0<q) (k r:Nat) (hr:r<10^k):decDigits (q*10^k+r)=decDigits q++CU k r:=by
 induction k generalizing r with
 |
  zero =>
  have:r=0:=by simp at hr;exact hr
  subst this
  simp[CU]
 |
  succ k ih =>
  rw[Nat.pow_succ] at hr ⊢
  have hp:0<10^k:=Nat.pow_pos (by decide)
  have h1:q*(10^k*10)=10*(q*10^k):=by grind
  have h2:1*1≤q*10^k:=Nat.mul_le_mul hq hp
  rw[AJ (by omega),h1,show (10*(q*10^k)+r) / 10=q*10^k+r / 10 by omega,show (10*(q*10^k)+r) % 10=r % 10 by omega,ih (r / 10) (by omega),CU,List.append_assoc]
theorem ajP (k r:Nat) (hr:r<10^(k+1)):CU (k+1) r=List.replicate (k+1-(decDigits r).length) 48++decDigits r:=by
 induction k generalizing r with
 |
  zero =>
  have h:r<10:=by simpa using hr
  rw[jE h,CU,CU,Nat.mod_eq_of_lt h]
  rfl
 |
  succ k ih =>
  rw[CU]
  by_cases h:r<10
  ·rw[show r / 10=0 by omega,aaZ,jE h,Nat.mod_eq_of_lt h]
   rfl
  ·rw[ih (r / 10) (by rw[Nat.pow_succ] at hr;omega),AJ h,List.append_assoc,List.length_append]
   congr 2
   simp only[List.length_cons,List.length_nil]
   omega
theorem yU (n:Nat) (k:Nat) (h:n<10^(k+1)):(decDigits n).length≤k+1:=by
 rw[decDigits_length]
 induction k generalizing n with
 | zero=>rw[nDigits_small (by simpa using h)];exact Nat.le_refl _
 |
  succ k ih =>
  by_cases hn:n<10
  ·rw[nDigits_small hn];omega
  ·rw[nDigits_big hn]
   have:=ih (n / 10) (by rw[Nat.pow_succ] at h;omega)
   omega
theorem HJ {q r:Nat} (hq:0<q) (hr:r<1000000000):decDigits (q*1000000000+r)=decDigits q++CU 9 r:=aeE hq 9 r hr
theorem aeX {r:Nat} (hr:r<1000000000):decDigits (r+1000000000)=d10 1::CU 9 r:=by
 have:=HJ (q:=1) (by decide) hr
 rw[show r+1000000000=1*1000000000+r by omega,this,jE (by decide)]
 rfl
theorem Uu (xs:List (List UInt8)):join xs []=xs.flatten:=by
 induction xs with
 | nil=>rfl
 |
  cons x xs ih =>
  unfold join at ih ⊢
  cases xs with
  | nil=>simp[List.intercalate]
  |
   cons y ys =>
   rw[List.flatten_cons,←ih]
   simp[List.intercalate,List.intersperse]
end Go.PM
namespace Go.PM
abbrev bC (l:List UInt8):VV := .sc (.string ⟨l.toArray⟩)
theorem VT.Bl {f:Nat} {p:List Value→aE→Option Value} {args:List VV} {r:VV} (hp:JZ f=some p) (h:∀(V:View) (eO:List Value),VL V args eO→∃pv,p eO V.P=some pv∧∀V',VR V' r pv):VT f args r:=by
 intro F P eO eK hF hl agX
 obtain⟨pv,h1,h2⟩:=h (bare F P) eO hl
 have e:rV f eO eK P=some (pv,P):=by
  show call cfg gO f eO eK P=some (pv,P)
  rw[Yg (E:=cfg) (T:=gO) hp]
  have WH:p eO P=some pv:=h1
  rw[WH]
  rfl
 exact⟨P,pv,e,List.prefix_refl _,h2 _⟩
theorem TC.Bl {f:Nat} {p:List Value→aE→Option Value} {args:List VV} {r:VV} (hp:JZ f=some p) (hr:Dg.contains f=false) (ha:aM args=true) (UD:iU r=true) (h:∀(V:View) (eO:List Value),VL V args eO→∃pv,p eO V.P=some pv∧∀V',VR V' r pv):TC f args r :=
 TC.of hr ha (aiP ha UD (VT.Bl hp h))
theorem VL.one {V:View} {x:Value} {ps:List Value} (h:VL V [.sc x] ps):ps=[x]:=by
 cases h with
 |
  cons _ v _ vs h hs =>
  cases h
  cases hs
  rfl
theorem VL.two {V:View} {x y:Value} {ps:List Value} (h:VL V [.sc x,.sc y] ps):ps=[x,y]:=by
 cases h with
 |
  cons _ v _ vs h hs =>
  cases h
  rw[hs.one]
theorem VL.three {V:View} {x y z:Value} {ps:List Value} (h:VL V [.sc x,.sc y,.sc z] ps):ps=[x,y,z]:=by
 cases h with
 |
  cons _ v _ vs h hs =>
  cases h
  rw[hs.two]
theorem Xc (x:Nat) (h:x<4294967296):TC 198 [.sc (.int .u32 (x:Int))] (VI (32-(Lib.bitLen x:Int))):=by
 refine TC.Bl (p:=Dy) rfl rfl rfl rfl fun V ps hl => ?_
 rw[hl.one]
 unfold Dy
 simp only
 rw[if_pos ⟨by omega,by omega⟩,Int.toNat_natCast]
 exact⟨_,rfl,fun _ => .sc _ rfl⟩
theorem alT (n:Nat) (h:n<18446744073709551616):TC 214 [.sc (.int .u64 (n:Int)),VI 10] (bC (Lib.decDigits n)):=by
 refine TC.Bl (p:=wE) rfl rfl rfl rfl fun V ps hl => ?_
 rw[hl.two]
 unfold wE
 simp only
 rw[if_pos ⟨trivial,by omega,by omega⟩,Int.toNat_natCast]
 exact⟨_,rfl,fun _ => .sc _ rfl⟩
theorem Zy (s:List UInt8) (c:Nat) (h:s.length*c≤140737488355328) (hc:c≤9223372036854775807):TC 215 [bC s,VI (c:Int)] (bC (Lib.repeatL s c)):=by
 refine TC.Bl (p:=G0) rfl rfl rfl rfl fun V ps hl => ?_
 rw[hl.two]
 unfold G0
 simp only
 rw[if_pos ⟨by omega,by omega,by rw[Int.toNat_natCast];exact h⟩,Int.toNat_natCast]
 exact⟨_,rfl,fun _ => .sc _ rfl⟩
theorem Fb {V:View}:∀ {xs:List (List UInt8)} {ps:List Value},VL V ((xs.map bC).flatMap aB) ps→strCells ps=some (xs.map fun x=>⟨x.toArray⟩)
 |
  [],ps,h=>by
  have h':VL V [] ps:=h
  cases h'
  rfl
 |
  x::xs,ps,h=>by
  rw[List.map_cons,List.flatMap_cons] at h
  have h':VL V (bC x::(xs.map bC).flatMap aB) ps:=h
  cases h' with
  |
   cons _ v _ vs h1 h2 =>
   cases h1
   rw[strCells,Fb h2]
   rfl
theorem ajF (xs:List (List UInt8)) (hx:xs.length≤140737488355328) (hlen:xs.flatten.length≤140737488355328):TC 217 [aQ bC xs,bC []] (bC xs.flatten):=by
 refine TC.Bl (p:=Rs) rfl rfl (by simp only[aM,oD (f:=bC) (fun _=>rfl) (fun _=>rfl),Bool.and_true];rfl) rfl fun V ps hl => ?_
 cases hl with
 |
  cons _ v _ vs h hs =>
  rw[hs.one]
  have akT:(xs.map fun x=>(⟨x.toArray⟩:ByteArray)).map (·.data.toList)=xs:=by
   rw[List.map_map]
   exact List.map_id' xs
  have jn:Lib.join ((xs.map fun x=>(⟨x.toArray⟩:ByteArray)).map (·.data.toList)) ([]:List UInt8)=xs.flatten:=by rw[akT,Uu]
  have h':VR V (.tree (xs.map bC) .op) v:=h
  clear h
  generalize Nq:xs.map bC=es at h'
  cases h' with
  |
   pB k hk =>
   have:xs=[]:=List.map_eq_nil_iff.1 Nq
   subst this
   exact⟨_,rfl,fun _ => .sc _ rfl⟩
  |
   tree _ k b o c r e p hF hb ho hc he hk hl =>
   subst Nq
   by_cases h0:xs=[]
   ·subst h0
    exact⟨_,rfl,fun _ => .sc _ rfl⟩
   ·obtain⟨y,ys,rfl⟩:=List.exists_cons_of_ne_nil h0
    have e1:e=1:=(he (bC y) (by simp)).symm
    subst e1
    rw[Nat.mul_one] at ho hl
    have hr:V.P.read b o ((y::ys).map bC).length=some ((r.drop o).take ((y::ys).map bC).length):=by
     unfold aE.read
     rw[hb]
     simp only
     rw[if_pos ho]
    have hn:¬((y::ys).map bC).length=0:=by simp
    refine⟨.string ⟨(y::ys).flatten.toArray⟩,?_,fun _ => .sc _ rfl⟩
    unfold Rs
    simp only[hn,if_false,hr,Option.bind_some,Fb hl]
    rw[if_pos ⟨by simp,hc,by simpa using hx,by rw[jn];exact hlen⟩,jn]
theorem agQ (s:List UInt8) (c:UInt8):TC 209 [bC s,bC [c]] (VI (Lib.indexByte s c)):=by
 refine TC.Bl (p:=PL) rfl rfl rfl rfl fun V ps hl => ?_
 rw[hl.two]
 exact⟨_,rfl,fun _ => .sc _ rfl⟩
theorem agE (s:List UInt8) (u:Nat) (hs:s.length≤9223372036854775806) (h:Lib.parseUintB 64 s = .ok u):TC 192 [bC s,VI 10,VI 64] (.fN [.sc (.int .u64 (u:Int)),.sc .nilIface]):=by
 refine TC.Bl (p:=zQ) rfl rfl rfl rfl fun V ps hl => ?_
 rw[hl.three]
 unfold zQ
 simp only
 rw[if_pos ⟨trivial,trivial,hs⟩]
 have h':Lib.parseUintB 64 (⟨s.toArray⟩:ByteArray).data.toList = .ok u:=h
 rw[h']
 refine⟨_,rfl,fun V' => ?_⟩
 exact .fN _ _ (.cons _ _ _ _ (.sc _ rfl) (.cons _ _ _ _ (.sc _ rfl) .nil))
end Go.PM
namespace Go.PM
section
variable {b:Nat}
theorem P5 {α:Type} {pre iQ post:List α} {o j:Nat} (ho:pre.length=o) (hj:j<iQ.length):(pre++iQ++post)[o+j]? = iQ[j]? := by
 subst ho
 rw[List.append_assoc,List.getElem?_append_right (by omega),Nat.add_sub_cancel_left,List.getElem?_append_left hj]
theorem Vf {α:Type} {pre iQ post:List α} {o j:Nat} {v:α} (ho:pre.length=o) (hj:j<iQ.length):(pre++iQ++post).set (o+j) v=pre++iQ.set j v++post:=by
 subst ho
 rw[List.append_assoc,List.set_append_right _ _ (by omega),Nat.add_sub_cancel_left,List.set_append_left _ _ hj,List.append_assoc]
theorem M4 {xs:List Nat} {i d:Nat} (h:i<xs.length):(xs.set i d).drop (i+1)=xs.drop (i+1):=by
 rw[List.set_eq_take_append_cons_drop,if_pos h,List.drop_append]
 simp[Nat.min_eq_left (by omega:i≤xs.length)]
theorem acL {U V W P V2 U3 g:Nat} (hV:V<(V2+1)*P) (hU:U3*P≤U) (hWP:W*P≤V) (hg:g≤W) (h:g*V2≤U3):g*V≤U+V:=by
 have h1:g*V≤g*((V2+1)*P):=Nat.mul_le_mul_left _ (by omega)
 have h2:g*((V2+1)*P)=g*V2*P+g*P:=by grind
 have h3:g*V2*P≤U3*P:=Nat.mul_le_mul_right _ h
 have h4:g*P≤W*P:=Nat.mul_le_mul_right _ hg
 omega
theorem abP {U V P V2 U3 g q:Nat} (hP:0<P) (hV:V2*P≤V) (hU:U<(U3+1)*P) (hq:q*V≤U) (h:U3<g*V2):q<g:=by
 have h1:q*(V2*P)≤q*V:=Nat.mul_le_mul_left _ hV
 have h2:q*V2*P<(U3+1)*P:=by
  have:q*V2*P=q*(V2*P):=by grind
  omega
 have h3:q*V2<U3+1:=Nat.lt_of_mul_lt_mul_right h2
 have h4:q*V2<g*V2:=by omega
 exact Nat.lt_of_mul_lt_mul_right h4
theorem AE {xs:List Nat} {n t:Nat} (hx:∀d∈xs,d<b) (hn:xs.length=n+1) (ht:xs[n]? = some t):t*b^n≤val b xs∧val b xs<(t+1)*b^n:=by
 have h1:=bD (b:=b) ht
 rw[List.take_of_length_le (by omega)] at h1
 have h2:=pF (b:=b) (xs:=xs.take n) fun d hd=>hx d (List.mem_of_mem_take hd)
 rw[List.length_take,Nat.min_eq_left (by omega)] at h2
 rw[Nat.add_mul,Nat.mul_comm t]
 omega
theorem DP {xs:List Nat} {n t u:Nat} (hx:∀d∈xs,d<b) (hn:xs.length=n+2) (ht:xs[n+1]? = some t) (hu:xs[n]? = some u):(t*b+u)*b^n≤val b xs∧val b xs<(t*b+u+1)*b^n:=by
 have h1:=bD (b:=b) ht
 rw[List.take_of_length_le (by omega),bD hu] at h1
 have h2:=pF (b:=b) (xs:=xs.take n) fun d hd=>hx d (List.mem_of_mem_take hd)
 rw[List.length_take,Nat.min_eq_left (by omega)] at h2
 have e:(t*b+u)*b^n=b^n*u+b^(n+1)*t:=by rw[Nat.pow_succ];grind
 rw[Nat.add_mul (t*b+u),e]
 omega
theorem Sb {xs:List Nat} {n t u v:Nat} (hx:∀d∈xs,d<b) (hn:xs.length=n+3) (ht:xs[n+2]? = some t) (hu:xs[n+1]? = some u) (hv:xs[n]? = some v):((t*b+u)*b+v)*b^n≤val b xs∧val b xs<((t*b+u)*b+v+1)*b^n:=by
 have h1:=bD (b:=b) ht
 rw[List.take_of_length_le (by omega),bD hu,bD hv] at h1
 have h2:=pF (b:=b) (xs:=xs.take n) fun d hd=>hx d (List.mem_of_mem_take hd)
 rw[List.length_take,Nat.min_eq_left (by omega)] at h2
 have e:((t*b+u)*b+v)*b^n=b^n*v+b^(n+1)*u+b^(n+2)*t:=by rw[Nat.pow_succ,Nat.pow_succ];grind
 rw[Nat.add_mul ((t*b+u)*b+v),e]
 omega
structure xB (b:Nat) (us vs:List Nat) (n u2 u1 u0 v1 v0:Nat):Prop where
 hb:2≤b
 Oo:∀d∈us,d<b
 OK:∀d∈vs,d<b
 UG:us.length=n+3
 KZ:vs.length=n+2
 e2:us[n+2]? = some u2
 e1:us[n+1]? = some u1
 e0:us[n]? = some u0
 f1:vs[n+1]? = some v1
 f0:vs[n]? = some v0
 pos:1≤v1
 less:val b us<b*val b vs
section
variable {us vs:List Nat} {n u2 u1 u0 v1 v0:Nat} (G:xB b us vs n u2 u1 u0 v1 v0)
include G
theorem xB.HS:0<val b vs:=by
 have h:=(DP G.OK G.KZ G.f1 G.f0).1
 have h1:0<(v1*b+v0)*b^n:=Nat.mul_pos (by have:=Nat.mul_pos G.pos (show 0<b by have:=G.hb;omega);omega) (Nat.pow_pos (by have:=G.hb;omega))
 omega
theorem xB.aiA:u2<b:=G.Oo _ (List.mem_of_getElem? G.e2)
theorem xB.abB:u1<b:=G.Oo _ (List.mem_of_getElem? G.e1)
theorem xB.aiD:u0<b:=G.Oo _ (List.mem_of_getElem? G.e0)
theorem xB.UU:v1<b:=G.OK _ (List.mem_of_getElem? G.f1)
theorem xB.abK:v0<b:=G.OK _ (List.mem_of_getElem? G.f0)
theorem xB.agB:val b us / val b vs<b:=(Nat.div_lt_iff_lt_mul G.HS).2 G.less
theorem xB.top:u2≤v1:=by
 have h1:=(AE (n:=n+2) G.Oo G.UG G.e2).1
 have h2:=(AE (n:=n+1) G.OK G.KZ G.f1).2
 have h3:b*val b vs<b*((v1+1)*b^(n+1)):=Nat.mul_lt_mul_of_pos_left h2 (by have:=G.hb;omega)
 have h4:b*((v1+1)*b^(n+1))=(v1+1)*b^(n+2):=by rw[Nat.pow_succ b (n+1)];grind
 have h5:=G.less
 have h6:u2*b^(n+2)<(v1+1)*b^(n+2):=by omega
 have:=Nat.lt_of_mul_lt_mul_right h6
 omega
theorem xB.too {g left:Nat} (hh:u2*b+u1=g*v1+left) (h:left*b+u0<g*v0):val b us / val b vs<g:=by
 have hu:=(Sb G.Oo G.UG G.e2 G.e1 G.e0).2
 have hv:=(DP G.OK G.KZ G.f1 G.f0).1
 refine abP (P:=b^n) (V2:=v1*b+v0) (U3:=(u2*b+u1)*b+u0) (Nat.pow_pos (by have:=G.hb;omega)) hv hu (Nat.div_mul_le_self _ _) ?_
 rw[hh]
 have:(g*v1+left)*b+u0=g*v1*b+(left*b+u0):=by grind
 have:g*(v1*b+v0)=g*v1*b+g*v0:=by grind
 omega
theorem xB.Xu {g left:Nat} (hh:u2*b+u1=g*v1+left) (hg:g≤b) (h:g*v0≤left*b+u0):g≤val b us / val b vs+1:=by
 have hu:=(Sb G.Oo G.UG G.e2 G.e1 G.e0).1
 have hv:=DP G.OK G.KZ G.f1 G.f0
 have h1:b*b^n≤val b vs:=by
  have:b*b^n≤(v1*b+v0)*b^n:=Nat.mul_le_mul_right _ (by have:=Nat.mul_le_mul_right b G.pos;omega)
  omega
 have h2:=acL (U:=val b us) (V:=val b vs) (W:=b) (P:=b^n) (V2:=v1*b+v0) (U3:=(u2*b+u1)*b+u0) (g:=g) hv.2 hu h1 hg (by
  rw[hh]
  have:(g*v1+left)*b+u0=g*v1*b+(left*b+u0):=by grind
  have:g*(v1*b+v0)=g*v1*b+g*v0:=by grind
  omega)
 have h3:g≤(val b us+val b vs) / val b vs:=(Nat.le_div_iff_mul_le G.HS).2 h2
 rwa [Nat.add_div_right _ G.HS] at h3
theorem xB.broken {g left:Nat} (hh:u2*b+u1=g*v1+left) (h:b≤left):g<b∧g*v0≤left*b+u0:=by
 have h1:=G.top
 have h2:=G.abB
 have h3:u2*b≤v1*b:=Nat.mul_le_mul_right _ h1
 have h4:g*v1<b*v1:=by rw[Nat.mul_comm b];omega
 have hg:g<b:=Nat.lt_of_mul_lt_mul_right h4
 refine⟨hg,?_⟩
 have h5:=G.abK
 have h6:g*v0≤b*b:=Nat.mul_le_mul (by omega) (by omega)
 have h7:b*b≤left*b:=Nat.mul_le_mul_right _ h
 omega
end
theorem Xa {P A N T c l x y r W l' c' c1 lo t:Nat} (h:A+P*(c+l)=N+T) (h1:c1=c+t*y) (h2:c1=lo+W*c') (hd:r+lo+l=x+W*l'):(A+P*x)+P*W*(c'+l')=(N+P*r)+(T+P*(t*y)):=by
 subst h1
 have e:r+(c+t*y)+l=x+W*l'+W*c':=by omega
 have e2:P*(r+(c+t*y)+l)=P*(x+W*l'+W*c'):=by rw[e]
 grind
theorem Zb {S S' V t P cl:Nat} (h:S+P*cl=S'+t*V) (hS':S'<P) (hV:V≤P) (ht:t*V≤S+V):cl=0∨cl=1:=by
 rcases Nat.lt_or_ge cl 2 with h1 | h1
 ·omega
 ·have:P*2≤P*cl:=Nat.mul_le_mul_left _ h1
  omega
theorem ZA {S S1 S2 V t P c:Nat} (h1:S+P=S1+t*V) (h2:S1+V=S2+P*c) (hS2:S2<P) (hV:V≤P) (ht:t*V≤S+V) (hS:S<P) (bH:S<t*V):S2+t*V=S+V:=by
 have hc:c=1:=by
  rcases Nat.lt_or_ge c 1 with h | h
  ·have:c=0:=by omega
   subst this
   omega
  ·rcases Nat.lt_or_ge c 2 with h3 | h3
   ·omega
   ·have:P*2≤P*c:=Nat.mul_le_mul_left _ h3
    omega
 subst hc
 omega
end
end Go.PM
namespace Go.PM
abbrev uV (d:Nat):VV := .sc (.int .u32 (d:Int))
abbrev Bc (ds:List Nat):VV:=aQ uV ds
def bO (n:Nat):VV:=Bc (aC 4294967296 n)
theorem TZ:∀d:Nat,(aB (uV d)).length=1:=fun _=>rfl
theorem XC (ds:List Nat):bA (Bc ds)=true:=oD TZ fun _=>rfl
theorem ZW (ds:List Nat):iU (Bc ds)=true:=DI TZ (fun _=>rfl) fun _=>rfl
theorem bU (n:Nat):bA (bO n)=true:=XC _
theorem rD (n:Nat):iU (bO n)=true:=ZW _
theorem Ep:bO 0 = .tree [] .op:=by rw[bO,cG];rfl
theorem VC (a b:Nat) (ha:a<18446744073709551616) (hb:0<b):dU .quo (.int .u64 (a:Int)) (.int .u64 (b:Int))=some (.int .u64 ((a / b:Nat):Int)):=by
 have h1:¬((b:Int)=0):=by omega
 have h2:(a:Int).tdiv (b:Int)=((a / b:Nat):Int):=by rw[Int.tdiv_eq_ediv_of_nonneg (by omega)];simp
 have h3:a / b≤a:=Nat.div_le_self _ _
 simp only[dU,if_true,h1,if_false,h2]
 rw[fR _ (by omega)]
theorem O5 (a b:Nat) (hb:0<b):dU .rem (.int .u64 (a:Int)) (.int .u64 (b:Int))=some (.int .u64 ((a % b:Nat):Int)):=by
 have h1:¬((b:Int)=0):=by omega
 have h2:(a:Int).tmod (b:Int)=((a % b:Nat):Int):=by rw[Int.tmod_eq_emod_of_nonneg (by omega)];simp
 simp only[dU,if_true,h1,if_false,h2]
theorem akW (n s:Nat) (hn:n<4294967296) (hs:s≤31):dU .shl (.int .u64 (n:Int)) (.int .i64 (s:Int))=some (.int .u64 ((n*2^s:Nat):Int)):=by
 have h1:¬((s:Int)<0):=by omega
 have h2:Nat.min (Int.toNat (s:Int)) IntKind.u64.bits=s:=by
  rw[Int.toNat_natCast]
  exact Nat.min_eq_left (by show s≤64;omega)
 have h3:2^s≤2^31:=Nat.pow_le_pow_right (by decide) hs
 have h4:n*2^s≤n*2^31:=Nat.mul_le_mul_left _ h3
 simp only[dU,h1,if_false,h2]
 congr 2
 have e:(n:Int)*2^s=((n*2^s:Nat):Int):=by simp
 rw[e]
 exact fR _ (by omega)
theorem YU (n s:Nat) (hs:s≤31):dU .shr (.int .u64 (n:Int)) (.int .i64 (s:Int))=some (.int .u64 ((n / 2^s:Nat):Int)):=by
 have h1:¬((s:Int)<0):=by omega
 have h2:Nat.min (Int.toNat (s:Int)) IntKind.u64.bits=s:=by
  rw[Int.toNat_natCast]
  exact Nat.min_eq_left (by show s≤64;omega)
 simp only[dU,h1,if_false,h2]
 congr 2
 rw[Int.fdiv_eq_ediv_of_nonneg _ (by exact Int.le_of_lt (Int.pow_pos (by decide)))]
 simp
theorem alP (a m s:Nat) (ha:a<2^s) (hm:m*2^s+a<4294967296):dU .or (.int .u32 (a:Int)) (.int .u32 ((m*2^s:Nat):Int))=some (.int .u32 ((a+m*2^s:Nat):Int)):=by
 have e:a ||| (m*2^s)=a+m*2^s:=by
  have:=Nat.shiftLeft_add_eq_or_of_lt ha m
  rw[Nat.shiftLeft_eq] at this
  rw[Nat.or_comm,←this,Nat.add_comm]
 have e1:(BitVec.ofInt IntKind.u32.bits (a:Int) ||| BitVec.ofInt IntKind.u32.bits ((m*2^s:Nat):Int)).toNat=a+m*2^s:=by
  show (BitVec.ofInt 32 (a:Int) ||| BitVec.ofInt 32 ((m*2^s:Nat):Int)).toNat=a+m*2^s
  rw[BitVec.toNat_or,BitVec.ofInt_natCast,BitVec.ofInt_natCast,BitVec.toNat_ofNat,BitVec.toNat_ofNat,Nat.mod_eq_of_lt (by omega),Nat.mod_eq_of_lt (by omega),e]
 simp only[dU,if_true,e1]
 rw[wrap32,Nat.mod_eq_of_lt (by omega)]
section
variable {rows:List Nat} {b g c n e:Nat} {w:Bool} {H:aA}
theorem KD {m d:Nat} (hr:aH H b g=some (rows.map uV,1,w)) (hn:n≤rows.length) (hc:n≤c) (he:rows.take n=aC 4294967296 m):fz (d+2) H (.ref b g 0 n c)=some (bO m):=by
 have:bA (.ref b g 0 n c)=false:=rfl
 unfold fz
 simp only[this,hr,Bool.false_eq_true,if_false]
 have Dq:aM ((rows.map uV).take n)=true:=by rw[←List.map_take];exact fJ fun _=>rfl
 rw[if_pos ⟨by simpa using hn,hc⟩,List.drop_zero,mapM_pure Dq,←List.map_take,he]
 rfl
theorem Qe {m:Nat} (hr:aH H b g=some (rows.map uV,1,w)) (hn:n≤rows.length) (hc:n≤c) (he:rows.take n=aC 4294967296 m):fz depth H (.ref b g 0 n c)=some (bO m):=KD (d:=6) hr hn hc he
theorem bT {d:Nat} {u u' v v':VV} (h1:fz (d+1) H u=some u') (h2:fz (d+1) H v=some v'):fz (d+2) H (.fN [u,v])=some (.fN [u',v']):=by
 have e:fz (d+2) H (.fN [u,v])=if bA (.fN [u,v])=true then some (.fN [u,v]) else ([u,v].mapM (fz (d+1) H)).map .fN:=rfl
 rw[e]
 by_cases hp:bA (.fN [u,v])=true
 ·rw[if_pos hp]
  simp only[bA,aM,Bool.and_eq_true,and_true] at hp
  rw[aJ hp.1] at h1
  rw[aJ hp.2] at h2
  cases h1
  cases h2
  rfl
 ·rw[if_neg hp,List.mapM_cons,h1,List.mapM_cons,h2]
  rfl
theorem jD {j d:Nat} (hr:aH H b g=some (rows.map uV,1,w)) (hj:rows[j]? = some d):cN false 1 (.ptr b g j 0) H=some (uV d):=qD hr hj
theorem Pl {xs:List Nat} {m d:Nat} (hm:xs.length=m+1) (hd:xs[m]? = some d) (h:d≠0):xs.getLast? ≠ some 0:=by
 rw[List.getLast?_eq_getElem?,hm,Nat.add_sub_cancel,hd]
 simpa using h
end
theorem YL {rows:List Nat} {b g n c:Nat} {w:Bool} {H:aA} {lo:Nat} (hr:aH H b g=some (rows.map uV,1,w)) (hn:n≤rows.length) (hc:n≤c) (DL:n≤70368744177664) (hd:∀d∈rows.take n,d<4294967296) :
  kS 182 [.ref b g 0 n c] lo H fun r H'=>H'=H∧∃k,k≤n∧r = .ref b g 0 k c∧rows.take k=aC 4294967296 (val 4294967296 (rows.take n)):=by
 refine kS.walk ⟨true,false⟩ Ai (Nat.le_of_ble_eq_true rfl) ?_
 simp only[wQ,sO,VX,Nat.reduceEqDiff,Nat.reduceAdd]
 refine aP (fun(k:Nat) ρ H'=>k≤n∧H'=H∧val 4294967296 (rows.take k)=val 4294967296 (rows.take n)∧ρ 0 = .ref b g 0 k c) (fun k=>k) n ⟨Nat.le_refl _,rfl,rfl,rfl⟩ ?_
 rintro k ρ H' ⟨hk,rfl,hv,h0⟩
 have e0:qB (.ref b g 0 k c) H'=some (VI k):=dP hr
 have done:(rows.take k).getLast? ≠ some 0→rows.take k=aC 4294967296 (val 4294967296 (rows.take n)):=fun fQ=>by
  rw[←hv,Mx (by decide) (fun d h=>hd d ?_) fQ]
  exact(List.take_sublist_take_left hk).mem h
 rcases Nat.eq_zero_or_pos k with hz | hp
 ·subst hz
  simp only[fU,h0,e0,Int.reduceLT,Int.natCast_zero,VX,Nat.reduceEqDiff,Nat.reduceAdd]
  exact⟨0,hk,rfl,done (by simp)⟩
 ·obtain⟨m,rfl⟩:∃m,k=m+1:=⟨k-1,by omega⟩
  obtain⟨d,Y7⟩:∃d,rows[m]? = some d:=⟨_,List.getElem?_eq_getElem (by omega)⟩
  have Dq:(0:Int)<((m+1:Nat):Int):=by omega
  have w1:IntKind.i64.wrap (((m+1:Nat):Int)-1)=(m:Int):=by rw[wrap64 (by omega) (by omega)];omega
  have e1:bP 1 (.ref b g 0 (m+1) c) (VI m) H'=some (.ptr b g m 0):=by rw[aS hr (by omega),Nat.zero_add]
  have e2:=jD hr Y7
  by_cases Dp:(d:Int)=0
  ·have hd1:d=0:=by omega
   subst hd1
   have e3:Gb 1 (.ref b g 0 (m+1) c) none (some (VI m)) none H'=some (.ref b g 0 m c):=sD hr (by omega)
   simp only[fU,h0,e0,Dq,w1,e1,e2,e3,Dp,VX,Nat.reduceEqDiff,Nat.reduceAdd]
   refine⟨m,by omega,by omega,?_,rfl⟩
   rw[←hv,bD Y7,Nat.mul_zero,Nat.add_zero]
  ·simp only[fU,h0,e0,Dq,w1,e1,e2,Dp,VX,Nat.reduceEqDiff,Nat.reduceAdd]
   refine⟨m+1,hk,rfl,done (Pl (m:=m) (d:=d) (by rw[List.length_take];omega) ?_ (by omega))⟩
   rw[List.getElem?_take_of_lt (by omega)]
   exact Y7
theorem Yf (ds:List Nat) (t:TK) {lo:Nat} {H:aA} (h:∀d∈ds,d<4294967296) (hlen:ds.length≤70368744177664) :
  kS 182 [.tree (ds.map uV) t] lo H fun r H'=>H'=H∧∃t',(t'=t∨t' = .op)∧r = .tree ((aC 4294967296 (val 4294967296 ds)).map uV) t':=by
 refine kS.walk ⟨true,false⟩ Ai (Nat.le_of_ble_eq_true rfl) ?_
 simp only[wQ,sO,VX,Nat.reduceEqDiff,Nat.reduceAdd]
 refine aP (fun(s:List Nat×TK) ρ H'=>(∀d∈s.1,d<4294967296)∧val 4294967296 s.1=val 4294967296 ds∧s.1.length≤ds.length∧H'=H∧(s.2=t∨s.2 = .op)∧ρ 0 = .tree (s.1.map uV) s.2) (fun s=>s.1.length) (ds,t) ⟨h,rfl,Nat.le_refl _,rfl,.inl rfl,rfl⟩ ?_
 rintro⟨xs,t'⟩ ρ H' ⟨hx,hv,hl,rfl,ht,h0⟩
 simp only at hx hv hl ht h0
 have done:xs.getLast? ≠ some 0→xs=aC 4294967296 (val 4294967296 ds):=fun fQ=>by rw[←hv,Mx (by decide) hx fQ]
 rcases Nat.eq_zero_or_pos xs.length with hz | hp
 ·have hxn:xs=[]:=List.length_eq_zero_iff.1 hz
  subst hxn
  simp only[fU,h0,Int.reduceLT,Int.natCast_zero,VX,Nat.reduceEqDiff,Nat.reduceAdd]
  exact⟨t',ht,by rw[←done (by simp)];rfl⟩
 ·obtain⟨m,hm⟩:∃m,xs.length=m+1:=⟨xs.length-1,by omega⟩
  obtain⟨d,hd⟩:∃d,xs[m]? = some d:=⟨_,List.getElem?_eq_getElem (by omega)⟩
  have Dq:(0:Int)<((m+1:Nat):Int):=by omega
  have w1:IntKind.i64.wrap (((m+1:Nat):Int)-1)=(m:Int):=by rw[wrap64 (by omega) (by omega)];omega
  have e1:=aI (f:=uV) (t:=t') (H:=H') (size:=1) (k := .i64) hd rfl
  by_cases Dp:(d:Int)=0
  ·have hd1:d=0:=by omega
   subst hd1
   have e2:=Jg (f:=uV) (size:=1) (t:=t') (H:=H') (k2 := .i64) (xs:=xs) (h:=m) TZ (by omega) (by omega)
   have QO:xs=xs.take m++[0]:=by
    have:=List.take_append_drop m xs
    have h3:=(List.getElem?_eq_some_iff.1 hd)
    rw[List.drop_eq_getElem_cons h3.1,h3.2,List.drop_of_length_le (by omega)] at this
    exact this.symm
   simp only[fU,h0,hm,Dq,w1,e1,e2,Dp,VX,Nat.reduceEqDiff,Nat.reduceAdd]
   refine⟨(xs.take m,.op),by simp only[List.length_take];omega,fun d hd=>hx d (List.mem_of_mem_take hd),?_,by simp only[List.length_take];omega,.inr rfl,rfl⟩
   rw[←hv]
   conv=>rhs;rw[QO]
   rw[tE]
   simp
  ·simp only[fU,h0,hm,Dq,w1,e1,Dp,VX,Nat.reduceEqDiff,Nat.reduceAdd]
   exact⟨t',ht,by rw[←done (Pl hm hd (by omega))]⟩
theorem sG {rows:List Nat} {b g n c:Nat} {w:Bool} {H:aA} {K:VV→aA→Prop} {m lo:Nat} (hr:aH H b g=some (rows.map uV,1,w)) (hn:n≤rows.length) (hc:n≤c) (DL:n≤70368744177664) (hd:∀d∈rows.take n,d<4294967296) (hm:val 4294967296 (rows.take n)=m)
  (hk:∀k,k≤n→rows.take k=aC 4294967296 m→K (.ref b g 0 k c) H):cZ 182 [.ref b g 0 n c] lo H K:=by
 refine gC rfl ((YL hr hn hc DL hd).mono ?_)
 rintro r H' ⟨rfl,k,h1,rfl,h2⟩
 rw[hm] at h2
 exact hk k h1 h2
theorem Ma {ds:List Nat} {t:TK} {lo:Nat} {H:aA} {K:VV→aA→Prop} {m:Nat} (h:∀d∈ds,d<4294967296) (hlen:ds.length≤70368744177664) (hm:val 4294967296 ds=m) (hk:∀t',(t'=t∨t' = .op)→K (.tree ((aC 4294967296 m).map uV) t') H):cZ 182 [.tree (ds.map uV) t] lo H K:=by
 refine gC rfl ((Yf ds t h hlen).mono ?_)
 rintro r H' ⟨rfl,t',h1,rfl⟩
 rw[hm]
 exact hk t' h1
theorem afV {H:aA} {m:Nat} {t:TK} (ht:t = .cl 1∨t = .op):fz depth H (.tree ((aC 4294967296 m).map uV) t)=some (bO m):=by
 rcases ht with rfl | rfl
 ·exact aiI (fJ fun _=>rfl)
 ·exact aK (bU m)
end Go.PM
namespace Go.PM
theorem nC (n:Nat) (h:n<18446744073709551616):TC 139 [VK .u64 n] (bO n):=by
 refine TC.walk ⟨true,false⟩ PJ rfl (Nat.le_of_ble_eq_true rfl) rfl (rD _) ?_
 have e1:=aaD (H:=[]) (z:=[.int .u32 0]) (u:=uV (n % 4294967296)) (v:=uV (n / 4294967296 % 4294967296)) rfl rfl rfl rfl rfl
 have hm:∀d∈[n % 4294967296,n / 4294967296 % 4294967296],d<4294967296:=by
  intro d hd
  simp only[List.mem_cons,List.not_mem_nil,or_false] at hd
  rcases hd with rfl | rfl<;>exact Nat.mod_lt _ (by decide)
 have hv:val 4294967296 [n % 4294967296,n / 4294967296 % 4294967296]=n:=by
  simp only[val]
  have:=Nat.mod_add_div n 4294967296
  rw[Nat.mod_eq_of_lt (show n / 4294967296<4294967296 by omega)]
  omega
 simp only[KN,HA,wrap32,tU,e1,VX,Nat.reduceEqDiff,Nat.reduceAdd]
 refine Ma (ds:=[n % 4294967296,n / 4294967296 % 4294967296]) (t := .cl 1) hm (by show 2≤70368744177664;decide) hv fun t' ht => ?_
 simp only[VX,Nat.reduceEqDiff,Nat.reduceAdd]
 exact afV ht
theorem A9 (n:Nat) (hn:(aC 4294967296 n).length≤17592186044416):TC 193 [bO n] (if (aC 4294967296 n).length≤2 then .fN [VK .u64 n,VB true] else .fN [VK .u64 0,VB false]):=by
 refine TC.walk ⟨true,false⟩ FT rfl (Nat.le_of_ble_eq_true rfl) (by simp[aM,bU]) (by split<;>rfl) ?_
 have hv:=cJ (b:=4294967296) (by decide) n
 have hl:=fP (b:=4294967296) (by decide) n
 unfold bO Bc
 generalize aC 4294967296 n=ds at *
 have w1:IntKind.i64.wrap ((ds.length:Int)-1)=(ds.length:Int)-1:=wrap64 (by omega) (by omega)
 simp only[BM,zW,w1,VX,Nat.reduceEqDiff,Nat.reduceAdd]
 by_cases h2:ds.length≤2
 ·rw[if_pos h2]
  have c2:(ds.length:Int)≤2:=by omega
  refine aP (fun(j:Nat) ρ H=>j≤ds.length∧H=[]∧ρ 0=aQ uV ds∧ρ 4=VK .u64 (val 4294967296 (ds.drop j):Nat)∧ρ 5=VI ((j:Int)-1)) (fun j=>j) ds.length ⟨Nat.le_refl _,rfl,rfl,by rw[List.drop_length];rfl,rfl⟩ ?_
  rintro j ρ H ⟨hj,rfl,g0,g4,g5⟩
  by_cases hz:(0:Int)≤(j:Int)-1
  ·obtain⟨i,rfl⟩:∃i,j=i+1:=⟨j-1,by omega⟩
   obtain⟨x,hx⟩:∃x,ds[i]? = some x:=⟨_,List.getElem?_eq_getElem (by omega)⟩
   have Jy:((i+1:Nat):Int)-1=(i:Int):=by omega
   rw[Jy] at g5 hz
   have e1:=aI (f:=uV) (t := .op) (H:=[]) (size:=1) (k := .i64) hx rfl
   have lx:=hl x (List.mem_of_getElem? hx)
   have ld:=pF (b:=4294967296) (xs:=ds.drop (i+1)) fun d hd=>hl d (List.mem_of_mem_drop hd)
   have hle:(ds.drop (i+1)).length≤1:=by rw[List.length_drop];omega
   have hpw:4294967296^(ds.drop (i+1)).length≤4294967296^1:=Nat.pow_le_pow_right (by decide) hle
   rw[Nat.pow_one] at hpw
   have w2:IntKind.i64.wrap ((i:Int)-1)=(i:Int)-1:=wrap64 (by omega) (by omega)
   have w3:IntKind.u64.wrap (x:Int)=(x:Int):=fR _ (by omega)
   have w4:IntKind.u64.wrap (((val 4294967296 (ds.drop (i+1))*4294967296:Nat):Int)+(x:Int))=((val 4294967296 (ds.drop i):Nat):Int):=by
    rw[tC hx,←Int.natCast_add,fR _ (by omega)]
    congr 1
    omega
   have w5:=Es (val 4294967296 (ds.drop (i+1))) .u64 (by omega)
   simp only[mB,g0,g4,g5,hz,c2,e1,w2,w3,w4,w5,VX,Nat.reduceEqDiff,Nat.reduceAdd]
   exact⟨i,by omega,by omega,by (repeat' apply And.intro)<;>first | rfl | trivial⟩
  ·have T3:j=0:=by omega
   subst T3
   rw[List.drop_zero,hv] at g4
   simp only[mB,g0,g4,g5,hz,c2,VX,Nat.reduceEqDiff,Nat.reduceAdd]
   exact aK rfl
 ·rw[if_neg h2]
  have c2:¬(ds.length:Int)≤2:=by omega
  have c3:(0:Int)≤(ds.length:Int)-1:=by omega
  refine aP (fun(j:Nat) ρ H=>H=[]∧ρ 0=aQ uV ds∧ρ 4=VK .u64 0∧ρ 5=VI ((ds.length:Int)-1)) (fun j=>j) 0 ⟨rfl,rfl,rfl,rfl⟩ ?_
  rintro j ρ H ⟨rfl,g0,g4,g5⟩
  simp only[mB,g0,g4,g5,c2,c3,VX,Nat.reduceEqDiff,Nat.reduceAdd]
  exact aK rfl
theorem kU (a b:Nat) (ha:(aC 4294967296 a).length≤17592186044416) (hb:(aC 4294967296 b).length≤17592186044416):TC 142 [bO a,bO b] (VI (fB a b)):=by
 refine TC.walk ⟨true,false⟩ Ii rfl (Nat.le_of_ble_eq_true rfl) (by simp[aM,bU]) rfl ?_
 have fin:∀ {x:Int},x=fB a b→fz depth [] (VI x)=some (VI (fB a b)):=fun h=>by rw[h];exact aK rfl
 unfold bO Bc
 by_cases hl:(((aC 4294967296 a).length:Nat):Int)=(((aC 4294967296 b).length:Nat):Int)
 ·have B7:(aC 4294967296 a).length=(aC 4294967296 b).length:=by omega
  have w1:IntKind.i64.wrap ((((aC 4294967296 b).length:Nat):Int)-1)=(((aC 4294967296 b).length:Nat):Int)-1:=wrap64 (by omega) (by omega)
  simp only[sP,qN,hl,w1,VX,Nat.reduceEqDiff,Nat.reduceAdd]
  refine aP (fun(j:Nat) ρ H=>j≤(aC 4294967296 b).length∧H=[]∧(aC 4294967296 a).drop j=(aC 4294967296 b).drop j∧ρ 0=aQ uV (aC 4294967296 a)∧ρ 1=aQ uV (aC 4294967296 b)∧ρ 5=VI ((j:Int)-1)) (fun j=>j) (aC 4294967296 b).length ⟨Nat.le_refl _,rfl,by rw[List.drop_length,←B7,List.drop_length],rfl,rfl,rfl⟩ ?_
  rintro j ρ H ⟨hj,rfl,hd,h0,h1,h5⟩
  by_cases hz:(0:Int)≤(j:Int)-1
  ·obtain⟨i,rfl⟩:∃i,j=i+1:=⟨j-1,by omega⟩
   obtain⟨x,hx⟩:∃x,(aC 4294967296 a)[i]? = some x:=⟨_,List.getElem?_eq_getElem (by omega)⟩
   obtain⟨y,hy⟩:∃y,(aC 4294967296 b)[i]? = some y:=⟨_,List.getElem?_eq_getElem (by omega)⟩
   have Jy:((i+1:Nat):Int)-1=(i:Int):=by omega
   have e1:=aI (f:=uV) (t := .op) (H:=[]) (size:=1) (k := .i64) hx rfl
   have e2:=aI (f:=uV) (t := .op) (H:=[]) (size:=1) (k := .i64) hy rfl
   rw[Jy] at h5 hz
   have w2:IntKind.i64.wrap ((i:Int)-1)=(i:Int)-1:=wrap64 (by omega) (by omega)
   by_cases AY:(x:Int)=(y:Int)
   ·simp only[lL,h0,h1,h5,hz,e1,e2,AY,w2,VX,Nat.reduceEqDiff,Nat.reduceAdd]
    have alF:x=y:=by omega
    subst alF
    refine⟨i,by omega,by omega,?_⟩
    obtain⟨g1,g2⟩:=List.getElem?_eq_some_iff.1 hx
    obtain⟨g3,g4⟩:=List.getElem?_eq_some_iff.1 hy
    rw[List.drop_eq_getElem_cons g1,List.drop_eq_getElem_cons g3,g2,g4,hd]
    exact⟨rfl,rfl⟩
   ·by_cases bH:(x:Int)<(y:Int)
    ·simp only[lL,h0,h1,h5,hz,e1,e2,AY,bH,VX,Nat.reduceEqDiff,Nat.reduceAdd]
     refine fin ?_
     have:=Ew (fP (by decide) a) B7 hx hy hd (by omega)
     rw[cJ (by decide),cJ (by decide)] at this
     simp[fB,this]
    ·simp only[lL,h0,h1,h5,hz,e1,e2,AY,bH,VX,Nat.reduceEqDiff,Nat.reduceAdd]
     refine fin ?_
     have:=Ew (fP (by decide) b) B7.symm hy hx hd.symm (by omega)
     rw[cJ (by decide),cJ (by decide)] at this
     rw[fB,if_neg (by omega),if_neg (by omega)]
  ·have T3:j=0:=by omega
   subst T3
   simp only[lL,h0,h1,h5,hz,VX,Nat.reduceEqDiff,Nat.reduceAdd]
   refine fin ?_
   have:=SJ (b:=4294967296) (by decide) (by simpa using hd)
   subst this
   simp[fB]
 ·by_cases bH:(((aC 4294967296 a).length:Nat):Int)<(((aC 4294967296 b).length:Nat):Int)
  ·simp only[sP,qN,hl,bH,VX,Nat.reduceEqDiff,Nat.reduceAdd]
   refine fin ?_
   have:=Ek (b:=4294967296) (by decide) (m:=a) (n:=b) (by omega)
   simp[fB,this]
  ·simp only[sP,qN,hl,bH,VX,Nat.reduceEqDiff,Nat.reduceAdd]
   refine fin ?_
   have:=Ek (b:=4294967296) (by decide) (m:=b) (n:=a) (by omega)
   rw[fB,if_neg (by omega),if_neg (by omega)]
end Go.PM
namespace Go.PM
section
variable {b:Nat}
theorem IM (hb:2≤b) (n i:Nat):(aC b n).getD i 0=n / b^i % b:=by
 induction i generalizing n with
 |
  zero =>
  by_cases h:n=0
  ·subst h;simp[cG]
  ·rw[jN hb h,List.getD_cons_zero,Nat.pow_zero,Nat.div_one]
 |
  succ i ih =>
  by_cases h:n=0
  ·subst h;simp[cG]
  ·rw[jN hb h,List.getD_cons_succ,ih,Nat.div_div_eq_div_mul,Nat.pow_succ,Nat.mul_comm b]
theorem EB (hb:2≤b) {n i:Nat}:i<(aC b n).length↔n / b^i≠0:=by
 induction i generalizing n with
 |
  zero =>
  rw[Nat.pow_zero,Nat.div_one,List.length_pos_iff]
  exact not_congr (mJ hb)
 |
  succ i ih =>
  by_cases h:n=0
  ·subst h;simp[cG]
  ·rw[jN hb h,List.length_cons,Nat.add_lt_add_iff_right,ih,Nat.div_div_eq_div_mul,Nat.pow_succ,Nat.mul_comm b]
theorem L8 (hb:2≤b) {n i:Nat} (h:i<(aC b n).length):(aC b n)[i]? = some (n / b^i % b):=by
 rw[←IM hb,List.getD_eq_getElem?_getD,List.getElem?_eq_getElem h]
 rfl
theorem Xf (hb:2≤b) (n i:Nat):(aC b n).drop i=aC b (n / b^i):=by
 induction i generalizing n with
 | zero=>simp
 |
  succ i ih =>
  by_cases h:n=0
  ·subst h;simp[cG]
  ·rw[jN hb h,List.drop_succ_cons,ih,Nat.div_div_eq_div_mul,Nat.pow_succ,Nat.mul_comm b]
theorem tX (n i:Nat):n / b^(i+1)=n / b^i / b:=by rw[Nat.div_div_eq_div_mul,Nat.pow_succ]
theorem EU (xs:List Nat) (i:Nat):val b (xs.take (i+1))=val b (xs.take i)+b^i*xs.getD i 0:=by
 by_cases h:i<xs.length
 ·rw[bD (List.getElem?_eq_getElem h),List.getD_eq_getElem?_getD,List.getElem?_eq_getElem h]
  rfl
 ·rw[kD (by omega),kD (by omega),List.getD_eq_getElem?_getD,List.getElem?_eq_none (by omega)]
  simp
theorem NY (hb:2≤b) {n d q:Nat} (hn:n≠0) (h:n=d+b*q) (hd:d<b):aC b n=d::aC b q:=by
 rw[jN hb hn,h,Nat.add_mul_mod_self_left,Nat.mod_eq_of_lt hd,Nat.add_mul_div_left _ _ (by omega),Nat.div_eq_of_lt hd,Nat.zero_add]
theorem X4 (hb:2≤b) {x y c:Nat} (h:x+y+c≠0):aC b (x+y+c)=(x % b+y % b+c) % b::aC b (x / b+y / b+(x % b+y % b+c) / b):=by
 refine NY hb h ?_ (Nat.mod_lt _ (by omega))
 have h1:=Nat.mod_add_div x b
 have h2:=Nat.mod_add_div y b
 have h3:=Nat.mod_add_div (x % b+y % b+c) b
 have e:b*(x / b+y / b+(x % b+y % b+c) / b)=b*(x / b)+b*(y / b)+b*((x % b+y % b+c) / b):=by grind
 omega
theorem WQ (hb:2≤b) {x d c:Nat} (h:x*d+c≠0):aC b (x*d+c)=(x % b*d+c) % b::aC b (x / b*d+(x % b*d+c) / b):=by
 refine NY hb h ?_ (Nat.mod_lt _ (by omega))
 have h1:=Nat.mod_add_div x b
 have h3:=Nat.mod_add_div (x % b*d+c) b
 have e:b*(x / b*d+(x % b*d+c) / b)=b*(x / b)*d+b*((x % b*d+c) / b):=by grind
 have e2:x*d=x % b*d+b*(x / b)*d:=by
  conv=>lhs;rw[←h1,Nat.add_mul]
 omega
theorem PK (hb:2≤b) {m n k:Nat} (hm:(aC b m).length≤k) (hn:(aC b n).length≤k):(aC b (m+n)).length≤k+1:=by
 refine mV hb ?_
 have y1:=gW hb m
 have y2:=gW hb n
 have y3:b^(aC b m).length≤b^k:=Nat.pow_le_pow_right (by omega) hm
 have y4:b^(aC b n).length≤b^k:=Nat.pow_le_pow_right (by omega) hn
 have y5:b^k*2≤b^k*b:=Nat.mul_le_mul_left _ hb
 rw[Nat.pow_succ]
 omega
theorem PC (hb:2≤b) (m n:Nat):(aC b (m*n)).length≤(aC b m).length+(aC b n).length:=by
 refine mV hb ?_
 rw[Nat.pow_add]
 exact Nat.mul_lt_mul'' (gW hb m) (gW hb n)
theorem Dk (hb:2≤b) {c:Nat} (h:c≠0) (hc:c<b):aC b c=[c]:=by
 rw[jN hb h,Nat.mod_eq_of_lt hc,Nat.div_eq_of_lt hc,cG]
end
end Go.PM