/- Texts of a claim, in one: part 12. -/
import Derived.KernelRfl
import Derived.Test.YtodamlihdkalfaaGreatDoorKUk
set_option linter.unusedSimpArgs false
set_option linter.unusedVariables false
namespace Go.PM
open Go.Lib
theorem ahH {n k lo hi:Nat} {H:aA} {P:Nat→Nat→aA→VV→Prop} {v:VV} {ok:Bool} (hk:n≤k) (hl:k≤H.length) (hT:Gn n k H) (hv:dD n v=true)
  (zR:∀ {lo hi H H' v},P lo hi H v→cS lo hi H H'→P lo hi H' v) (QZ:∀ {lo hi kP pL:Nat} {H:aA} {v:VV},P lo hi H v→kP≤lo→hi≤pL→P kP pL H v) (hp:P lo hi H v) (eW:k≤lo) (hhi:hi≤H.length) :
  ∃L,A7 H (List.replicate n .dead++L)∧dD n (.dS [v,.sc (.bool ok)])=true∧dE n L=true∧R0 P ok n (.dS [v,.sc (.bool ok)]) L:=by
 obtain⟨L,k1,k2,k3⟩:=YZ hk hl hT
 refine⟨L,k1,by simp[dD,mM,hv,kE],k2,v,rfl,?_⟩
 have hl3:=k1.1
 rw[List.length_append,List.length_replicate] at hl3
 exact QZ (zR hp (H':=List.replicate n cA.dead++L) fun b g x h1 h2 h3=>k3 b g x (by omega) h3) (by omega) (by omega)
theorem CG.wide {bH:List (List ByteArray)}:∀ {lo hi kP pL:Nat} {H:aA} {v:VV},CG bH lo hi H v→kP≤lo→hi≤pL→CG bH kP pL H v:=by
 rintro lo hi kP pL H v ⟨c,h1,h2⟩ hl hh
 exact⟨c,h1,h2.wide hl hh⟩
theorem CG.own {n lo hi:Nat} {H:aA} {v:VV} {bH:List (List ByteArray)} (h:CG bH lo hi H v) (hn:n≤lo):∃c,v = .agg [c]∧bI c=true∧aB c=[c]∧dD n c=true:=by
 obtain⟨c,rfl,h | ⟨b,g,cc,rs,h1,h2,rfl,h3⟩⟩:=h
 ·obtain⟨rfl,_⟩:=h
  exact⟨_,rfl,rfl,rfl,rfl⟩
 ·exact⟨_,rfl,rfl,rfl,by simp[dD];omega⟩
theorem IX.wide {s:DT}:∀ {lo hi kP pL:Nat} {H:aA} {v:VV},IX s lo hi H v→kP≤lo→hi≤pL→IX s kP pL H v:=by
 rintro lo hi kP pL H v ⟨a,b,c,m1,m2,h1,k1,k2,k3,h2,h3,h4⟩ hl hh
 exact⟨a,b,c,m1,m2,h1,by omega,k2,by omega,h2.wide hl (Nat.le_refl _),h3,h4.wide (Nat.le_refl _) hh⟩
theorem Gn.avF {n k:Nat} {H L:aA} (h:Gn n k H) (hL:dE n L=true):Gn n k (H++L):=by
 intro b g es e w hb hr
 rcases Nat.lt_or_ge b H.length with bB | CE
 ·rw[List.getElem?_append_left bB] at hr
  exact h b g es e w hb hr
 ·rw[List.getElem?_append_right CE] at hr
  exact List.all_eq_true.1 hL _ (List.mem_of_getElem? hr)
theorem Gn.start {n:Nat} {H:aA}:Gn n H.length H:=fun b g es e w hb hr=>by
 rw[List.getElem?_eq_none hb] at hr
 cases hr
def OT (o:Option Rat):VV:=match o with
 | none => .dS [GJ,VB false]
 | some q => .dS [bE q,VB (decide (0<q))]
theorem Yl (o:Option Rat):gQ (OT o)=true:=by
 unfold OT
 split<;>simp[gQ,rA,Bd,KN,kE]
theorem JP (x:ByteArray) (hx:x.size≤1000000000):TC 201 [sV x] (OT (pQ x)):=by
 refine TC.walk ⟨true,false⟩ JW rfl (Nat.le_of_ble_eq_true rfl) rfl (Yl _) ?_
 have e2:=Dn x.data.toList (by rw[Array.length_toList];show x.size≤_;omega)
 rw[←Uq] at e2
 cases hp:pQ x with
 |
  none =>
  rw[Jb hp] at e2
  simp only[uK,qL,e2,OT,zW,B3,G4,aS,aT,aO,kC,Nat.reduceLeDiff,Nat.reduceLT,Nat.reduceSub,uX,dX,fP,lP,rI,tX,bne_iff_ne,ne_eq,not_false_eq_true,not_true_eq_false,iC,VX,Nat.reduceEqDiff,Nat.reduceAdd,Nat.reduceLeDiff,Nat.reduceLT,Nat.reduceSub]
  exact aF (tY Wy rfl)
 |
  some q =>
  rw[Jn hp] at e2
  have e1:=kJ q
  by_cases h:0<q
  ·have h':=NK.2 h
   simp only[uK,qL,e1,e2,OT,h',h,decide_true,aH,cW,fD,aS,aT,aO,kC,Nat.reduceLeDiff,Nat.reduceLT,Nat.reduceSub,uX,dX,fP,lP,rI,tX,bne_iff_ne,ne_eq,not_false_eq_true,not_true_eq_false,iC,VX,Nat.reduceEqDiff,Nat.reduceAdd,Nat.reduceLeDiff,Nat.reduceLT,Nat.reduceSub]
   exact aF (tY (gS _) rfl)
  ·have h':¬0<kR q:=fun k=>h (NK.1 k)
   simp only[uK,qL,e1,e2,OT,h',h,decide_false,aH,cW,fD,aS,aT,aO,kC,Nat.reduceLeDiff,Nat.reduceLT,Nat.reduceSub,uX,dX,fP,lP,rI,tX,bne_iff_ne,ne_eq,not_false_eq_true,not_true_eq_false,iC,VX,Nat.reduceEqDiff,Nat.reduceAdd,Nat.reduceLeDiff,Nat.reduceLT,Nat.reduceSub]
   exact aF (tY (gS _) rfl)
def HS (x:ByteArray):Option Rat:=match pQ x with
 | some q=>if 0<q then some q else none
 | none=>none
def Hc (xs:List ByteArray):Option (List Rat):=xs.mapM HS
theorem NC {x:ByteArray} {q:Rat} (h:HS x=some q):pQ x=some q∧0<q:=by
 unfold HS at h
 split at h
 ·rename_i p hp
  split at h
  ·rename_i h0
   cases h
   exact⟨hp,h0⟩
  ·cases h
 ·cases h
theorem acZ {x:ByteArray} {q:Rat} (h:pQ x=some q):dL q≤665:=by
 have h1:nE [x]=some [q]:=by
  unfold nE
  rw[if_pos (by simp),List.mapM_cons,h]
  rfl
 exact(yG h1).1 q List.mem_cons_self
theorem Ib {xs:List ByteArray} {qs:List Rat} (h:Hc xs=some qs):qs.length=xs.length∧∀q∈qs,dL q≤665∧0<q :=
 ⟨mZ h,fun q hq=>mapM_mem (P:=fun q=>dL q≤665∧0<q) (fun x q hx=>⟨acZ (NC hx).1,(NC hx).2⟩) h q hq⟩
set_option maxHeartbeats 1000000 in
theorem Iq (xs:List ByteArray) (hn:xs.length≤1000000000) (hs:∀s∈xs,s.size≤1000000000):TC 126 [dT xs] (L4 (Hc xs)):=by
 refine TC.walk ⟨true,false⟩ HE rfl (Nat.le_of_ble_eq_true rfl) (by simp[aM,dN]) (Hy _) ?_
 unfold Hc
 have e0:=fun H=>jR (H:=H) (lr:=false) (z:=[.bool false,.slice none 0 0,.slice none 0 0]) rfl
 simp only[Dh,Bq,e0,iC,VX,Nat.reduceEqDiff,Nat.reduceAdd,Nat.reduceLeDiff,Nat.reduceLT,Nat.reduceSub]
 refine F5 (fun(s:Nat×List Rat) ρ H=>s.1≤xs.length∧(xs.take s.1).mapM HS=some s.2∧H=[.row s.1 (s.2.map bE) 3 true]∧ρ 4 = .ref 0 s.1 0 s.1 s.1∧ρ 10=dT xs∧ρ 11=VI xs.length∧ρ 12=VI s.1) (fun s=>xs.length-s.1) (0,[]) ⟨Nat.zero_le _,rfl,rfl,rfl,rfl,rfl,rfl⟩ ?_
 rintro⟨i,out⟩ ρ H ⟨hi,Dl,rfl,g4,g10,g11,g12⟩
 simp only at hi Dl g4 g12
 have iQ:out.length=i:=by rw[mZ Dl,List.length_take];omega
 by_cases cN:(i:Int)<(xs.length:Int)
 ·obtain⟨x,hx⟩:∃x,xs[i]? = some x:=⟨_,List.getElem?_eq_getElem (by omega)⟩
  have hxm:=List.mem_of_getElem? hx
  have e1:=fun H=>aK (f:=sV) (t := .op) (H:=H) (size:=1) (k := .i64) hx rfl
  have wi:IntKind.i64.wrap ((i:Int)+1)=((i+1:Nat):Int):=wrapN (i+1) (by omega) (by omega)
  have e2:=JP x (hs x hxm)
  cases hp:pQ x with
  |
   none =>
   rw[hp] at e2
   have hq:HS x=none:=by unfold HS;rw[hp]
   rw[mapM_none hq hxm]
   simp only[OT] at e2
   simp only[kO,g4,g10,g11,g12,cN,e1,e2,zW,B3,G4,aS,aT,aO,kC,Nat.reduceLeDiff,Nat.reduceLT,Nat.reduceSub,uX,dX,fP,lP,rI,tX,bne_iff_ne,ne_eq,not_false_eq_true,not_true_eq_false,iC,VX,Nat.reduceEqDiff,Nat.reduceAdd,Nat.reduceLeDiff,Nat.reduceLT,Nat.reduceSub]
   exact BZ
  |
   some q =>
   rw[hp] at e2
   by_cases h0:0<q
   ·simp only[OT,decide_eq_true h0] at e2
    have hq:HS x=some q:=by unfold HS;rw[hp];exact if_pos h0
    have eL:∀H,mB false [.bool false,.slice none 0 0,.slice none 0 0] 1 [(0,bE q)] H=some (.tree [bE q] (.cl 3),H):=fun H=>iD rfl rfl rfl
    have eS:∀H,cU 3 (.tree [bE q] (.cl 3)) H=some [bE q]:=fun H=>fA rfl rfl
    have eP:eR 0 3 56 (.ref 0 i 0 i i) [bE q] [.row i (out.map bE) 3 true,.row 0 [bE q] 3 true]=some (.ref 0 (i+1) 0 (i+1) (i+1),[.row (i+1) ((out++[q]).map bE) 3 true,.row 0 [bE q] 3 true]):=by
     rw[iB (f:=bE) (xs:=out) (by rw[bA]) iQ.symm (Nat.le_refl _) (by decide) (by decide) (by omega),List.set_cons_zero]
    simp only[kO,g4,g10,g11,g12,cN,e1,e2,eL,eS,eP,wi,aH,cW,fD,aS,aT,aO,kC,Nat.reduceLeDiff,Nat.reduceLT,Nat.reduceSub,uX,dX,fP,lP,rI,tX,bne_iff_ne,ne_eq,not_false_eq_true,not_true_eq_false,iC,VX,Nat.reduceEqDiff,Nat.reduceAdd,Nat.reduceLeDiff,Nat.reduceLT,Nat.reduceSub]
    refine⟨(i+1,out++[q]),by simp only;omega,?_,by simp only;omega,by simp only[lO hx];exact Bz Dl hq,rfl,?_⟩
    ·rw[xE (kV _ (dV gS)),DW]
    ·simp only[oK,g10,g11,vH (dN _),Ec (Nat.lt_succ_self 0),VX,Nat.reduceEqDiff,Nat.reduceAdd,List.take_zero,iF,List.all_nil,List.length_nil,oK,Gy,vH]
   ·simp only[OT,decide_eq_false h0] at e2
    have hq:HS x=none:=by unfold HS;rw[hp];exact if_neg h0
    rw[mapM_none hq hxm]
    simp only[kO,g4,g10,g11,g12,cN,e1,e2,aH,cW,fD,aS,aT,aO,kC,Nat.reduceLeDiff,Nat.reduceLT,Nat.reduceSub,uX,dX,fP,lP,rI,tX,bne_iff_ne,ne_eq,not_false_eq_true,not_true_eq_false,iC,VX,Nat.reduceEqDiff,Nat.reduceAdd,Nat.reduceLeDiff,Nat.reduceLT,Nat.reduceSub]
    exact BZ
 ·have oJ:i=xs.length:=by omega
  subst oJ
  rw[List.take_length] at Dl
  rw[Dl]
  simp only[kO,g4,g10,g11,g12,cN,iC,VX,Nat.reduceEqDiff,Nat.reduceAdd,Nat.reduceLeDiff,Nat.reduceLT,Nat.reduceSub]
  refine bN (d:=6) ?_ (aJ (v:=VB true) rfl)
  have:=Mb (d:=5) (w:=true) (f:=bE) (e:=3) (b:=0) (g:=xs.length) (c:=xs.length) (xs:=out) (H:=[.row xs.length (out.map bE) 3 true]) gS (by rw[bA]) (by omega)
  rw[iQ] at this
  exact this
def O9 (f:Rat→VV) (b:List Rat) (g:List (List Rat)) (e:List Rat):VV := .agg [aY f b,aY (aY f) g,aY f e]
def tE:DT:=⟨[],[],[]⟩
def jH (b:List Rat) (g:List (List Rat)) (e:List Rat):Option DT:=match pX b,zA g,pX e with
 | some x,some y,some z=>if b.length≤6 then some ⟨x,y,z⟩ else none
 | _,_,_=>none
theorem MO.afT {α:Type} {f:α→VV} {e lo hi:Nat} {H:aA} {v:VV} {o:Option (List α)} (h:MO f e o lo hi H v):bI v=true∧aB v=[v]∧isAny v=false:=by
 cases o with
 |
  none =>
  have h:v = .tree [] .nil:=h
  subst h
  exact⟨rfl,rfl,rfl⟩
 |
  some ys =>
  obtain⟨b,g,c,h1,h2,rfl,h3⟩:=h
  exact⟨rfl,rfl,rfl⟩
theorem Qh {lo hi:Nat} {H:aA} (h:lo≤hi):IX tE lo hi H (.agg [.tree [] .nil,.tree [] .nil,.tree [] .nil]) :=
 ⟨_,_,_,lo,lo,rfl,Nat.le_refl _,Nat.le_refl _,h,.inl ⟨rfl,rfl⟩,.inl ⟨rfl,rfl⟩,.inl ⟨rfl,rfl⟩⟩
set_option maxHeartbeats 4000000 in
theorem Ft (b:List Rat) (g:List (List Rat)) (e:List Rat) (hb:b.length≤1000000∧∀q∈b,dL q≤1099511627776) (hg:g.length≤1000000∧∀r∈g,r.length≤1000000∧∀q∈r,dL q≤1099511627776) (he:e.length≤1000000∧∀q∈e,dL q≤1099511627776) :
  FC 129 [O9 bE b g e] (R0 (IX ((jH b g e).getD tE)) (jH b g e).isSome):=by
 refine FC.Kt ⟨true,false⟩ Ff (Nat.le_of_ble_eq_true rfl) fun n => ?_
 simp only[A1,zK,O9,iE,List.getElem?_cons_zero,List.getElem?_cons_succ,wF,List.length_replicate,iC,VX,Nat.reduceEqDiff,Nat.reduceAdd,Nat.reduceLeDiff,Nat.reduceLT,Nat.reduceSub]
 generalize Y3:List.replicate n cA.dead++[cA.row 0 [.agg [.tree [] .nil,.tree [] .nil,.tree [] .nil]] 3 true]=H0
 have hO0:zN n H0:=⟨[.row 0 [.agg [.tree [] .nil,.tree [] .nil,.tree [] .nil]] 3 true],Y3.symm,rfl⟩
 have CB:aI H0 n 0=some ([.agg [.tree [] .nil,.tree [] .nil,.tree [] .nil]],3,true):=by rw[←Y3,BF,bA]
 have Ac:H0.length=n+1:=by rw[←Y3];simp
 refine tP (n:=n) (vO b hb.1 hb.2) rfl (VY (aF (kZ _))) hO0 MO.bU fun u H1 p1 hO1 hou hu => ?_
 simp only[iE,List.getElem?_cons_zero,List.getElem?_cons_succ,iC,VX,Nat.reduceEqDiff,Nat.reduceAdd,Nat.reduceLeDiff,Nat.reduceLT,Nat.reduceSub]
 refine tP (n:=n) (Il g hg.1 hg.2) rfl (VY (aF (abH _))) hO1 CG.bU fun w H2 p2 hO2 how hw => ?_
 obtain⟨c,rfl,hc⟩:=hw
 have Mw:bI c=true∧aB c=[c]∧isAny c=false:=by
  rcases hc with⟨rfl,_⟩ | ⟨b,g,cc,rs,h1,h2,rfl,h3⟩<;>exact⟨rfl,rfl,rfl⟩
 have hoc:dD n c=true:=by
  simp only[dD,mM,Bool.and_eq_true] at how
  exact how.1
 have s1:bY n 1 (.ptr H2.length 0 0 0) (.agg [c]) (H2++[cA.row 0 [.tree [] .nil] 1 true])=some (H2++[cA.row 0 [.agg [c]] 1 true]):=by
  rw[cJ (e:=1) (g:=0) (j:=0) gH (by exact Nat.zero_lt_one) hO2.len rfl (by simp[aB,Mw.1]),AP]
  rfl
 simp only[s1,iE,tS,List.getElem?_cons_zero,List.getElem?_cons_succ,iC,VX,Nat.reduceEqDiff,Nat.reduceAdd,Nat.reduceLeDiff,Nat.reduceLT,Nat.reduceSub]
 have auU:zN n (H2++[cA.row 0 [.agg [c]] 1 true]):=hO2.app (by simp[mM,dD,hoc])
 generalize hH2:H2++[.row 0 [.agg [c]] 1 true]=H2' at *
 have V5:H2 <+: H2':=⟨_,hH2⟩
 have hr6:aI H2' H2.length 0=some ([.agg [c]],1,true):=by rw[←hH2];exact gH
 refine tP (n:=n) (vO e he.1 he.2) rfl (VY (aF (kZ _))) auU MO.bU fun z H3 p3 hO3 hoz hz => ?_
 have asJ:H0 <+: H3:=p1.trans (p2.trans (V5.trans p3))
 have aqI:=bX asJ CB
 have aoZ:=bX p3 hr6
 have adJ:=p1.length_le
 have asK:=p2.length_le
 have avB:=p3.length_le
 have aB5:=V5.length_le
 have hcu:=hu.afT
 have hcz:=hz.afT
 have fin:∀(a1 a2 a3:VV),bI a1=true→bI a2=true→bI a3=true →
   bY n 3 (.ptr n 0 0 0) (.agg [a1,a2,a3]) H3=some (H3.set n (.row 0 [.agg [a1,a2,a3]] 3 true))∧cR true 3 (.ptr n 0 0 0) (H3.set n (.row 0 [.agg [a1,a2,a3]] 3 true))=some (.agg [a1,a2,a3]):=fun a1 a2 a3 h1 h2 h3=>by
  constructor
  ·rw[cJ aqI (by exact Nat.zero_lt_one) (Nat.le_refl _) rfl (by simp[aB,h1,h2,h3])]
   rfl
  ·rw[cO,dM aqI]
   rfl
 obtain⟨f1,f2⟩:=fin (.tree [] .nil) (.tree [] .nil) (.tree [] .nil) rfl rfl rfl
 have ld6:cR false 1 (.ptr H2.length 0 0 0) H3=some c:=by
  rw[cO,aoZ]
  rfl
 have bad:jH b g e=none→∃L,A7 (H3.set n (.row 0 [.agg [.tree [] .nil,.tree [] .nil,.tree [] .nil]] 3 true)) (List.replicate n .dead++L)∧dD n (.dS [.agg [.tree [] .nil,.tree [] .nil,.tree [] .nil],.sc (.bool false)])=true∧dE n L=true∧R0 (IX ((jH b g e).getD tE)) (jH b g e).isSome n (.dS [.agg [.tree [] .nil,.tree [] .nil,.tree [] .nil],.sc (.bool false)]) L:=fun Mu=>by
  rw[Mu]
  exact⟨_,yH (by rw[List.length_set];omega),rfl,yF,_,rfl,Qh (Nat.le_add_right _ _)⟩
 cases pZ:pX b with
 |
  none =>
  have Mu:jH b g e=none:=by unfold jH;rw[pZ]
  have bad:=bad Mu
  cases zA g<;>cases pX e <;>
  ·simp only[iE,List.getElem?_cons_zero,List.getElem?_cons_succ,f1,f2,Option.isSome_none,Option.isSome_some,iC,VX,Nat.reduceEqDiff,Nat.reduceAdd,Nat.reduceLeDiff,Nat.reduceLT,Nat.reduceSub]
   exact bad
 |
  some x =>
  cases Rq:zA g with
  |
   none =>
   have Mu:jH b g e=none:=by unfold jH;rw[pZ,Rq]
   have bad:=bad Mu
   cases pX e <;>
   ·simp only[iE,List.getElem?_cons_zero,List.getElem?_cons_succ,f1,f2,Option.isSome_none,Option.isSome_some,iC,VX,Nat.reduceEqDiff,Nat.reduceAdd,Nat.reduceLeDiff,Nat.reduceLT,Nat.reduceSub]
    exact bad
  |
   some y =>
   cases he':pX e with
   |
    none =>
    have Mu:jH b g e=none:=by unfold jH;rw[pZ,Rq,he']
    have bad:=bad Mu
    simp only[iE,List.getElem?_cons_zero,List.getElem?_cons_succ,f1,f2,Option.isSome_none,Option.isSome_some,iC,VX,Nat.reduceEqDiff,Nat.reduceAdd,Nat.reduceLeDiff,Nat.reduceLT,Nat.reduceSub]
    exact bad
   |
    some z' =>
    by_cases h6:(6:Int)<(b.length:Int)
    ·have Mu:jH b g e=none:=by unfold jH;rw[pZ,Rq,he'];exact if_neg (by omega)
     have bad:=bad Mu
     simp only[iE,List.getElem?_cons_zero,List.getElem?_cons_succ,f1,f2,h6,Option.isSome_none,Option.isSome_some,iC,VX,Nat.reduceEqDiff,Nat.reduceAdd,Nat.reduceLeDiff,Nat.reduceLT,Nat.reduceSub]
     exact bad
    ·have ajG:jH b g e=some ⟨x,y,z'⟩:=by unfold jH;rw[pZ,Rq,he'];exact if_pos (by omega)
     rw[ajG]
     rw[pZ] at hu
     rw[Rq] at hc
     rw[he'] at hz
     obtain⟨f3,f4⟩:=fin u c z hcu.1 Mw.1 hcz.1
     simp only[iE,List.getElem?_cons_zero,List.getElem?_cons_succ,f3,f4,h6,ld6,aoZ,hcu,Mw,hcz,vD,Nat.add_zero,Option.isSome_some,kC,Nat.reduceLeDiff,Nat.reduceLT,Nat.reduceSub,iC,VX,Nat.reduceEqDiff,Nat.reduceAdd,Nat.reduceLeDiff,Nat.reduceLT,Nat.reduceSub]
     have hO4:zN n (H3.set n (.row 0 [.agg [u,c,z]] 3 true)):=hO3.set (Nat.le_refl _) (by simp[mM,dD,hou,hoc,hoz])
     obtain⟨L,YX,hL2⟩:=hO4
     have hlen:n+L.length=H3.length:=by
      have:=congrArg List.length YX
      rw[List.length_set,List.length_append,List.length_replicate] at this
      exact this.symm
     refine⟨L,⟨by rw[YX],fun _ _ _ _ _ h=>by rw[YX];exact h⟩,by simp[dD,mM,hou,hoc,hoz,kE],hL2,_,rfl,u,c,z,H1.length,H2'.length,rfl,by omega,by omega,by omega,?_,?_,?_⟩
     ·rw[←YX]
      refine(MO.lg (MO.bU hu ?_)).wide (by omega) (Nat.le_refl _)
      exact(cS.pre (p2.trans (V5.trans p3))).trans (cS.set (by omega))
     ·rw[←YX]
      refine((hc.bU ?_).wide (Nat.le_refl _) (by omega))
      exact(cS.pre (V5.trans p3)).trans (cS.set (by omega))
     ·rw[←YX,hlen]
      refine(MO.lg (MO.bU hz ?_))
      exact cS.set (by omega)
end Go.PM
namespace Go.PM
open Go.Lib
theorem YN (d:Nat) (h:d≤9223372036854775807):TC 235 [VI (d:Int)] (aU (decDigits d)):=by
 have:=MX (d:Int) (by omega) (by omega)
 rw[if_neg (by omega),List.nil_append,Int.natAbs_natCast] at this
 exact this
theorem abB {n i:Nat} (hi:i+1=(aC 1000000000 n).length):n / 1000000000^i=n / 1000000000^i % 1000000000:=by
 have h1:=WY (b:=1000000000) (by decide) n (i+1)
 rw[List.drop_of_length_le (by omega)] at h1
 have h2:=(lR (b:=1000000000) (by decide)).1 h1.symm
 rw[sZ] at h2
 rcases Nat.div_eq_zero_iff.1 h2 with h | h
 ·exact absurd h (by decide)
 ·exact(Nat.mod_eq_of_lt h).symm
theorem IJ (l:List UInt8) (a b:Nat):(⟨l.toArray⟩:ByteArray).extract a b=⟨((l.drop a).take (b-a)).toArray⟩:=by
 rw[ByteArray.ext_iff,ByteArray.data_extract]
 simp[List.extract_toArray,List.extract_eq_take_drop]
theorem YB (l:List UInt8) {a b:Nat} (h:a≤b) (hb:b≤l.length):vF (aU l) (some (VI (a:Int))) (some (VI (b:Int)))=some (aU ((l.drop a).take (b-a))):=by
 have hs:(⟨l.toArray⟩:ByteArray).size=l.length:=by simp[ByteArray.size]
 have e1:(0:Int)≤b∧(b:Int)≤(l.length:Int):=by omega
 have e2:(0:Int)≤a∧(a:Int)≤(b:Int):=by omega
 simp only[vF,FH,Ak,hs,eO,e1,e2,and_self,if_true,Int.toNat_natCast,IJ]
theorem Oe (l:List UInt8) {a:Nat} (h:a≤l.length):vF (aU l) (some (VI (a:Int))) none=some (aU (l.drop a)):=by
 have hs:(⟨l.toArray⟩:ByteArray).size=l.length:=by simp[ByteArray.size]
 have e2:(0:Int)≤a∧(a:Int)≤(l.length:Int):=by omega
 simp only[vF,FH,Ak,hs,eO,e2,and_self,if_true,Int.toNat_natCast,IJ]
 rw[List.take_of_length_le (by simp)]
theorem anI (l:List UInt8) (h:1≤l.length):vF (aU l) (some (VI 1)) none=some (aU (l.drop 1)):=Oe l h
theorem WT {a:Nat} (h:a<1000000000):IntKind.i64.wrap ((a:Int)+1000000000)=((a+1000000000:Nat):Int):=wrapN _ (by omega) (by omega)
theorem nQ (n:Nat) (hn:bl n≤2199023255552):TC 212 [bR n] (aU (decDigits n)):=by
 refine TC.walk ⟨true,false⟩ G1 rfl (Nat.le_of_ble_eq_true rfl) (by simp[aM,cB]) rfl ?_
 by_cases h0:n=0
 ·subst h0
  have hl:(((aC 1000000000 0).length:Nat):Int)=0:=by rw[bS];rfl
  simp only[vN,sO,cM,hl,VX,Nat.reduceEqDiff,Nat.reduceAdd]
  rw[iG (by decide)]
  exact aF rfl
 have hl:¬(((aC 1000000000 n).length:Nat):Int)=0:=by have:=(vI (n:=n)).2 h0;omega
 obtain⟨L,hL⟩:∃L,(aC 1000000000 n).length=L+1:=⟨(aC 1000000000 n).length-1,by omega⟩
 have CW:=rC (n:=n) (by omega)
 have hlT:=agA n
 have hdl:=AR n
 have w1:IntKind.i64.wrap (((L+1:Nat):Int)-1)=(L:Int):=wrapN _ (by omega) (by omega)
 have w2:IntKind.i64.wrap (((L+1:Nat):Int)-2)=(L:Int)-1:=by rw[wrap64 (by omega) (by omega)];omega
 have at':∀i,i≤L→bM 1 (bR n) (VI (i:Int)) []=some (.cZ (tV (n / 1000000000^i % 1000000000)) 0):=fun i hi=>aK (f:=tV) (t := .op) (H:=[]) (size:=1) (k := .i64) (Ks (b:=1000000000) (by decide) (n:=n) (i:=i) (by omega)) rfl
 have eL:=at' L (Nat.le_refl _)
 have ZU:=abB (n:=n) (i:=L) (by omega)
 rw[←ZU] at eL
 have PV:n / 1000000000^L≠0:=(D3 (b:=1000000000) (by decide)).1 (by omega)
 have hqT:n / 1000000000^L<1000000000:=by rw[ZU];exact Nat.mod_lt _ (by decide)
 have c1:=YN (n / 1000000000^L) (by omega)
 rw[hL] at hl
 simp only[vN,sO,cM,hL,hl,w1,w2,eL,c1,VX,Nat.reduceEqDiff,Nat.reduceAdd]
 refine aQ (fun(j:Nat) ρ H=>j≤L∧H=[]∧ρ 0=bR n∧ρ 3=aU (decDigits (n / 1000000000^j))∧ρ 4=VI ((j:Int)-1)) (fun j=>j) L ⟨Nat.le_refl _,rfl,rfl,rfl,rfl⟩ ?_
 rintro j ρ H ⟨hj,rfl,g0,g3,g4⟩
 by_cases hz:(0:Int)≤(j:Int)-1
 ·obtain⟨i,rfl⟩:∃i,j=i+1:=⟨j-1,by omega⟩
  have Ke:((i+1:Nat):Int)-1=(i:Int):=by omega
  rw[Ke] at g4 hz
  have e1:=at' i (by omega)
  have hm:=Nat.mod_lt (n / 1000000000^i) (show 0<1000000000 by decide)
  have hq1:n / 1000000000^(i+1)≠0:=(D3 (b:=1000000000) (by decide)).1 (by omega)
  have hdm:=Nat.mod_add_div (n / 1000000000^i) 1000000000
  rw[←sZ] at hdm
  have hch:=HI (Nat.pos_of_ne_zero hq1) hm
  have hle:n / 1000000000^i≤n:=Nat.div_le_self _ _
  have hdi:=AR (n / 1000000000^i)
  have hbi:=pH hle
  rw[show n / 1000000000^(i+1)*1000000000+n / 1000000000^i % 1000000000=n / 1000000000^i by omega] at hch
  generalize hAA:n / 1000000000^i=A at *
  generalize n / 1000000000^(i+1)=B at *
  have w4:IntKind.i64.wrap ((i:Int)-1)=(i:Int)-1:=wrap64 (by omega) (by omega)
  have c2:=YN (A % 1000000000+1000000000) (by omega)
  rw[adV hm] at c2
  have e2:=anI (d10 1::CO 9 (A % 1000000000)) (by simp)
  rw[List.drop_succ_cons,List.drop_zero] at e2
  have hlen:=congrArg List.length hch
  rw[List.length_append] at hlen
  have a1:=qJ (decDigits B) (CO 9 (A % 1000000000)) (by omega)
  rw[←hch] at a1
  have auE:i≤L:=by omega
  have hmu:i<i+1:=by omega
  have w3:=WT hm
  simp only[rE,g0,g3,g4,hz,e1,w3,w4,c2,e2,a1,VX,Nat.reduceEqDiff,Nat.reduceAdd]
  refine⟨i,hmu,auE,?_⟩
  rw[hAA]
  exact⟨rfl,rfl⟩
 ·have S6:j=0:=by omega
  subst S6
  rw[Nat.pow_zero,Nat.div_one] at g3
  simp only[rE,g0,g3,g4,hz,VX,Nat.reduceEqDiff,Nat.reduceAdd]
  exact aF rfl
theorem K3 (q:Rat) (hk:dL q≤1099511627776):TC 176 [bZ q] (VB (wE q)):=by
 refine TC.walk ⟨true,false⟩ LU rfl (Nat.le_of_ble_eq_true rfl) (by simp[aM,tG]) rfl ?_
 have la:=BC hk
 have lb:=BI hk
 have t1:=nQ q.num.natAbs (by omega)
 have t2:=nQ q.den (by omega)
 have hf:wE q=(decide (((decDigits q.num.natAbs).length:Int)≤200)&&decide (((decDigits q.den).length:Int)≤200)):=by
  unfold wE
  congr 1<;>exact decide_eq_decide.2 (by omega)
 rw[hf]
 by_cases hl:((decDigits q.num.natAbs).length:Int)≤200
 ·simp only[BW,zC,t1,t2,hl,bK,cL,jY,nF,nC,aN,kC,Nat.reduceLeDiff,Nat.reduceLT,Nat.reduceSub,VX,Nat.reduceEqDiff,Nat.reduceAdd]
  exact aF rfl
 ·simp only[BW,zC,t1,t2,hl,bK,cL,jY,nF,nC,aN,kC,Nat.reduceLeDiff,Nat.reduceLT,Nat.reduceSub,VX,Nat.reduceEqDiff,Nat.reduceAdd]
  exact aF rfl
theorem Lg (q:Rat) (hk:dL q≤1099511627776):TC 163 [bZ q] (aU (EO q)):=by
 refine TC.walk ⟨true,false⟩ KQ rfl (Nat.le_of_ble_eq_true rfl) (by simp[aM,tG]) rfl ?_
 have la:=BC hk
 have lb:=BI hk
 have t1:=nQ q.num.natAbs (by omega)
 have t2:=nQ q.den (by omega)
 have d1:=AR q.num.natAbs
 have d2:=AR q.den
 have c1:∀lo H K,_:=fun lo H K=>J7 (n:=q.den) (lo:=lo) (H:=H) (K:=K) (Nat.le_of_lt (rC (by omega)))
 have a1:dB .add (.string ⟨#[45]⟩) (.string ⟨(decDigits q.num.natAbs).toArray⟩)=some (.string ⟨(45::decDigits q.num.natAbs).toArray⟩):=qJ [45] _ (by simp only[List.length_cons,List.length_nil];omega)
 have a2:dB .add (.string ⟨#[47]⟩) (.string ⟨(decDigits q.den).toArray⟩)=some (.string ⟨(47::decDigits q.den).toArray⟩):=qJ [47] (decDigits q.den) (by simp only[List.length_cons,List.length_nil];omega)
 have a3:=qJ (45::decDigits q.num.natAbs) (47::decDigits q.den) (by simp only[List.length_cons];omega)
 have a4:=qJ (decDigits q.num.natAbs) (47::decDigits q.den) (by simp only[List.length_cons];omega)
 have hs:EO q=(if q.num<0 then (45::decDigits q.num.natAbs) else decDigits q.num.natAbs)++(if q.den=1 then [] else 47::decDigits q.den):=by
  unfold EO
  by_cases hn:q.num<0
  ·rw[if_pos hn,if_pos hn];rfl
  ·rw[if_neg hn,if_neg hn];rfl
 rw[hs]
 by_cases hd:fF q.den 1=0
 ·rw[if_pos (xC.1 hd),List.append_nil]
  by_cases hn:q.num<0
  all_goals
   simp only[BL,yK,t1,t2,a1,a2,a3,a4,c1,hd,hn,dR,cL,jY,nF,nC,aN,kC,Nat.reduceLeDiff,Nat.reduceLT,Nat.reduceSub,VX,Nat.reduceEqDiff,Nat.reduceAdd]
   exact aF rfl
 ·rw[if_neg (mt xC.2 hd)]
  by_cases hn:q.num<0
  all_goals
   simp only[BL,yK,t1,t2,a1,a2,a3,a4,c1,hd,hn,dR,cL,jY,nF,nC,aN,kC,Nat.reduceLeDiff,Nat.reduceLT,Nat.reduceSub,VX,Nat.reduceEqDiff,Nat.reduceAdd]
   exact aF rfl
theorem Kf (q:Rat) (hk:dL q≤1099511627776):TC 93 [bZ q] (QJ q):=by
 refine TC.walk ⟨true,false⟩ LH rfl (Nat.le_of_ble_eq_true rfl) (by simp[aM,tG]) (WM q) ?_
 have t1:=K3 q hk
 have t2:=Lg q hk
 unfold QJ
 by_cases h:wE q=true
 ·rw[h] at t1
  rw[if_pos h]
  simp only[BV,yQ,t1,t2,cL,kB,kX,aN,kC,Nat.reduceLeDiff,Nat.reduceLT,Nat.reduceSub,VX,Nat.reduceEqDiff,Nat.reduceAdd]
  exact aF rfl
 ·have h':wE q=false:=by simpa using h
  rw[h'] at t1
  rw[if_neg h]
  simp only[BV,yQ,t1,cL,kB,kX,aN,kC,Nat.reduceLeDiff,Nat.reduceLT,Nat.reduceSub,VX,Nat.reduceEqDiff,Nat.reduceAdd]
  exact aF rfl
end Go.PM
namespace Go.PM
open Go.Lib
def gT (c:UInt8):List UInt8→List (List UInt8)
 | []=>[[]]
 |
  x::r=>if x=c then []::gT c r else match gT c r with
  | []=>[[x]]
  | a::t=>(x::a)::t
theorem Mc {c:UInt8} {r:List UInt8}:∀ {a:List UInt8},c∉a→gT c (a++c::r)=a::gT c r:=by
 intro a
 induction a with
 | nil=>intro _;rw[List.nil_append,gT,if_pos rfl]
 |
  cons x a ih =>
  intro h
  rw[List.mem_cons,not_or] at h
  rw[List.cons_append,gT,if_neg (fun he=>h.1 he.symm),ih h.2]
theorem Fi {c:UInt8}:∀ {a:List UInt8},c∉a→gT c a=[a]:=by
 intro a
 induction a with
 | nil=>intro _;rfl
 |
  cons x a ih =>
  intro h
  rw[List.mem_cons,not_or] at h
  rw[gT,if_neg (fun he=>h.1 he.symm),ih h.2]
theorem S0 {c:UInt8} (l:List UInt8):gT c l≠[]:=by
 cases l with
 | nil=>simp[gT]
 |
  cons x r =>
  rw[gT]
  split
  ·simp
  ·split<;>simp
theorem Re {c:UInt8} {l:List UInt8} (h:(mA c l).2=none):gT c l=[l]:=Fi (Bt h).2.2
theorem IT {c:UInt8} {l r:List UInt8} (h:(mA c l).2=some r):gT c l=(mA c l).1::gT c r:=by
 obtain⟨_,h2,h3⟩:=Ih h
 have:=Mc (r:=r) h3
 rw[←h2] at this
 exact this
theorem Sj {c:UInt8} {l:List UInt8} (h:c∈l):2≤(gT c l).length:=by
 cases hc:(mA c l).2 with
 | none=>exact absurd h (Bt hc).2.2
 |
  some r =>
  rw[IT hc,List.length_cons]
  have:=List.length_pos_iff.2 (S0 (c:=c) r)
  omega
theorem Wg {l:List UInt8} {i:Nat} (h:i<l.length):(l.take (i+1)).all hJ=((l.take i).all hJ&&hJ (l.getD i 0)):=by
 rw[List.take_add_one,List.all_append]
 have:l[i]? = some (l.getD i 0):=by rw[List.getElem?_eq_getElem h,List.getD_eq_getElem?_getD,List.getElem?_eq_getElem h];rfl
 rw[this]
 simp
set_option maxHeartbeats 1000000 in
theorem pC (l:List UInt8) (hl:l.length≤1000000000000):TC 223 [aU l] (VB (gV l)):=by
 refine TC.walk ⟨true,false⟩ Ix rfl (Nat.le_of_ble_eq_true rfl) rfl rfl ?_
 simp only[CT,Br,VX,Nat.reduceEqDiff,Nat.reduceAdd]
 refine aQ (fun(i:Nat) ρ H=>i≤l.length∧H=[]∧(l.take i).all hJ=true∧ρ 0=aU l∧ρ 3=VI i) (fun i=>l.length-i) 0 ⟨Nat.zero_le _,rfl,rfl,rfl,rfl⟩ ?_
 rintro i ρ H ⟨hi,rfl,hd,g0,g3⟩
 by_cases cN:(i:Int)<(l.length:Int)
 ·have Uu:i<l.length:=by omega
  have e1:=C8 l Uu
  have wi:IntKind.i64.wrap ((i:Int)+1)=((i+1:Nat):Int):=wrapN (i+1) (by omega) (by omega)
  have ht:=Wg Uu
  rw[hd,Bool.true_and] at ht
  have S8:hJ (l.getD i 0)=(decide (48≤(l.getD i 0).toNat)&&decide ((l.getD i 0).toNat≤57)):=rfl
  have lM:hJ (l.getD i 0)=false→gV l=false:=by
   intro h
   rw[h] at ht
   have:l.all hJ=false:=by rw[←List.take_append_drop (i+1) l,List.all_append,ht,Bool.false_and]
   unfold gV
   rw[this]
   rfl
  generalize (l.getD i 0).toNat=c at *
  by_cases q1:(c:Int)<48
  ·rw[lM (by rw[S8,decide_eq_false (by omega)];rfl)]
   simp only[dO,g0,g3,bK,cN,e1,q1,VX,Nat.reduceEqDiff,Nat.reduceAdd]
   exact aF rfl
  ·by_cases q2:(57:Int)<(c:Int)
   ·rw[lM (by rw[S8,decide_eq_false (show ¬c≤57 by omega),Bool.and_false])]
    simp only[dO,g0,g3,bK,cN,e1,q1,q2,VX,Nat.reduceEqDiff,Nat.reduceAdd]
    exact aF rfl
   ·rw[S8,decide_eq_true (by omega),decide_eq_true (by omega),Bool.and_self] at ht
    simp only[dO,g0,g3,bK,cN,e1,q1,q2,wi,VX,Nat.reduceEqDiff,Nat.reduceAdd]
    exact⟨i+1,by omega,by omega,ht,rfl⟩
 ·have oJ:i=l.length:=by omega
  subst oJ
  rw[List.take_length] at hd
  by_cases h1:(1:Int)≤(l.length:Int)
  ·by_cases h2:(l.length:Int)≤200
   ·by_cases h3:(l.length:Int)=1
    ·rw[jJ.2 ⟨hd,by omega,by omega,.inl (by omega)⟩]
     simp only[dO,g0,g3,bK,cN,ge_iff_le,h1,h2,h3,Int.reduceLE,Int.reduceLT,VX,Nat.reduceEqDiff,Nat.reduceAdd]
     exact aF rfl
    ·have e1:=Hs l (by omega)
     by_cases h4:(((l.getD 0 0).toNat:Int)=48)
     ·have hk:gV l=false:=by
       cases h:gV l with
       | false=>rfl
       |
        true =>
        rcases(jJ.1 h).2.2.2 with h5 | h5
        ·omega
        ·exact absurd (UInt8.toNat_inj.1 (by rw[show (48:UInt8).toNat=48 from rfl];omega)) h5
      rw[hk]
      simp only[dO,g0,g3,bK,cN,ge_iff_le,h1,h2,h3,h4,e1,VX,Nat.reduceEqDiff,Nat.reduceAdd]
      exact aF rfl
     ·have h5:l.getD 0 0≠48:=fun h=>h4 (by rw[h];rfl)
      rw[jJ.2 ⟨hd,by omega,by omega,.inr h5⟩]
      simp only[dO,g0,g3,bK,cN,ge_iff_le,h1,h2,h3,h4,e1,VX,Nat.reduceEqDiff,Nat.reduceAdd]
      exact aF rfl
   ·have hk:gV l=false:=by
     cases h:gV l with
     | false=>rfl
     | true=>have:=(jJ.1 h).2.2.1;omega
    rw[hk]
    simp only[dO,g0,g3,bK,cN,ge_iff_le,h1,h2,VX,Nat.reduceEqDiff,Nat.reduceAdd]
    exact aF rfl
  ·have hk:gV l=false:=by
    cases h:gV l with
    | false=>rfl
    | true=>have:=(jJ.1 h).2.1;omega
   rw[hk]
   simp only[dO,g0,g3,bK,cN,ge_iff_le,h1,VX,Nat.reduceEqDiff,Nat.reduceAdd]
   exact aF rfl
set_option maxHeartbeats 1000000 in
theorem EK (l:List UInt8) (c:UInt8) (hl:l.length≤1000000000000):TC 222 [aU l,.sc (.int .u8 (c.toNat:Int))] (aY aU (gT c l)):=by
 refine TC.walk ⟨true,false⟩ MR rfl (Nat.le_of_ble_eq_true rfl) rfl (DP (size:=1) (fun _=>rfl) (fun _=>rfl) fun _=>rfl) ?_
 have e3:∀lr,mB lr [.string ⟨#[]⟩] 0 [] []=some (.ref 0 0 0 0 0,[.row 0 (([]:List (List UInt8)).map aU) 1 true]):=fun lr=>jR (H:=[]) (lr:=lr) (z:=[.string ⟨#[]⟩]) rfl
 have e4:∀(x:List UInt8) (H:aA),mB false [.string ⟨#[]⟩] 1 [(0,aU x)] H=some (.tree [aU x] (.cl 1),H):=fun x H=>iD (z:=[.string ⟨#[]⟩]) rfl rfl rfl
 have e5:∀(x:List UInt8) (H:aA),cU 1 (.tree [aU x] (.cl 1)) H=some [aU x]:=fun x H=>fA rfl rfl
 simp only[Je,E8,e3,VX,Nat.reduceEqDiff,Nat.reduceAdd]
 refine aQ (fun(s:List (List UInt8)×Nat×Nat) ρ H=>H=[.row s.1.length (s.1.map aU) 1 true]∧s.2.1≤s.2.2∧s.2.2≤l.length+1∧s.1.length≤s.2.1 ∧
  ((s.2.2≤l.length∧gT c l=s.1++gT c (l.drop s.2.1)∧c∉(l.drop s.2.1).take (s.2.2-s.2.1))∨(s.2.2=l.length+1∧gT c l=s.1)) ∧
  ρ 0=aU l∧ρ 1 = .sc (.int .u8 (c.toNat:Int))∧ρ 5 = .ref 0 s.1.length 0 s.1.length s.1.length∧ρ 6=VI s.2.1∧ρ 7=VI s.2.2) (fun s=>l.length+1-s.2.2) ([],0,0) ⟨rfl,Nat.zero_le _,Nat.zero_le _,Nat.zero_le _,.inl ⟨Nat.zero_le _,rfl,by simp⟩,rfl,rfl,rfl,rfl,rfl⟩ ?_
 rintro⟨out,fr,i⟩ ρ H ⟨rfl,hfi,hi,iQ,Ik,g0,g1,g5,g6,g7⟩
 simp only at hfi hi iQ Ik g5 g6 g7
 by_cases cN:(i:Int)≤(l.length:Int)
 ·have Uu:i≤l.length:=by omega
  obtain⟨hp,hc⟩:gT c l=out++gT c (l.drop fr)∧c∉(l.drop fr).take (i-fr):=by
   rcases Ik with⟨_,h1,h2⟩ | ⟨h,_⟩
   ·exact⟨h1,h2⟩
   ·omega
  have wi:IntKind.i64.wrap ((i:Int)+1)=((i+1:Nat):Int):=wrapN (i+1) (by omega) (by omega)
  have e2:=YB l hfi Uu
  have eP:=iB (f:=aU) (xs:=out) (x:=(l.drop fr).take (i-fr)) (lo:=0) (b:=0) (g:=out.length) (n:=out.length) (e:=1) (bytes:=16) (H:=[.row out.length (out.map aU) 1 true]) bA rfl (Nat.zero_le _) (by decide) (by decide) (by omega)
  have HF:([.row out.length (out.map aU) 1 true]:aA).set 0 (.row (out.length+1) ((out++[(l.drop fr).take (i-fr)]).map aU) 1 true)=[.row (out.length+1) ((out++[(l.drop fr).take (i-fr)]).map aU) 1 true]:=rfl
  rw[HF] at eP
  by_cases q1:i=l.length
  ·subst q1
   have ZN:gT c l=out++[(l.drop fr).take (l.length-fr)]:=by
    rw[hp]
    have:(l.drop fr).take (l.length-fr)=l.drop fr:=List.take_of_length_le (by rw[List.length_drop];omega)
    rw[this] at hc ⊢
    rw[Fi hc]
   simp only[oS,g0,g1,g5,g6,g7,bK,cN,eq_self,e2,e4,e5,eP,wi,VX,Nat.reduceEqDiff,Nat.reduceAdd]
   refine⟨(out++[(l.drop fr).take (l.length-fr)],l.length+1,l.length+1),by simp only;omega,?_,by simp only;omega,by simp only;omega,?_,.inr ⟨rfl,ZN⟩,?_⟩
   ·simp
   ·simp only[List.length_append,List.length_cons,List.length_nil];omega
   ·simp
  ·have acK:i<l.length:=by omega
   have q1':¬(i:Int)=(l.length:Int):=by omega
   have e1:=C8 l acK
   have hgd:l.drop i=l.getD i 0::l.drop (i+1):=by rw[List.drop_eq_getElem_cons acK,List.getD_eq_getElem?_getD,List.getElem?_eq_getElem acK];rfl
   by_cases q2:l.getD i 0=c
   ·have q2':((l.getD i 0).toNat:Int)=(c.toNat:Int):=by rw[q2]
    have ZN:gT c l=(out++[(l.drop fr).take (i-fr)])++gT c (l.drop (i+1)):=by
     have RX:l.drop fr=(l.drop fr).take (i-fr)++c::l.drop (i+1):=by
      have h1:(l.drop fr).drop (i-fr)=l.drop i:=by rw[List.drop_drop];congr 1;omega
      conv=>lhs;rw[←List.take_append_drop (i-fr) (l.drop fr),h1,hgd,q2]
     rw[hp]
     conv=>lhs;rw[RX]
     rw[Mc hc,List.append_assoc]
     rfl
    simp only[oS,g0,g1,g5,g6,g7,bK,cN,q1',e1,q2',eq_self,e2,e4,e5,eP,wi,VX,Nat.reduceEqDiff,Nat.reduceAdd]
    refine⟨(out++[(l.drop fr).take (i-fr)],i+1,i+1),by simp only;omega,?_,by simp only;omega,by simp only;omega,?_,.inl ⟨by simp only;omega,ZN,by simp⟩,?_⟩
    ·simp
    ·simp only[List.length_append,List.length_cons,List.length_nil];omega
    ·simp
   ·have q2':¬((l.getD i 0).toNat:Int)=(c.toNat:Int):=fun h=>q2 (UInt8.toNat_inj.1 (by omega))
    simp only[oS,g0,g1,g5,g6,g7,bK,cN,q1',e1,q2',wi,VX,Nat.reduceEqDiff,Nat.reduceAdd]
    refine⟨(out,fr,i+1),by simp only;omega,rfl,by simp only;omega,by simp only;omega,iQ,.inl ⟨by simp only;omega,hp,?_⟩,rfl,rfl,rfl⟩
    simp only
    rw[show i+1-fr=(i-fr)+1 by omega,List.take_add_one,List.mem_append,not_or]
    refine⟨hc,?_⟩
    have:(l.drop fr)[i-fr]? = some (l.getD i 0):=by
     rw[List.getElem?_drop,show fr+(i-fr)=i by omega,List.getD_eq_getElem?_getD,List.getElem?_eq_getElem acK]
     rfl
    rw[this]
    simp
    exact fun h=>q2 h.symm
 ·have ZN:gT c l=out:=by
   rcases Ik with⟨h,_⟩ | ⟨_,h⟩
   ·omega
   ·exact h
  rw[ZN]
  simp only[oS,g0,g5,g7,bK,cN,VX,Nat.reduceEqDiff,Nat.reduceAdd]
  exact FP (es:=out.map aU) bA (by simp) (Nat.le_refl _) (dV fun _=>rfl)
theorem abF {l:List UInt8} (h:l.all hJ=true) {i:Nat} (hi:i<l.length):48≤(l.getD i 0).toNat∧(l.getD i 0).toNat≤57:=by
 have:=List.all_eq_true.1 h (l.getD i 0) (by rw[List.getD_eq_getElem?_getD,List.getElem?_eq_getElem hi];exact List.getElem_mem hi)
 simpa[hJ] using this
theorem K2 {l:List UInt8} (hd:l.all hJ=true) (hl:l.length≤1000000000000) {fr tq:Nat} (hft:fr≤tq) (h9:tq-fr≤9) (htl:tq≤l.length) {H:aA} {lo:Nat} {ρ:dG} {Q:VQ} (h0:ρ 0=aU l) (h4:ρ 4=VI tq) (h6:ρ 6=VI 0) (h7:ρ 7=VI fr)
  (hQ:∀bC,(∀t,t<6→bC t=ρ t)→bC 6=VI (bP ((l.drop fr).take (tq-fr)))→Q .normal bC H):VW ⟨true,false⟩ lo (.loop mJ) (AA 2 Q) ρ H:=by
 refine aQ (fun(i:Nat) bC H'=>fr≤i∧i≤tq∧H'=H∧(∀t,t<6→bC t=ρ t)∧bC 6=VI (bP ((l.drop fr).take (i-fr)))∧bC 7=VI i) (fun i=>tq-i) fr ⟨Nat.le_refl _,hft,rfl,fun _ _=>rfl,by rw[h6,Nat.sub_self];rfl,h7⟩ ?_
 rintro i bC H' ⟨hfi,hi,rfl,hk,g6,g7⟩
 have g0:=(hk 0 (by decide)).trans h0
 have g4:=(hk 4 (by decide)).trans h4
 by_cases cN:(i:Int)<(tq:Int)
 ·have Uu:i<l.length:=by omega
  have e1:=C8 l Uu
  obtain⟨c1,c2⟩:=abF hd Uu
  have wi:IntKind.i64.wrap ((i:Int)+1)=((i+1:Nat):Int):=wrapN (i+1) (by omega) (by omega)
  have hcd:((l.drop fr).take (i-fr)).all hJ=true:=by
   rw[List.all_eq_true] at hd ⊢
   exact fun x hx=>hd x (List.mem_of_mem_drop (List.mem_of_mem_take hx))
  have bB:=GX hcd
  rw[List.length_take,List.length_drop,Nat.min_eq_left (by omega)] at bB
  have hp9:10^(i-fr)≤10^8:=Nat.pow_le_pow_right (by decide) (by omega)
  have e8:(10:Nat)^8=100000000:=by decide
  have sG:bP ((l.drop fr).take (i+1-fr))=bP ((l.drop fr).take (i-fr))*10+dv (l.getD i 0):=by
   have:(l.drop fr)[i-fr]? = some (l.getD i 0):=by
    rw[List.getElem?_drop,show fr+(i-fr)=i by omega,List.getD_eq_getElem?_getD,List.getElem?_eq_getElem Uu]
    rfl
   rw[show i+1-fr=(i-fr)+1 by omega,List.take_add_one,this]
   exact XM _ _
  have hdv:dv (l.getD i 0)=(l.getD i 0).toNat-48:=rfl
  rw[hdv] at sG
  generalize (l.getD i 0).toNat=c at *
  generalize bP ((l.drop fr).take (i-fr))=D at *
  have w1:IntKind.i64.wrap (10*(D:Int))=((10*D:Nat):Int):=wrapN _ (by omega) (by omega)
  have w2:IntKind.u8.wrap ((c:Int)-48)=((c-48:Nat):Int):=by
   simp[IntKind.wrap,IntKind.bits,IntKind.signed]
   omega
  have w3:IntKind.i64.wrap ((c-48:Nat):Int)=((c-48:Nat):Int):=wrapN _ rfl (by omega)
  have w4:IntKind.i64.wrap (((10*D:Nat):Int)+((c-48:Nat):Int))=((D*10+(c-48):Nat):Int):=wrapN _ (by omega) (by omega)
  simp only[mJ,g0,g4,g6,g7,cN,e1,w1,w2,w3,w4,wi,VX,Nat.reduceEqDiff,Nat.reduceAdd]
  refine⟨i+1,by omega,by omega,by omega,fun t ht => ?_,by rw[sG],rfl⟩
  try simp only[uZ]
  repeat rw[if_neg (by omega)]
  exact hk t ht
 ·have oJ:i=tq:=by omega
  subst oJ
  simp only[mJ,g4,g7,cN,VX,Nat.reduceEqDiff,Nat.reduceAdd]
  refine hQ _ (fun t ht => ?_) ?_
  ·try simp only[uZ]
   repeat rw[if_neg (by omega)]
   exact hk t ht
  ·simp only[g6,VX,Nat.reduceEqDiff,Nat.reduceAdd]
set_option maxHeartbeats 1000000 in
theorem sS (l:List UInt8) (hd:l.all hJ=true) (hl:l.length≤1000000000):TC 224 [aU l] (bR (bP l)):=by
 refine TC.walk ⟨true,false⟩ Ge rfl (Nat.le_of_ble_eq_true rfl) rfl (nD _) ?_
 have e3:∀lr,mB lr [.int .i64 0] 0 [] []=some (.ref 0 0 0 0 0,[.row 0 (([]:List Nat).map tV) 1 true]):=fun lr=>jR (H:=[]) (lr:=lr) (z:=[.int .i64 0]) rfl
 have e4:∀(x:Nat) (H:aA),mB false [.int .i64 0] 1 [(0,tV x)] H=some (.tree [tV x] (.cl 1),H):=fun x H=>iD (z:=[.int .i64 0]) rfl rfl rfl
 have e5:∀(x:Nat) (H:aA),cU 1 (.tree [tV x] (.cl 1)) H=some [tV x]:=fun x H=>fA rfl rfl
 simp only[Cy,Ao,e3,bK,VX,Nat.reduceEqDiff,Nat.reduceAdd]
 refine aQ (fun(s:List Nat×Int) ρ H=>H=[.row s.1.length (s.1.map tV) 1 true]∧s.2≤l.length ∧ -9≤s.2∧s.1.length+s.2.toNat≤l.length∧(∀d∈s.1,d<1000000000)∧bP l=val 1000000000 s.1+1000000000^s.1.length*bP (l.take s.2.toNat) ∧
  ρ 0=aU l∧ρ 3 = .ref 0 s.1.length 0 s.1.length s.1.length∧ρ 4=VI s.2) (fun s=>s.2.toNat) ([],(l.length:Int)) ⟨rfl,Int.le_refl _,by simp only;omega,by simp,by simp,?_,rfl,rfl,rfl⟩ ?_
 ·simp only[Int.toNat_natCast,List.take_length,List.length_nil,Nat.pow_zero,Nat.one_mul,val,Nat.zero_add]
 rintro⟨out,z⟩ ρ H ⟨rfl,hz,hz9,iQ,hds,hv,g0,g3,g4⟩
 simp only at hz hz9 iQ hds hv g3 g4
 by_cases jT:0<z
 ·obtain⟨tq,rfl⟩:∃tq:Nat,z=tq:=⟨z.toNat,by omega⟩
  rw[Int.toNat_natCast] at iQ hv
  have hto:0<tq:=by omega
  have key:∀fr:Nat,fr≤tq→tq-fr≤9→bP (l.take tq)=bP (l.take fr)*10^(tq-fr)+bP ((l.drop fr).take (tq-fr))∧bP ((l.drop fr).take (tq-fr))<1000000000:=by
   intro fr h1 h2
   have hcd:((l.drop fr).take (tq-fr)).all hJ=true:=by
    rw[List.all_eq_true] at hd ⊢
    exact fun x hx=>hd x (List.mem_of_mem_drop (List.mem_of_mem_take hx))
   have hlen:((l.drop fr).take (tq-fr)).length=tq-fr:=by rw[List.length_take,List.length_drop];omega
   constructor
   ·have:=List.take_add (l:=l) (i:=fr) (j:=tq-fr)
    rw[show fr+(tq-fr)=tq by omega] at this
    rw[this,L5,hlen]
   ·have:=GX hcd
    rw[hlen] at this
    exact Nat.lt_of_lt_of_le this (Nat.le_trans (Nat.pow_le_pow_right (by decide) h2) (by decide))
  have eP:=fun X=>iB (f:=tV) (xs:=out) (x:=X) (lo:=0) (b:=0) (g:=out.length) (n:=out.length) (e:=1) (bytes:=8) (H:=[.row out.length (out.map tV) 1 true]) bA rfl (Nat.zero_le _) (by decide) (by decide) (by omega)
  have HF:∀X,([.row out.length (out.map tV) 1 true]:aA).set 0 (.row (out.length+1) ((out++[X]).map tV) 1 true)=[.row (out.length+1) ((out++[X]).map tV) 1 true]:=fun _=>rfl
  simp only[HF] at eP
  by_cases h9:(9:Int)<(tq:Int)
  ·obtain⟨k1,k2⟩:=key (tq-9) (by omega) (by omega)
   have wz:IntKind.i64.wrap ((tq:Int)-9)=((tq-9:Nat):Int):=wrapN _ (by omega) (by omega)
   rw[show tq-(tq-9)=9 by omega] at k1 k2
   rw[show (10:Nat)^9=1000000000 by decide] at k1
   simp only[mN,g0,g3,g4,jT,h9,wz,VX,Nat.reduceEqDiff,Nat.reduceAdd]
   refine K2 (l:=l) hd (by omega) (fr:=tq-9) (tq:=tq) (by omega) (by omega) (by omega) ?_ ?_ ?_ ?_ fun wW q q6 => ?_
   all_goals first | (simp only[g0,g4,VX,Nat.reduceEqDiff,Nat.reduceAdd];done) | skip
   rw[show tq-(tq-9)=9 by omega] at q6
   have u3:wW 3 = .ref 0 out.length 0 out.length out.length:=by rw[q 3 (by decide)];simp only[g3,VX,Nat.reduceEqDiff,Nat.reduceAdd]
   have u0:wW 0=aU l:=by rw[q 0 (by decide)];simp only[g0,VX,Nat.reduceEqDiff,Nat.reduceAdd]
   have u4:wW 4=VI tq:=by rw[q 4 (by decide)];simp only[g4,VX,Nat.reduceEqDiff,Nat.reduceAdd]
   generalize bP ((l.drop (tq-9)).take 9)=X at *
   have e4:=e4 X
   have e5:=e5 X
   have eP:=eP X
   simp only[u0,u3,u4,q6,e4,e5,eP,wz,VX,Nat.reduceEqDiff,Nat.reduceAdd]
   refine⟨(out++[X],((tq-9:Nat):Int)),by simp only;omega,?_,by simp only;omega,by simp only;omega,?_,?_,?_,?_⟩
   ·simp
   ·simp only[List.length_append,List.length_cons,List.length_nil];omega
   ·intro d hdm
    rcases List.mem_append.1 hdm with h | h
    ·exact hds d h
    ·rw[List.mem_singleton] at h;omega
   ·simp only[Int.toNat_natCast]
    rw[hv,k1,tA,List.length_append,List.length_singleton,Nat.pow_succ]
    grind
   ·simp
  ·obtain⟨k1,k2⟩:=key 0 (by omega) (by omega)
   rw[List.take_zero,Mf,Nat.zero_mul,Nat.zero_add,Nat.sub_zero] at k1
   rw[Nat.sub_zero] at k2
   have wz:IntKind.i64.wrap ((tq:Int)-9)=(tq:Int)-9:=wrap64 (by omega) (by omega)
   simp only[mN,g0,g3,g4,jT,h9,VX,Nat.reduceEqDiff,Nat.reduceAdd]
   refine K2 (l:=l) hd (by omega) (fr:=0) (tq:=tq) (by omega) (by omega) (by omega) ?_ ?_ ?_ ?_ fun wW q q6 => ?_
   all_goals first | (simp only[g0,g4,VX,Nat.reduceEqDiff,Nat.reduceAdd];done) | (simp only[VX,Nat.reduceEqDiff,Nat.reduceAdd];rfl) | skip
   rw[Nat.sub_zero] at q6
   have u3:wW 3 = .ref 0 out.length 0 out.length out.length:=by rw[q 3 (by decide)];simp only[g3,VX,Nat.reduceEqDiff,Nat.reduceAdd]
   have u0:wW 0=aU l:=by rw[q 0 (by decide)];simp only[g0,VX,Nat.reduceEqDiff,Nat.reduceAdd]
   have u4:wW 4=VI tq:=by rw[q 4 (by decide)];simp only[g4,VX,Nat.reduceEqDiff,Nat.reduceAdd]
   generalize bP ((l.drop 0).take tq)=X at *
   have e4:=e4 X
   have e5:=e5 X
   have eP:=eP X
   simp only[u0,u3,u4,q6,e4,e5,eP,wz,VX,Nat.reduceEqDiff,Nat.reduceAdd]
   refine⟨(out++[X],(tq:Int)-9),by simp only;omega,?_,by simp only;omega,by simp only;omega,?_,?_,?_,?_⟩
   ·simp
   ·simp only[List.length_append,List.length_cons,List.length_nil];omega
   ·intro d hdm
    rcases List.mem_append.1 hdm with h | h
    ·exact hds d h
    ·rw[List.mem_singleton] at h;omega
   ·simp only
    rw[show ((tq:Int)-9).toNat=0 by omega,List.take_zero,Mf,Nat.mul_zero,Nat.add_zero,hv,k1,tA]
   ·simp
 ·have h0:z.toNat=0:=by omega
  rw[h0,List.take_zero,Mf,Nat.mul_zero,Nat.add_zero] at hv
  rw[hv]
  have ct:=TC.aeN (f:=tV) (xs:=out) (size:=1) (e:=1) (w:=true) (H:=[.row out.length (out.map tV) 1 true]) (b:=0) (gn:=out.length) (n:=out.length) (c:=out.length) (sH out hds (by show out.length≤70368744177664;omega)) bA rfl (Nat.le_refl _) Fj (fun _=>rfl) rfl rfl
  simp only[mN,g0,g3,g4,jT,ct,VX,Nat.reduceEqDiff,Nat.reduceAdd]
  exact aF (cB _)
end Go.PM
namespace Go.PM
open Go.Lib
def CV (l:List UInt8):VV:=match zI l with
 | some q => .dS [bZ q,VB true]
 | none => .dS [GJ,VB false]
theorem yI (q:Rat):aR (bZ q)=true:=by simp[bZ,aR,aM,cB,kE]
theorem ND (q:Rat):gQ (bZ q)=true:=by simp[bZ,gQ,rA,nD,kE]
theorem TO (l:List UInt8):gQ (CV l)=true:=by
 unfold CV
 split<;>simp[gQ,rA,ND,KN,kE]
theorem Ki {neg:Bool} {t b:Nat} (hb:b≠0) (hg:Nat.gcd t b=1) (hn:¬(neg=true∧t=0)):bZ (mkRat (pS neg t) b) = .agg [VB neg,bR t,bR b]:=by
 obtain⟨e1,e2⟩:=IS (neg:=neg) hb hg
 refine OF ?_ (by rw[e1,Aq]) e2
 rw[e1]
 cases neg with
 | false=>unfold pS;simp
 |
  true =>
  have:t≠0:=fun h=>hn ⟨rfl,h⟩
  unfold pS
  simp
  omega
theorem Ee {n:Nat}:(((aC 1000000000 n).length:Nat):Int)=0↔n=0:=by
 rw[←lR (b:=1000000000) (n:=n) (by decide),←List.length_eq_zero_iff]
 omega
theorem Sf {neg:Bool} {d t:List UInt8} (h:(47:UInt8)∈t):oN neg d (some t)=none:=by
 have ht:gV t=false:=by
  cases hk:gV t with
  | false=>rfl
  | true=>exact absurd h (Y9 (jJ.1 hk).1)
 unfold oN
 split
 ·rfl
 ·simp only
  rw[if_neg (fun h=>by rw[ht] at h;exact absurd h.1 (by decide))]
theorem at_one (x:List UInt8) (H:aA):bM 1 (aY aU [x]) (VI 0) H=some (.cZ (aU x) 0):=aK (f:=aU) (t := .op) (H:=H) (size:=1) (k := .i64) (xs:=[x]) (i:=0) rfl rfl
theorem afI (x y:List UInt8) (H:aA):bM 1 (aY aU [x,y]) (VI 0) H=some (.cZ (aU x) 0):=aK (f:=aU) (t := .op) (H:=H) (size:=1) (k := .i64) (xs:=[x,y]) (i:=0) rfl rfl
theorem adL (x y:List UInt8) (H:aA):bM 1 (aY aU [x,y]) (VI 1) H=some (.cZ (aU y) 0):=aK (f:=aU) (t := .op) (H:=H) (size:=1) (k := .i64) (xs:=[x,y]) (i:=1) rfl rfl
theorem U1 (x:List UInt8) (H:aA):pT (aY aU [x]) H=some (VI 1):=eX (f:=aU) (xs:=[x])
theorem adI (x y:List UInt8) (H:aA):pT (aY aU [x,y]) H=some (VI 2):=eX (f:=aU) (xs:=[x,y])
set_option maxRecDepth 100000 in
set_option maxHeartbeats 4000000 in
theorem JL (l:List UInt8) (hl:l.length≤1000000000):TC 175 [aU l] (CV l):=by
 refine TC.walk ⟨true,false⟩ Jw rfl (Nat.le_of_ble_eq_true rfl) rfl (TO l) ?_
 by_cases Ac:l=[]
 ·subst Ac
  have eC:TC 222 [.sc (.string ⟨#[]⟩),.sc (.int .u8 47)] (aY aU [[]]):=EK [] 47 (by simp)
  have eD:TC 223 [.sc (.string ⟨#[]⟩)] (VB false):=pC [] (by simp)
  have e1:A2 (.string ⟨#[]⟩)=some (.int .i64 0):=rfl
  have a1:=at_one []
  have a2:=U1 []
  simp only[bT,bJ,e1,eC,eD,a1,a2,Int.reduceLT,Int.reduceLE,aH,kC,Nat.reduceLeDiff,Nat.reduceLT,Nat.reduceSub,VX,Nat.reduceEqDiff,Nat.reduceAdd]
  exact bN (d:=6) fW (aJ (v:=VB false) rfl)
 have hp:0<l.length:=List.length_pos_iff.2 Ac
 have jT:(0:Int)<(l.length:Int):=by omega
 have e0:=Hs l hp
 unfold CV
 unfold zI
 have kU:isNeg l=decide (((l.getD 0 0).toNat:Int)=45):=by
  unfold isNeg
  rw[decide_eq_true (show 1≤l.length from hp),Bool.true_and]
  refine decide_eq_decide.2 ⟨fun h=>by rw[h];rfl,fun h=>UInt8.toNat_inj.1 (by rw[show (45:UInt8).toNat=45 from rfl];omega)⟩
 have SC:(if isNeg l=true then l.drop 1 else l).length≤l.length:=by split<;>simp
 have q0:isNeg l=false→¬((l.getD 0 0).toNat:Int)=45:=fun h=>by rw[kU] at h;exact of_decide_eq_false h
 have q9:isNeg l=true→((l.getD 0 0).toNat:Int)=45:=fun h=>by rw[kU] at h;exact of_decide_eq_true h
 have r0:isNeg l=false→(if isNeg l=true then l.drop 1 else l)=l:=fun h=>by rw[h];rfl
 have r9:isNeg l=true→vF (aU l) (some (VI 1)) none=some (aU (if isNeg l=true then l.drop 1 else l)):=fun h=>by rw[h];exact Oe l (a:=1) hp
 generalize (if isNeg l=true then l.drop 1 else l)=r at *
 generalize isNeg l=neg at *
 clear kU
 have eC:TC 222 [aU r,.sc (.int .u8 47)] (aY aU (gT 47 r)):=EK r 47 (by omega)
 obtain⟨l1,l2⟩:=RB (c:=47) (l:=r)
 cases hs:(mA 47 r).2 with
 |
  none =>
  have hd:=(Bt hs).2.1
  rw[Re hs] at eC
  rw[hd]
  have a1:=at_one r
  have a2:=U1 r
  have eD:=pC r (by omega)
  cases hk:gV r with
  |
   false =>
   rw[hk] at eD
   have XW:oN neg r none=none:=if_pos (.inl hk)
   rw[XW]
   cases neg with
   |
    false =>
    have q1:=q0 rfl
    have SC:=r0 rfl
    subst SC
    simp only[bT,bJ,bK,jT,e0,q1,eC,eD,a1,a2,Int.reduceLT,aH,bF,aN,aZ,dR,fN,dP,fL,kC,Nat.reduceLeDiff,Nat.reduceLT,Nat.reduceSub,VX,Nat.reduceEqDiff,Nat.reduceAdd]
    exact bN (d:=6) fW (aJ (v:=VB false) rfl)
   |
    true =>
    have q1:=q9 rfl
    have e9:=r9 rfl
    simp only[bT,bJ,bK,jT,e0,q1,eC,eD,a1,a2,Int.reduceLT,e9,aH,bF,aN,aZ,dR,fN,dP,fL,kC,Nat.reduceLeDiff,Nat.reduceLT,Nat.reduceSub,VX,Nat.reduceEqDiff,Nat.reduceAdd]
    exact bN (d:=6) fW (aJ (v:=VB false) rfl)
  |
   true =>
   rw[hk] at eD
   have hbt:=zB hk
   have eN:=sS r (jJ.1 hk).1 (by omega)
   by_cases hz:neg=true∧bP r=0
   ·have XW:oN neg r none=none:=if_pos (.inr hz)
    rw[XW]
    obtain⟨rfl,Ho⟩:=hz
    have q1:=q9 rfl
    have e9:=r9 rfl
    have Hg:(((aC 1000000000 (bP r)).length:Nat):Int)=0:=Ee.2 Ho
    simp only[bT,bJ,bK,jT,e0,q1,eC,eD,a1,a2,eN,e9,cM,Hg,Int.reduceLT,aH,bF,aN,aZ,dR,fN,dP,fL,kC,Nat.reduceLeDiff,Nat.reduceLT,Nat.reduceSub,VX,Nat.reduceEqDiff,Nat.reduceAdd]
    exact bN (d:=6) fW (aJ (v:=VB false) rfl)
   ·have Ez:neg=true→¬(((aC 1000000000 (bP r)).length:Nat):Int)=0:=fun h h0=>hz ⟨h,Ee.1 h0⟩
    have XW:oN neg r none=some (mkRat (pS neg (bP r)) 1):=if_neg (by rw[hk];rintro(h | h);exact absurd h (by decide);exact hz h)
    rw[XW]
    simp only[]
    rw[Ki (by decide) (Nat.gcd_one_right _) hz]
    cases neg with
    |
     false =>
     have q1:=q0 rfl
     have SC:=r0 rfl
     subst SC
     simp only[bT,bJ,bK,jT,e0,q1,eC,eD,a1,a2,eN,Int.reduceLT,Int.reduceEq,aH,bF,aN,aZ,dR,fN,dP,fL,kC,Nat.reduceLeDiff,Nat.reduceLT,Nat.reduceSub,VX,Nat.reduceEqDiff,Nat.reduceAdd]
     exact bN (d:=6) (qG (aJ (v:=VB false) rfl) (aJ (cB _)) OC) (aJ (v:=VB true) rfl)
    |
     true =>
     have q1:=q9 rfl
     have e9:=r9 rfl
     have Hg:=Ez rfl
     simp only[bT,bJ,bK,jT,e0,q1,eC,eD,a1,a2,eN,Int.reduceLT,Int.reduceEq,e9,cM,Hg,aH,bF,aN,aZ,dR,fN,dP,fL,kC,Nat.reduceLeDiff,Nat.reduceLT,Nat.reduceSub,VX,Nat.reduceEqDiff,Nat.reduceAdd]
     exact bN (d:=6) (qG (aJ (v:=VB true) rfl) (aJ (cB _)) OC) (aJ (v:=VB true) rfl)
 |
  some t =>
  have ltt:=l2 t hs
  rw[IT hs] at eC
  generalize (mA 47 r).1=d at *
  by_cases hm:(47:UInt8)∈t
  ·rw[Sf hm]
   have hP:=Sj hm
   generalize hPP:gT 47 t=P at *
   have a2:∀H,pT (aY aU (d::P)) H=some (VI ((d::P).length:Int)):=fun H=>eX (f:=aU) (xs:=d::P)
   have hq3:(2:Int)<((d::P).length:Int):=by rw[List.length_cons];omega
   generalize hQQ:d::P=PP at *
   clear hQQ hPP hP
   cases neg with
   |
    false =>
    have q1:=q0 rfl
    have SC:=r0 rfl
    subst SC
    simp only[bT,bJ,bK,jT,e0,q1,eC,a2,hq3,aH,bF,aN,aZ,dR,fN,dP,fL,kC,Nat.reduceLeDiff,Nat.reduceLT,Nat.reduceSub,VX,Nat.reduceEqDiff,Nat.reduceAdd]
    exact bN (d:=6) fW (aJ (v:=VB false) rfl)
   |
    true =>
    have q1:=q9 rfl
    have e9:=r9 rfl
    simp only[bT,bJ,bK,jT,e0,q1,eC,a2,hq3,e9,aH,bF,aN,aZ,dR,fN,dP,fL,kC,Nat.reduceLeDiff,Nat.reduceLT,Nat.reduceSub,VX,Nat.reduceEqDiff,Nat.reduceAdd]
    exact bN (d:=6) fW (aJ (v:=VB false) rfl)
  ·rw[Fi hm] at eC
   have a1:=afI d t
   have a3:=adL d t
   have a2:=adI d t
   have eD:=pC d (by omega)
   have eF:=pC t (by omega)
   cases hk:gV d with
   |
    false =>
    rw[hk] at eD
    have XW:oN neg d (some t)=none:=if_pos (.inl hk)
    rw[XW]
    cases neg with
    |
     false =>
     have q1:=q0 rfl
     have SC:=r0 rfl
     subst SC
     simp only[bT,bJ,bK,jT,e0,q1,eC,eD,a1,a2,Int.reduceLT,aH,bF,aN,aZ,dR,fN,dP,fL,kC,Nat.reduceLeDiff,Nat.reduceLT,Nat.reduceSub,VX,Nat.reduceEqDiff,Nat.reduceAdd]
     exact bN (d:=6) fW (aJ (v:=VB false) rfl)
    |
     true =>
     have q1:=q9 rfl
     have e9:=r9 rfl
     simp only[bT,bJ,bK,jT,e0,q1,eC,eD,a1,a2,Int.reduceLT,e9,aH,bF,aN,aZ,dR,fN,dP,fL,kC,Nat.reduceLeDiff,Nat.reduceLT,Nat.reduceSub,VX,Nat.reduceEqDiff,Nat.reduceAdd]
     exact bN (d:=6) fW (aJ (v:=VB false) rfl)
   |
    true =>
    rw[hk] at eD
    have hbt:=zB hk
    have eN:=sS d (jJ.1 hk).1 (by omega)
    by_cases hz:neg=true∧bP d=0
    ·have XW:oN neg d (some t)=none:=if_pos (.inr hz)
     rw[XW]
     obtain⟨rfl,Ho⟩:=hz
     have q1:=q9 rfl
     have e9:=r9 rfl
     have Hg:(((aC 1000000000 (bP d)).length:Nat):Int)=0:=Ee.2 Ho
     simp only[bT,bJ,bK,jT,e0,q1,eC,eD,a1,a2,eN,e9,cM,Hg,Int.reduceLT,aH,bF,aN,aZ,dR,fN,dP,fL,kC,Nat.reduceLeDiff,Nat.reduceLT,Nat.reduceSub,VX,Nat.reduceEqDiff,Nat.reduceAdd]
     exact bN (d:=6) fW (aJ (v:=VB false) rfl)
    ·have Ez:neg=true→¬(((aC 1000000000 (bP d)).length:Nat):Int)=0:=fun h h0=>hz ⟨h,Ee.1 h0⟩
     have XW:oN neg d (some t)=if gV t=true∧1<bP t∧Nat.gcd (bP d) (bP t)=1 then some (mkRat (pS neg (bP d)) (bP t)) else none:=if_neg (by rw[hk];rintro(h | h);exact absurd h (by decide);exact hz h)
     rw[XW]
     clear XW
     cases ht:gV t with
     |
      false =>
      rw[ht] at eF
      rw[if_neg (fun h=>absurd h.1 (by decide))]
      cases neg with
      |
       false =>
       have q1:=q0 rfl
       have SC:=r0 rfl
       subst SC
       simp only[bT,bJ,bK,jT,e0,q1,eC,eD,eF,a1,a2,a3,eN,Int.reduceLT,Int.reduceEq,aH,bF,aN,aZ,dR,fN,dP,fL,kC,Nat.reduceLeDiff,Nat.reduceLT,Nat.reduceSub,VX,Nat.reduceEqDiff,Nat.reduceAdd]
       exact bN (d:=6) fW (aJ (v:=VB false) rfl)
      |
       true =>
       have q1:=q9 rfl
       have e9:=r9 rfl
       have Hg:=Ez rfl
       simp only[bT,bJ,bK,jT,e0,q1,eC,eD,eF,a1,a2,a3,eN,Int.reduceLT,Int.reduceEq,e9,cM,Hg,aH,bF,aN,aZ,dR,fN,dP,fL,kC,Nat.reduceLeDiff,Nat.reduceLT,Nat.reduceSub,VX,Nat.reduceEqDiff,Nat.reduceAdd]
       exact bN (d:=6) fW (aJ (v:=VB false) rfl)
     |
      true =>
      rw[ht] at eF
      have LP:=zB ht
      have eM:=sS t (jJ.1 ht).1 (by omega)
      have c2:∀lo H K,_:=fun lo H K=>J7 (n:=bP t) (lo:=lo) (H:=H) (K:=K) (Nat.le_of_lt (rC (by omega)))
      have c3:=E9 (bP d) (bP t) (rC (by omega)) (rC (by omega))
      by_cases h1:fF (bP t) 1≤0
      ·have hle:¬1<bP t:=fun h=>by unfold fF at h1;rw[if_neg (by omega),if_neg (by omega)] at h1;exact absurd h1 (by decide)
       rw[if_neg (fun h=>hle h.2.1)]
       cases neg with
       |
        false =>
        have q1:=q0 rfl
        have SC:=r0 rfl
        subst SC
        simp only[bT,bJ,bK,jT,e0,q1,eC,eD,eF,a1,a2,a3,eN,eM,c2,h1,Int.reduceLT,Int.reduceEq,aH,bF,aN,aZ,dR,fN,dP,fL,kC,Nat.reduceLeDiff,Nat.reduceLT,Nat.reduceSub,VX,Nat.reduceEqDiff,Nat.reduceAdd]
        exact bN (d:=6) fW (aJ (v:=VB false) rfl)
       |
        true =>
        have q1:=q9 rfl
        have e9:=r9 rfl
        have Hg:=Ez rfl
        simp only[bT,bJ,bK,jT,e0,q1,eC,eD,eF,a1,a2,a3,eN,eM,c2,h1,Int.reduceLT,Int.reduceEq,e9,cM,Hg,aH,bF,aN,aZ,dR,fN,dP,fL,kC,Nat.reduceLeDiff,Nat.reduceLT,Nat.reduceSub,VX,Nat.reduceEqDiff,Nat.reduceAdd]
        exact bN (d:=6) fW (aJ (v:=VB false) rfl)
      ·have bB:1<bP t:=by
        rcases Nat.lt_or_ge 1 (bP t) with h | h
        ·exact h
        ·exfalso
         apply h1
         unfold fF
         split<;>(try split)<;>first | decide | omega
       have X7:bl (Nat.gcd (bP d) (bP t))≤665:=Nat.le_trans (pH (Nat.le_of_dvd (by omega) (Nat.gcd_dvd_right _ _))) LP
       have c4:∀lo H K,_:=fun lo H K=>J7 (n:=Nat.gcd (bP d) (bP t)) (lo:=lo) (H:=H) (K:=K) (Nat.le_of_lt (rC (by omega)))
       by_cases hg:Nat.gcd (bP d) (bP t)=1
       ·have h4:fF (Nat.gcd (bP d) (bP t)) 1=0:=by rw[hg];rfl
        rw[if_pos ⟨rfl,bB,hg⟩]
        simp only[]
        rw[Ki (by omega) hg hz]
        cases neg with
        |
         false =>
         have q1:=q0 rfl
         have SC:=r0 rfl
         subst SC
         simp only[bT,bJ,bK,jT,e0,q1,eC,eD,eF,a1,a2,a3,eN,eM,c2,c3,c4,h1,h4,Int.reduceLT,Int.reduceEq,aH,bF,aN,aZ,dR,fN,dP,fL,kC,Nat.reduceLeDiff,Nat.reduceLT,Nat.reduceSub,VX,Nat.reduceEqDiff,Nat.reduceAdd]
         exact bN (d:=6) (qG (aJ (v:=VB false) rfl) (aJ (cB _)) (aJ (cB _))) (aJ (v:=VB true) rfl)
        |
         true =>
         have q1:=q9 rfl
         have e9:=r9 rfl
         have Hg:=Ez rfl
         simp only[bT,bJ,bK,jT,e0,q1,eC,eD,eF,a1,a2,a3,eN,eM,c2,c3,c4,h1,h4,Int.reduceLT,Int.reduceEq,e9,cM,Hg,aH,bF,aN,aZ,dR,fN,dP,fL,kC,Nat.reduceLeDiff,Nat.reduceLT,Nat.reduceSub,VX,Nat.reduceEqDiff,Nat.reduceAdd]
         exact bN (d:=6) (qG (aJ (v:=VB true) rfl) (aJ (cB _)) (aJ (cB _))) (aJ (v:=VB true) rfl)
       ·have h4:¬fF (Nat.gcd (bP d) (bP t)) 1=0:=by
         unfold fF
         split<;>(try split)<;>first | decide | omega
        rw[if_neg (fun h=>hg h.2.2)]
        cases neg with
        |
         false =>
         have q1:=q0 rfl
         have SC:=r0 rfl
         subst SC
         simp only[bT,bJ,bK,jT,e0,q1,eC,eD,eF,a1,a2,a3,eN,eM,c2,c3,c4,h1,h4,Int.reduceLT,Int.reduceEq,aH,bF,aN,aZ,dR,fN,dP,fL,kC,Nat.reduceLeDiff,Nat.reduceLT,Nat.reduceSub,VX,Nat.reduceEqDiff,Nat.reduceAdd]
         exact bN (d:=6) fW (aJ (v:=VB false) rfl)
        |
         true =>
         have q1:=q9 rfl
         have e9:=r9 rfl
         have Hg:=Ez rfl
         simp only[bT,bJ,bK,jT,e0,q1,eC,eD,eF,a1,a2,a3,eN,eM,c2,c3,c4,h1,h4,Int.reduceLT,Int.reduceEq,e9,cM,Hg,aH,bF,aN,aZ,dR,fN,dP,fL,kC,Nat.reduceLeDiff,Nat.reduceLT,Nat.reduceSub,VX,Nat.reduceEqDiff,Nat.reduceAdd]
         exact bN (d:=6) fW (aJ (v:=VB false) rfl)
end Go.PM
namespace Go.PM
open Go.Lib
end Go.PM
namespace Go.PM
open Go.Lib
theorem Qx {l:List UInt8} {q:Rat} (h:zI l=some q):CV l = .dS [bZ q,VB true]:=by unfold CV;rw[h]
theorem QX {l:List UInt8} (h:zI l=none):CV l = .dS [GJ,VB false]:=by unfold CV;rw[h]
end Go.PM
namespace Go.PM
open Go.Lib
def QS (o:Option (List Rat)):VV:=match o with
 | some qs => .dS [aY bZ qs,VB true]
 | none => .dS [aY bZ [],VB false]
theorem Fm:QS none = .dS [aY bZ [],VB false]:=rfl
theorem FB (qs:List Rat):QS (some qs) = .dS [aY bZ qs,VB true]:=rfl
theorem Hh (q:Rat):(aB (bZ q)).length=3:=rfl
theorem jZ (qs:List Rat):aR (aY bZ qs)=true:=kI Hh yI
theorem We (q:Rat):AE (bZ q)=true:=by simp[AE,bZ,bR,gU]
theorem HT (qs:List Rat):gQ (aY bZ qs)=true:=DP Hh ND We
theorem Ww (o:Option (List Rat)):gQ (QS o)=true:=by
 unfold QS
 split
 ·exact Dq (HT _) rfl
 ·exact Dq (HT []) rfl
set_option maxHeartbeats 1000000 in
theorem DQ (xs:List ByteArray) (hn:xs.length≤1000000000) (hs:∀s∈xs,s.size≤1000000000):TC 115 [dT xs] (QS (nE xs)):=by
 refine TC.walk ⟨true,false⟩ K5 rfl (Nat.le_of_ble_eq_true rfl) (by simp[aM,dN]) (Ww _) ?_
 unfold nE
 by_cases SW:(300:Int)<(xs.length:Int)
 ·rw[if_neg (by omega)]
  simp only[BX,yO,SW,VX,Nat.reduceEqDiff,Nat.reduceAdd]
  exact BZ
 rw[if_pos (by omega)]
 have e0:=fun H=>jR (H:=H) (lr:=false) (z:=[.bool false,.slice none 0 0,.slice none 0 0]) rfl
 simp only[BX,yO,SW,e0,VX,Nat.reduceEqDiff,Nat.reduceAdd]
 refine F5 (fun(s:Nat×List Rat) ρ H=>s.1≤xs.length∧(xs.take s.1).mapM pQ=some s.2∧H=[.row s.1 (s.2.map bZ) 3 true]∧ρ 4 = .ref 0 s.1 0 s.1 s.1∧ρ 0=dT xs∧ρ 13=VI xs.length∧ρ 14=VI s.1) (fun s=>xs.length-s.1) (0,[]) ⟨Nat.zero_le _,rfl,rfl,rfl,rfl,rfl,rfl⟩ ?_
 rintro⟨i,out⟩ ρ H ⟨hi,Dl,rfl,g4,g13,g14,g15⟩
 simp only at hi Dl g4 g15
 have iQ:out.length=i:=by rw[mZ Dl,List.length_take];omega
 by_cases cN:(i:Int)<(xs.length:Int)
 ·obtain⟨x,hx⟩:∃x,xs[i]? = some x:=⟨_,List.getElem?_eq_getElem (by omega)⟩
  have hxm:=List.mem_of_getElem? hx
  have e1:=fun H=>aK (f:=sV) (t := .op) (H:=H) (size:=1) (k := .i64) hx rfl
  have wi:IntKind.i64.wrap ((i:Int)+1)=((i+1:Nat):Int):=wrapN (i+1) (by omega) (by omega)
  have e2:=JL x.data.toList (by have:=hs x hxm;rw[Array.length_toList];show x.size≤_;omega)
  rw[←Uq] at e2
  cases hp:pQ x with
  |
   none =>
   rw[QX hp] at e2
   rw[mapM_none hp hxm]
   simp only[qO,g4,g13,g14,g15,cN,e1,e2,zW,B3,G4,aS,aT,aO,kC,Nat.reduceLeDiff,Nat.reduceLT,Nat.reduceSub,uX,dX,fP,lP,rI,tX,bne_iff_ne,ne_eq,not_false_eq_true,not_true_eq_false,VX,Nat.reduceEqDiff,Nat.reduceAdd]
   exact BZ
  |
   some q =>
   rw[Qx hp] at e2
   have eL:∀H,mB false [.bool false,.slice none 0 0,.slice none 0 0] 1 [(0,bZ q)] H=some (.tree [bZ q] (.cl 3),H):=fun H=>iD rfl rfl rfl
   have eS:∀H,cU 3 (.tree [bZ q] (.cl 3)) H=some [bZ q]:=fun H=>fA rfl rfl
   have eP:eR 0 3 56 (.ref 0 i 0 i i) [bZ q] [.row i (out.map bZ) 3 true,.row 0 [bZ q] 3 true]=some (.ref 0 (i+1) 0 (i+1) (i+1),[.row (i+1) ((out++[q]).map bZ) 3 true,.row 0 [bZ q] 3 true]):=by
    rw[iB (f:=bZ) (xs:=out) (by rw[bA]) iQ.symm (Nat.le_refl _) (by decide) (by decide) (by omega),List.set_cons_zero]
   simp only[qO,g4,g13,g14,g15,cN,e1,e2,eL,eS,eP,wi,cL,kX,kB,aN,bF,aZ,kC,Nat.reduceLeDiff,Nat.reduceLT,Nat.reduceSub,uX,dX,fP,lP,rI,tX,bne_iff_ne,ne_eq,not_false_eq_true,not_true_eq_false,VX,Nat.reduceEqDiff,Nat.reduceAdd]
   refine⟨(i+1,out++[q]),by simp only;omega,?_,by simp only;omega,by simp only[lO hx];exact Bz Dl hp,rfl,?_⟩
   ·rw[xE (kV _ (dV yI)),DW]
   ·simp only[oK,g13,g14,vH (dN _),Ec (Nat.lt_succ_self 0),VX,Nat.reduceEqDiff,Nat.reduceAdd,List.take_zero,iF,List.all_nil,List.length_nil,oK,Gy,vH]
 ·have oJ:i=xs.length:=by omega
  subst oJ
  rw[List.take_length] at Dl
  rw[Dl]
  simp only[qO,g4,g13,g14,g15,cN,VX,Nat.reduceEqDiff,Nat.reduceAdd]
  refine bN (d:=6) ?_ (aJ (v:=VB true) rfl)
  have:=Mb (d:=5) (w:=true) (f:=bZ) (e:=3) (b:=0) (g:=xs.length) (c:=xs.length) (xs:=out) (H:=[.row xs.length (out.map bZ) 3 true]) yI (by rw[bA]) (by omega)
  rw[iQ] at this
  exact this
set_option maxHeartbeats 1000000 in
theorem WX {lo:Nat} {H:aA} {q:Rat} (h:lo≤H.length):bY lo 3 (.ptr H.length 0 0 0) (bZ q) (H++[cell0])=some (H++[.row 0 [bZ q] 3 true]):=by
 rw[cJ (g:=0) (e:=3) (j:=0) gH (by exact Nat.zero_lt_one) h rfl rfl,AP]
 rfl
theorem Jv {lo:Nat} {H:aA} {v:VV} (qs:List Rat) {B:Nat} (hv:Rd bZ 3 qs H v) (eW:lo≤H.length) (hb:∀q∈qs,dL q≤B) (hk:qs.length*(B+1)+1≤1099511627776) (hB:B≤1099511627776) (hn:qs.length≤1000000000) :
  jO 142 [v] lo H (Sg (fun _ _ _ r=>r=bZ (tI qs)) H):=by
 refine jO.walk ⟨true,false⟩ JN (Nat.le_of_ble_eq_true rfl) ?_
 have e1:=Dc
 have e2:=hv.len (H++[cell0,.row 0 [bZ 0] 3 true]) (List.prefix_append _ _)
 have s0:bY lo 3 (.ptr (H.length+1) 0 0 0) (bZ 0) (H++[cell0,cell0])=some (H++[cell0,.row 0 [bZ 0] 3 true]):=by
  have:=WX (lo:=lo) (H:=H++[cell0]) (q:=0) (by rw[List.length_append];omega)
  simpa only[List.length_append,List.length_cons,List.length_nil,Nat.zero_add,List.append_assoc,List.cons_append,List.nil_append] using this
 simp only[E0,Cl,e1,e2,s0,List.length_append,List.length_cons,List.length_nil,List.append_assoc,List.cons_append,List.nil_append,iC,VX,Nat.reduceEqDiff,Nat.reduceAdd,Nat.reduceLeDiff,Nat.reduceLT,Nat.reduceSub]
 refine aQ (fun(i:Nat) ρ H1=>i≤qs.length∧H <+: H1∧aI H1 H.length 0=some ([rz],3,true)∧aI H1 (H.length+1) 0=some ([bZ (tI (qs.take i))],3,true)∧ρ 2 = .ptr H.length 0 0 0∧ρ 3 = .ptr (H.length+1) 0 0 0∧ρ 0=v∧ρ 7=VI qs.length∧ρ 8=VI i) (fun i=>qs.length-i) 0 ⟨Nat.zero_le _,List.prefix_append _ _,B9.trans bA,PB.trans (tQ.trans bA),rfl,rfl,rfl,rfl,rfl⟩ ?_
 rintro i ρ H1 ⟨hi,hp,CB,IQ,g2,g3,g0,g7,g8⟩
 have DF:=lF IQ
 have s3:cR true 3 (.ptr (H.length+1) 0 0 0) H1=some (bZ (tI (qs.take i))):=by
  rw[cO,IQ]
  exact kB _
 by_cases cN:(i:Int)<(qs.length:Int)
 ·obtain⟨q,hq⟩:∃q,qs[i]? = some q:=⟨_,List.getElem?_eq_getElem (by omega)⟩
  obtain⟨p,a1,a2⟩:=hv.get H1 hp i q hq
  have a2':=(a2 true).trans (kB _)
  have wi:IntKind.i64.wrap ((i:Int)+1)=((i+1:Nat):Int):=wrapN (i+1) (by omega) (by omega)
  have h1:=B8 hb i
  have h2:=hb q (List.mem_of_getElem? hq)
  have h3:(i+1)*(B+1)≤qs.length*(B+1):=Nat.mul_le_mul_right _ (by omega)
  have e3:=MH (tI (qs.take i)) q (by omega) (by omega)
  rw[←M8 hq] at e3
  have s4:=cJ (lo:=lo) (v:=bZ (tI (qs.take (i+1)))) (j:=0) IQ (by exact Nat.zero_lt_one) (by omega) rfl rfl
  rw[List.set_cons_zero] at s4
  simp only[tH,g2,g3,g0,g7,g8,cN,a1,a2',e3,s3,s4,wi,iC,VX,Nat.reduceEqDiff,Nat.reduceAdd,Nat.reduceLeDiff,Nat.reduceLT,Nat.reduceSub]
  exact⟨i+1,by omega,by omega,Ba hp (by omega),cD (by omega) CB,dM IQ,by (repeat' apply And.intro)<;>first | rfl | trivial | assumption⟩
 ·have oJ:i=qs.length:=by omega
  subst oJ
  rw[List.take_length] at s3
  have s4:=cJ (lo:=lo) (v:=bZ (tI qs)) (j:=0) CB (by exact Nat.zero_lt_one) eW rfl rfl
  rw[List.set_cons_zero] at s4
  have s5:cR true 3 (.ptr H.length 0 0 0) (H1.set H.length (.row 0 [bZ (tI qs)] 3 true))=some (bZ (tI qs)):=by
   rw[cO,dM CB]
   exact kB _
  simp only[tH,g2,g3,g7,g8,cN,s3,s4,s5,iC,VX,Nat.reduceEqDiff,Nat.reduceAdd,Nat.reduceLeDiff,Nat.reduceLT,Nat.reduceSub]
  exact⟨Ba hp (Nat.le_refl _),rfl⟩
theorem Ka {q:Rat}:q.num<0↔q<0:=by rw[←Int.not_le,Rat.num_nonneg];constructor<;>intro h<;>grind
theorem Fh (qs:List Rat) (hn:qs.length≤1000000000):TC 140 [aY bZ qs] (VB (!(qs.any fun q=>decide (q<0)))):=by
 refine TC.walk ⟨true,false⟩ FQ rfl (Nat.le_of_ble_eq_true rfl) (by simp[aM,jZ]) rfl ?_
 simp only[BA,zH,VX,Nat.reduceEqDiff,Nat.reduceAdd]
 refine aQ (fun(i:Nat) ρ H=>i≤qs.length∧H=[]∧(∀j x,j<i→qs[j]? = some x→¬x<0)∧ρ 0=aY bZ qs∧ρ 5=VI qs.length∧ρ 6=VI i) (fun i=>qs.length-i) 0 ⟨Nat.zero_le _,rfl,fun j x h=>by omega,rfl,rfl,rfl⟩ ?_
 rintro i ρ H ⟨hi,rfl,lM,g0,g5,g6⟩
 by_cases cN:(i:Int)<(qs.length:Int)
 ·obtain⟨q,hq⟩:∃q,qs[i]? = some q:=⟨_,List.getElem?_eq_getElem (by omega)⟩
  have e2:=fun H=>aK (f:=bZ) (t := .op) (H:=H) (size:=3) (k := .i64) hq rfl
  have wi:IntKind.i64.wrap ((i:Int)+1)=((i+1:Nat):Int):=wrapN (i+1) (by omega) (by omega)
  by_cases kU:q.num<0
  ·have JV:qs.any (fun q=>decide (q<0))=true:=List.any_eq_true.2 ⟨q,List.mem_of_getElem? hq,decide_eq_true (Ka.1 kU)⟩
   rw[JV]
   simp only[lI,g0,g5,g6,cN,e2,kU,jY,cL,kX,kB,aN,bF,aZ,kC,Nat.reduceLeDiff,Nat.reduceLT,Nat.reduceSub,uX,dX,fP,lP,rI,tX,bne_iff_ne,ne_eq,not_false_eq_true,not_true_eq_false,VX,Nat.reduceEqDiff,Nat.reduceAdd]
   exact aF rfl
  ·simp only[lI,g0,g5,g6,cN,e2,kU,wi,jY,cL,kX,kB,aN,bF,aZ,kC,Nat.reduceLeDiff,Nat.reduceLT,Nat.reduceSub,uX,dX,fP,lP,rI,tX,bne_iff_ne,ne_eq,not_false_eq_true,not_true_eq_false,VX,Nat.reduceEqDiff,Nat.reduceAdd]
   refine⟨i+1,by omega,by omega,fun j y hj hy => ?_,rfl⟩
   rcases Nat.lt_or_ge j i with Ke | Ke
   ·exact lM j y Ke hy
   ·have:j=i:=by omega
    subst this
    rw[hq] at hy
    cases hy
    exact mt Ka.2 kU
 ·have oJ:i=qs.length:=by omega
  subst oJ
  have JV:qs.any (fun q=>decide (q<0))=false:=by
   rw[List.any_eq_false]
   intro x hx
   obtain⟨j,hj⟩:=List.getElem?_of_mem hx
   simpa using lM j x (List.getElem?_eq_some_iff.1 hj).1 hj
  rw[JV]
  simp only[lI,g0,g5,g6,cN,VX,Nat.reduceEqDiff,Nat.reduceAdd]
  exact aF rfl
theorem T4 {a b:Rat}:a=b↔(decide (a.num<0)=decide (b.num<0)∧a.num.natAbs*b.den=b.num.natAbs*a.den):=by
 constructor
 ·rintro rfl
  exact⟨rfl,rfl⟩
 ·rintro⟨h1,h2⟩
  have h3:a.num<0↔b.num<0:=by simpa using h1
  have ha:=a.den_nz
  have hb:=b.den_nz
  have key:a.num*b.den=b.num*a.den→a=b:=fun h=>by
   have:=(Rat.mkRat_eq_iff (n₁:=a.num) (n₂:=b.num) ha hb).2 h
   rwa [Rat.mkRat_self,Rat.mkRat_self] at this
  refine key ?_
  have e1:(a.num.natAbs:Int)*b.den=b.num.natAbs*a.den:=by exact_mod_cast h2
  by_cases hn:a.num<0
  ·have hn2:=h3.1 hn
   have q1:a.num = -(a.num.natAbs:Int):=by omega
   have q2:b.num = -(b.num.natAbs:Int):=by omega
   rw[q1,q2,Int.neg_mul,Int.neg_mul,e1]
  ·have hn2:=mt h3.2 hn
   have q1:a.num=(a.num.natAbs:Int):=by omega
   have q2:b.num=(b.num.natAbs:Int):=by omega
   rw[q1,q2,e1]
set_option maxHeartbeats 1000000 in
theorem JC (a b:Rat) (hka:dL a≤1099511627776) (SH:dL b≤1099511627776):TC 197 [bZ a,bZ b] (VB (decide (a=b))):=by
 refine TC.walk ⟨true,false⟩ JR rfl (Nat.le_of_ble_eq_true rfl) (by simp only[aM,yI];rfl) rfl ?_
 have b1 := @Bw a
 have b2 := @Bw b
 have b3 := @Be a
 have b4 := @Be b
 have b5:=sU a.num.natAbs b.den
 have b6:=sU b.num.natAbs a.den
 have c1:=lL a.num.natAbs b.den (Nat.le_of_lt (rC (by omega))) (Nat.le_of_lt (rC (by omega)))
 have c2:=lL b.num.natAbs a.den (Nat.le_of_lt (rC (by omega))) (Nat.le_of_lt (rC (by omega)))
 have c3:=uQ (a.num.natAbs*b.den) (b.num.natAbs*a.den) (Nat.le_of_lt (rC (by omega))) (Nat.le_of_lt (rC (by omega)))
 by_cases q1:decide (a.num<0)=decide (b.num<0)
 ·have q2:(decide (a.num<0) == decide (b.num<0))=true:=by simpa using q1
  have hz := @xC (a.num.natAbs*b.den) (b.num.natAbs*a.den)
  by_cases q3:fF (a.num.natAbs*b.den) (b.num.natAbs*a.den)=0
  ·rw[decide_eq_true (T4.2 ⟨q1,hz.1 q3⟩)]
   simp only[uL,qK,c1,c2,c3,q2,q3,vV,cL,jY,nF,nC,aN,kC,Nat.reduceLeDiff,Nat.reduceLT,Nat.reduceSub,uX,dX,fP,lP,rI,tX,bne_iff_ne,ne_eq,not_false_eq_true,not_true_eq_false,VX,Nat.reduceEqDiff,Nat.reduceAdd]
   exact aF rfl
  ·rw[decide_eq_false (fun h=>q3 (hz.2 (T4.1 h).2))]
   simp only[uL,qK,c1,c2,c3,q2,q3,vV,cL,jY,nF,nC,aN,kC,Nat.reduceLeDiff,Nat.reduceLT,Nat.reduceSub,uX,dX,fP,lP,rI,tX,bne_iff_ne,ne_eq,not_false_eq_true,not_true_eq_false,VX,Nat.reduceEqDiff,Nat.reduceAdd]
   exact aF rfl
 ·have q2:(decide (a.num<0) == decide (b.num<0))=false:=by simpa using q1
  rw[decide_eq_false (fun h=>q1 (T4.1 h).1)]
  simp only[uL,qK,q2,vV,cL,jY,nF,nC,aN,kC,Nat.reduceLeDiff,Nat.reduceLT,Nat.reduceSub,uX,dX,fP,lP,rI,tX,bne_iff_ne,ne_eq,not_false_eq_true,not_true_eq_false,VX,Nat.reduceEqDiff,Nat.reduceAdd]
  exact aF rfl
theorem G5 (qs:List Rat) (hb:∀q∈qs,dL q≤665) (hl:qs.length≤300):TC 116 [aY bZ qs] (VB (iL qs)):=by
 refine TC.walk ⟨true,false⟩ Gj rfl (Nat.le_of_ble_eq_true rfl) (by simp[aM,jZ]) rfl ?_
 have e1:=Fh qs (by omega)
 have e2:=fun(K:aA)=>Jv (lo:=0) (H:=K) (v:=aY bZ qs) qs (Rd.tree Hh) (Nat.zero_le _) hb (Ld hl) (by omega) (by omega)
 have hsb:=B8 hb qs.length
 rw[List.take_length] at hsb
 have e3:=My
 have hsr:=Ld hl
 have e4:=JC (tI qs) 1 (by omega) (by rw[NO];omega)
 unfold iL
 cases JV:qs.any (fun q=>decide (q<0)) with
 |
  true =>
  rw[JV] at e1
  simp only[Bool.not_true,Bool.false_and] at e1 ⊢
  simp only[vQ,sX,e1,VX,Nat.reduceEqDiff,Nat.reduceAdd]
  exact aF rfl
 |
  false =>
  rw[JV] at e1
  simp only[Bool.not_false,Bool.true_and] at e1 ⊢
  simp only[vQ,sX,e1,VX,Nat.reduceEqDiff,Nat.reduceAdd]
  refine xK rfl (e2 _) fun r L hr => ?_
  subst hr
  simp only[e3,e4,VX,Nat.reduceEqDiff,Nat.reduceAdd]
  exact aF rfl
end Go.PM
namespace Go.PM
open Go.Lib
end Go.PM
namespace Go.PM
end Go.PM
namespace Go.PM
open Go.Lib
end Go.PM
namespace Go.PM
def uF:aD:=(.seq (LS [LM 14 6,LM 15 0,LO 16 (.bin .lss (LT 14) (LT 15))] (.cond (LT 16) .skip (.exit 2))) (.seq (.block 3 (.dI [LM 19 5,LO 20 (.call 136 []),LO 21 (.lit [(.bool false),(.slice none 0 0),(.slice none 0 0)] 1 [(0,(LT 20))]),LO 22 (.app 3 56 (LT 19) (LT 21)),LM 5 22])) (.dI [LM 17 6,LO 18 (.bin .add (LT 17) (LI 1)),LM 6 18])))
def tR:aD:=(.seq (LS [LM 8 4,LM 9 0,LO 10 (.bin .lss (LT 8) (LT 9))] (.cond (LT 10) .skip (.exit 0))) (.seq (.block 1 (LS [LO 13 (.lit [(.bool false),(.slice none 0 0),(.slice none 0 0)] 0 []),LM 5 13] (.seq (LS [LO 6 (.mv (LI 0))] (.block 2 (.loop uF))) (.dI [LM 23 3,LM 24 5,LO 25 (.lit [(.slice none 0 0)] 1 [(0,(LT 24))]),LO 26 (.app 1 24 (LT 23) (LT 25)),LM 3 26])))) (.dI [LM 11 4,LO 12 (.bin .add (LT 11) (LI 1)),LM 4 12])))
def Ch:aD:=(LS [LO 2 (.mv (.const (.slice none 0 0)))] (LS [LO 7 (.lit [(.slice none 0 0)] 0 []),LM 3 7] (.seq (LS [LO 4 (.mv (LI 0))] (.block 0 (.loop tR))) (LS [LM 27 3,LM 2 27] .ret))))
def EV:aP:=⟨28,[(.tmp 2)],Ch⟩
theorem JE:gB 123=some EV:=by kernel_rfl
def lJ:aD:=(.seq (LS [LM 4 3,LM 5 0,LO 6 (.len (LT 5)),LO 7 (.bin .lss (LT 4) (LT 6))] (.cond (LT 7) .skip (.exit 0))) (.seq (.block 1 (LS [LM 10 0,LM 11 3,LO 12 (.iaddr 3 (LT 10) (LT 11)),LO 13 (LK 12),LO 14 (.call 141 [(LT 13)]),LM 15 14,LZ 15 16 (.mv (LT 0)),LZ 15 17 (.mv (LT 3)),LZ 15 18 (.iaddr 3 (LT 16) (LT 17)),LZ 15 19 (LK 18),LZ 15 20 (.call 232 [(LT 19)]),LO 21 (.pick (LT 15) LG (LT 20))] (.cond (LT 21) (LS [LO 2 (.mv LF)] .ret) .skip))) (.dI [LM 8 3,LO 9 (.bin .add (LT 8) (LI 1)),LM 3 9])))
def Ck:aD:=(LS [LO 2 (.mv LF)] (.seq (LS [LO 3 (.mv (LI 0))] (.block 0 (.loop lJ))) (LS [LO 2 (.mv LG)] .ret)))
def ET:aP:=⟨22,[(.tmp 2)],Ck⟩
theorem JH:gB 199=some ET:=by kernel_rfl
end Go.PM
namespace Go.PM
end Go.PM
namespace Go.PM
open Go.Lib
theorem ahC {b g j o e:Nat} {H:aA} {es:List VV} {w:Bool} {x x':VV} (h:aI H b g=some (es,e,w)) (hx:es[j]? = some x) (hf:PM.fz 7 H x=some x'):PM.fz depth H (.ptr b g j o)=some (x'.cZ o):=by
 show PM.fz (7+1) H _=_
 unfold PM.fz
 have:aR (.ptr b g j o)=false:=rfl
 simp[this,h,hx,hf]
end Go.PM
namespace Go.PM
open Go.Lib
set_option maxHeartbeats 1000000 in
theorem rQ (qs:List Rat) (hn:qs.length≤1000000) (hb:∀q∈qs,dL q≤1099511627776):FC 200 [aY bZ qs] (R0 (MO sV 1 (pX qs)) (pX qs).isSome):=by
 refine FC.Kt ⟨true,false⟩ F0 (Nat.le_of_ble_eq_true rfl) fun n => ?_
 have e0:∀K,mB false [.string ⟨#[]⟩] 0 [] K=some (.ref K.length 0 0 0 0,K++[.row 0 [] 1 true]):=fun K=>jR rfl
 simp only[Ci,Ae,e0,List.length_replicate,iC,VX,Nat.reduceEqDiff,Nat.reduceAdd,Nat.reduceLeDiff,Nat.reduceLT,Nat.reduceSub]
 refine aQ (fun(i:Nat) ρ H=>i≤qs.length∧(∀q∈qs.take i,wE q=true)∧H=List.replicate n cA.dead++[cA.row i (((qs.take i).map JA).map sV) 1 true]∧ρ 4 = .ref n i 0 i i∧ρ 0=aY bZ qs∧ρ 10=VI qs.length∧ρ 11=VI i) (fun i=>qs.length-i) 0 ⟨Nat.zero_le _,by simp,rfl,rfl,rfl,rfl,rfl⟩ ?_
 rintro i ρ H ⟨hi,qR,rfl,g4,g0,g10,g11⟩
 have rN:aI (List.replicate n cA.dead++[cA.row i (((qs.take i).map JA).map sV) 1 true]) n i=some (((qs.take i).map JA).map sV,1,true):=by rw[BF,bA]
 by_cases cN:(i:Int)<(qs.length:Int)
 ·obtain⟨q,hq⟩:∃q,qs[i]? = some q:=⟨_,List.getElem?_eq_getElem (by omega)⟩
  have hqm:=List.mem_of_getElem? hq
  have a1:=fun H=>aK (f:=bZ) (t := .op) (H:=H) (size:=3) (k := .i64) hq rfl
  have wi:IntKind.i64.wrap ((i:Int)+1)=((i+1:Nat):Int):=wrapN (i+1) (by omega) (by omega)
  have e2:=Kf q (hb q hqm)
  unfold QJ at e2
  cases hf:wE q with
  |
   false =>
   rw[if_neg (by simp[hf])] at e2
   rw[Q8 hqm hf]
   simp only[mT,g4,g0,g10,g11,cN,a1,e2,kB,iC,VX,Nat.reduceEqDiff,Nat.reduceAdd,Nat.reduceLeDiff,Nat.reduceLT,Nat.reduceSub]
   exact⟨_,yH (by simp),rfl,yF,.tree [] .nil,rfl,rfl⟩
  |
   true =>
   rw[if_pos hf] at e2
   have eL:∀H,mB false [.string ⟨#[]⟩] 1 [(0,aU (EO q))] H=some (.tree [sV (JA q)] (.cl 1),H):=fun H=>iD rfl rfl rfl
   have eS:∀H,cU 1 (.tree [sV (JA q)] (.cl 1)) H=some [sV (JA q)]:=fun H=>fA rfl rfl
   have eP:eR n 1 16 (.ref n i 0 i i) [sV (JA q)] (List.replicate n cA.dead++[cA.row i (((qs.take i).map JA).map sV) 1 true])=some (.ref n (i+1) 0 (i+1) (i+1),List.replicate n cA.dead++[cA.row (i+1) (((qs.take (i+1)).map JA).map sV) 1 true]):=by
    rw[iB (f:=sV) (xs:=(qs.take i).map JA) rN (by simp;omega) (Nat.le_refl _) (by decide) (by decide) (by omega),lO hq]
    simp only[List.map_append,DD]
    rfl
   simp only[mT,g4,g0,g10,g11,cN,a1,e2,eL,eS,eP,wi,kB,iC,VX,Nat.reduceEqDiff,Nat.reduceAdd,Nat.reduceLeDiff,Nat.reduceLT,Nat.reduceSub]
   refine⟨i+1,by omega,by omega,fun p hp => ?_,by (repeat' apply And.intro)<;>first | rfl | trivial | assumption⟩
   rw[lO hq] at hp
   rcases List.mem_append.1 hp with h | h
   ·exact qR p h
   ·rw[List.mem_singleton] at h;subst h;exact hf
 ·have oJ:i=qs.length:=by omega
  subst oJ
  rw[List.take_length] at qR rN
  rw[Nb qR]
  simp only[mT,g4,g10,g11,cN,List.take_length,iC,VX,Nat.reduceEqDiff,Nat.reduceAdd,Nat.reduceLeDiff,Nat.reduceLT,Nat.reduceSub]
  refine⟨_,⟨rfl,fun _ _ _ _ _ h=>h⟩,by simp[dD,mM,kE],by simp only[dE,List.all_cons,List.all_nil,Bool.and_true];exact Gg (fun _=>rfl) _,.ref n qs.length 0 qs.length qs.length,rfl,⟨n,qs.length,qs.length,Nat.le_refl _,by simp,by simp,by simp,rN⟩⟩
end Go.PM
namespace Go.PM
section
variable {α:Type}
end
end Go.PM
namespace Go.PM
open Go.Lib
theorem Lt {n B:Nat} (hB:1≤B):∀q∈List.replicate n (0:Rat),dL q≤B:=fun q hq=>by
 rw[List.eq_of_mem_replicate hq,Ly]
 exact hB
theorem IX.own {n lo hi:Nat} {s:DT} {H:aA} {v:VV} (h:IX s lo hi H v) (hn:n≤lo):∃a b c,v = .agg [a,b,c]∧bI a=true∧bI b=true∧bI c=true∧dD n a=true∧dD n b=true∧dD n c=true:=by
 obtain⟨a,b,c,m1,m2,rfl,l1,l2,l3,ha,hb,hc⟩:=h
 refine⟨a,b,c,rfl,ha.cell,hb.cell,hc.cell,?_,?_,?_⟩
 ·rcases ha with⟨rfl,_⟩ | ⟨b,g,c,h1,h2,rfl,h3⟩
  ·rfl
  ·simp[dD];omega
 ·rcases hb with⟨rfl,_⟩ | ⟨b,g,c,rs,h1,h2,rfl,h3⟩
  ·rfl
  ·simp[dD];omega
 ·rcases hc with⟨rfl,_⟩ | ⟨b,g,c,h1,h2,rfl,h3⟩
  ·rfl
  ·simp[dD];omega
theorem acD {n t:Nat} {H2 L:aA} {P:Nat→Nat→aA→VV→Prop} {ok:Bool} {v:VV} (zR:∀ {lo hi H H' v},P lo hi H v→cS lo hi H H'→P lo hi H' v) (QZ:∀ {lo hi kP pL:Nat} {H:aA} {v:VV},P lo hi H v→kP≤lo→hi≤pL→P kP pL H v)
  (Ej:∃a b c,v = .agg [a,b,c]∧bI a=true∧bI b=true∧bI c=true∧dD n a=true∧dD n b=true∧dD n c=true) (hr:aI H2 t 0=some ([.agg [.tree [] .nil,.tree [] .nil,.tree [] .nil]],3,true)) (hnt:n≤t) (hv:P H2.length (H2++L).length (H2++L) v) (hL:dE n L=true) :
  ∃H3,bY n 3 (.ptr t 0 0 0) v (H2++L)=some H3∧cR true 3 (.ptr t 0 0 0) H3=some v∧∃L',A7 H3 (List.replicate n .dead++L')∧dD n (.dS [v,.sc (.bool ok)])=true∧dE n L'=true∧R0 P ok n (.dS [v,.sc (.bool ok)]) L':=by
 obtain⟨a,b,c,rfl,h1,h2,h3,h4,h5,h6⟩:=Ej
 have ht:=lF hr
 refine⟨(H2++L).set t (.row 0 [.agg [a,b,c]] 3 true),?_,?_,?_⟩
 ·rw[cJ (iA hr) (by exact Nat.zero_lt_one) hnt rfl (by simp[aB,h1,h2,h3])]
  rfl
 ·rw[cO,dM (iA hr)]
  rfl
 ·refine ahH (k:=H2.length) (lo:=H2.length) (hi:=(H2++L).length) (by omega) (by rw[List.length_set,List.length_append];omega) ((Gn.start.avF hL).set (by omega)) (by simp[dD,mM,h4,h5,h6]) zR QZ (zR hv (cS.set (by omega))) (Nat.le_refl _) (by rw[List.length_set];exact Nat.le_refl _)
theorem R6 {n:Nat} {F:Nat} {args iI:List VV} {P:Nat→Nat→aA→VV→Prop} {ok:Bool} {H:aA} {K:VV→aA→Prop} (zR:∀ {lo hi H H' v},P lo hi H v→cS lo hi H H'→P lo hi H' v) (QZ:∀ {lo hi kP pL:Nat} {H:aA} {v:VV},P lo hi H v→kP≤lo→hi≤pL→P kP pL H v)
  (Ej:∀ {lo hi H v},P lo hi H v→∀n,n≤lo→∃a b c,v = .agg [a,b,c]∧bI a=true∧bI b=true∧bI c=true∧dD n a=true∧dD n b=true∧dD n c=true) {t:Nat}
  (h:FC F iI (R0 P ok)) (tM:BE.contains F=true) (hf:args.mapM (PM.fz depth H)=some iI) (hr:aI H t 0=some ([.agg [.tree [] .nil,.tree [] .nil,.tree [] .nil]],3,true)) (hnt:n≤t)
  (hk:∀v H2 H3,bY n 3 (.ptr t 0 0 0) v H2=some H3→cR true 3 (.ptr t 0 0 0) H3=some v→(∃L',A7 H3 (List.replicate n .dead++L')∧dD n (.dS [v,.sc (.bool ok)])=true∧dE n L'=true∧R0 P ok n (.dS [v,.sc (.bool ok)]) L')→K (.dS [v,.sc (.bool ok)]) H2) :
  cQ F args n H K:=by
 refine h.afS tM hf ?_
 rintro r L ⟨v,rfl,hv⟩ FR hL
 have hv:=zR hv cS.move
 rw[←List.length_append] at hv
 have ht:=lF hr
 obtain⟨H3,t1,t2,t3⟩:=acD (P:=P) (n:=n) (ok:=ok) zR QZ (Ej hv n (by omega)) hr hnt hv (Gs (by omega) hL)
 exact hk v _ H3 t1 t2 t3
abbrev Al:cA := .row 0 [.agg [.tree [] .nil,.tree [] .nil,.tree [] .nil]] 3 true
theorem xF {n:Nat}:aI (List.replicate n cA.dead++[Al]) n 0=some ([.agg [.tree [] .nil,.tree [] .nil,.tree [] .nil]],3,true):=by rw[BF,bA]
def mH (ws rs:List ByteArray):Option DT:=match pW ws,Hc rs with
 | some w,some r=>if w.length=r.length∧r.length≤6 then jH w (List.replicate r.length (List.replicate r.length 0)) r else none
 | _,_=>none
set_option maxHeartbeats 2000000 in
theorem F3 (ws rs:List ByteArray) (SF:ws.length≤1000000000∧∀s∈ws,s.size≤1000000000) (Aa:rs.length≤1000000000∧∀s∈rs,s.size≤1000000000):FC 64 [dT ws,dT rs] (R0 (IX ((mH ws rs).getD tE)) (mH ws rs).isSome):=by
 refine FC.Kt ⟨true,false⟩ FV (Nat.le_of_ble_eq_true rfl) fun n => ?_
 have e1:=IC ws SF.1 SF.2
 have e2:=Iq rs Aa.1 Aa.2
 have f1:bY n 3 (.ptr n 0 0 0) (.agg [.tree [] .nil,.tree [] .nil,.tree [] .nil]) (List.replicate n cA.dead++[Al])=some (List.replicate n cA.dead++[Al]):=by
  rw[cJ xF (by exact Nat.zero_lt_one) (Nat.le_refl _) rfl rfl,DD]
  rfl
 have f2:cR true 3 (.ptr n 0 0 0) (List.replicate n cA.dead++[Al])=some (.agg [.tree [] .nil,.tree [] .nil,.tree [] .nil]):=by
  rw[cO,xF]
  rfl
 have bad:mH ws rs=none→∃L,A7 (List.replicate n cA.dead++[Al]) (List.replicate n .dead++L)∧dD n (.dS [.agg [.tree [] .nil,.tree [] .nil,.tree [] .nil],.sc (.bool false)])=true∧dE n L=true∧R0 (IX ((mH ws rs).getD tE)) (mH ws rs).isSome n (.dS [.agg [.tree [] .nil,.tree [] .nil,.tree [] .nil],.sc (.bool false)]) L:=fun Mu=>by
  rw[Mu]
  exact⟨_,yH (by simp),rfl,yF,_,rfl,Qh (Nat.le_add_right _ _)⟩
 cases h1:pW ws with
 |
  none =>
  rw[h1,rD] at e1
  have bad:=bad (by unfold mH;rw[h1])
  cases h2:Hc rs with
  |
   none =>
   rw[h2,rD] at e2
   simp only[iP,gF,e1,e2,f1,f2,wF,List.length_replicate,iC,VX,Nat.reduceEqDiff,Nat.reduceAdd,Nat.reduceLeDiff,Nat.reduceLT,Nat.reduceSub]
   exact bad
  |
   some r =>
   rw[h2,yV] at e2
   simp only[iP,gF,e1,e2,f1,f2,wF,List.length_replicate,iC,VX,Nat.reduceEqDiff,Nat.reduceAdd,Nat.reduceLeDiff,Nat.reduceLT,Nat.reduceSub]
   exact bad
 |
  some w =>
  rw[h1,yV] at e1
  cases h2:Hc rs with
  |
   none =>
   rw[h2,rD] at e2
   have bad:=bad (by unfold mH;rw[h1,h2])
   simp only[iP,gF,e1,e2,f1,f2,wF,List.length_replicate,iC,VX,Nat.reduceEqDiff,Nat.reduceAdd,Nat.reduceLeDiff,Nat.reduceLT,Nat.reduceSub]
   exact bad
  |
   some r =>
   rw[h2,yV] at e2
   by_cases hl:(w.length:Int)=(r.length:Int)
   ·by_cases h6:(6:Int)<(r.length:Int)
    ·have bad:=bad (by unfold mH;rw[h1,h2];exact if_neg (by omega))
     simp only[iP,gF,e1,e2,f1,f2,hl,h6,ne_eq,not_true_eq_false,decide_false,wF,List.length_replicate,iC,VX,Nat.reduceEqDiff,Nat.reduceAdd,Nat.reduceLeDiff,Nat.reduceLT,Nat.reduceSub]
     exact bad
    ·have Ca:mH ws rs=jH w (List.replicate r.length (List.replicate r.length 0)) r:=by unfold mH;rw[h1,h2];exact if_pos (by omega)
     rw[Ca]
     clear bad f1 f2
     simp only[iP,gF,e1,e2,hl,h6,ne_eq,not_true_eq_false,decide_false,wF,List.length_replicate,iC,VX,Nat.reduceEqDiff,Nat.reduceAdd,Nat.reduceLeDiff,Nat.reduceLT,Nat.reduceSub]
     refine xK rfl (OU (H:=List.replicate n cA.dead++[Al]) r.length (by omega) (by simp)) fun z L2 hz => ?_
     obtain⟨b,g,c,rows,rfl,hc,hM,Th⟩:=hz
     have D1:rows.length=r.length:=by have:=congrArg List.length Th;simpa using this
     rw[List.length_replicate] at hc
     simp only[List.length_replicate,iC,VX,Nat.reduceEqDiff,Nat.reduceAdd,Nat.reduceLeDiff,Nat.reduceLT,Nat.reduceSub]
     have CB:=iA (L:=L2) (xF (n:=n))
     have W4:PM.fz depth (List.replicate n cA.dead++[Al]++L2) (.agg [aY bE w,.ref b g 0 r.length c,aY bE r])=some (O9 bE w (List.replicate r.length (List.replicate r.length 0)) r):=by
      refine J5 (d:=6) ?_
      have h2:=hM.fz (d:=4) (c:=c) (by omega) gS
      rw[Th,D1] at h2
      rw[List.mapM_cons,aJ (kZ w),List.mapM_cons,h2,List.mapM_cons,aJ (kZ r)]
      rfl
     have hw:=(yG (E6 h1).1).1
     obtain⟨IQ,Wo⟩:=Ib h2
     have hto:=Ft w (List.replicate r.length (List.replicate r.length 0)) r ⟨by omega,fun q h=>by have:=hw q h;omega⟩ ⟨by rw[List.length_replicate];omega,fun x hx=>by
      rw[List.eq_of_mem_replicate hx]
      exact⟨by rw[List.length_replicate];omega,Lt (by decide)⟩⟩ ⟨by omega,fun q h=>by have:=(Wo q h).1;omega⟩
     refine R6 (P:=IX ((jH w (List.replicate r.length (List.replicate r.length 0)) r).getD tE)) IX.bU IX.wide (fun h n hn=>h.own hn) hto rfl (VY W4) CB (Nat.le_refl _) fun v H2 H3 s1 s2 s3 => ?_
     simp only[s1,s2,iC,VX,Nat.reduceEqDiff,Nat.reduceAdd,Nat.reduceLeDiff,Nat.reduceLT,Nat.reduceSub]
     exact s3
   ·have bad:=bad (by unfold mH;rw[h1,h2];exact if_neg (by omega))
    simp only[iP,gF,e1,e2,f1,f2,hl,ne_eq,not_false_eq_true,decide_true,wF,List.length_replicate,iC,VX,Nat.reduceEqDiff,Nat.reduceAdd,Nat.reduceLeDiff,Nat.reduceLT,Nat.reduceSub]
    exact bad
end Go.PM
namespace Go.PM
def gA:aD:=(LS [LO 4 (.new [(.slice none 0 0),(.slice none 0 0),(.slice none 0 0)]),LO 5 (.mv LF)] (LS [LM 12 1,LO 13 (.call 121 [(LT 12)]),LM 11 13,LO 14 (LX 11 0),LO 15 (LX 11 1),LM 6 14,LM 7 15] (LS [LM 17 0,LO 18 (.call 115 [(LT 17)]),LM 16 18,LO 19 (LX 16 0),LO 20 (LX 16 1),LM 8 19,LM 9 20] (.seq (LS [LM 21 7,LO 22 (.un .not (LT 21)),LM 23 22,LZ 23 24 (.mv (LT 9)),LZ 23 25 (.un .not (LT 24)),LO 26 (.pick (LT 23) LG (LT 25)),LM 27 26,LZ 27 28 (.mv (LT 8)),LZ 27 29 (.len (LT 28)),LZ 27 30 (.mv (LT 6)),LZ 27 31 (.len (LT 30)),LZ 27 32 (.bin .neq (LT 29) (LT 31)),LO 33 (.pick (LT 27) LG (LT 32)),LM 34 33,LZ 34 35 (.mv (LT 8)),LZ 34 36 (.call 116 [(LT 35)]),LZ 34 37 (.un .not (LT 36)),LO 38 (.pick (LT 34) LG (LT 37))] (.cond (LT 38) (LS [LO 39 (.build [(.slice none 0 0),(.slice none 0 0),(.slice none 0 0)] [(0,1),(1,1),(2,1)] []),LN (.store 3 (LT 4) (LT 39)),LO 5 (.mv LF)] .ret) .skip)) (LS [LM 40 8,LM 41 6,LO 42 (.len (LT 41)),LO 43 (.call 123 [(LT 42)]),LM 44 6,LO 45 (.build [(.slice none 0 0),(.slice none 0 0),(.slice none 0 0)] [(0,1),(1,1),(2,1)] [(0,(LT 40)),(1,(LT 43)),(2,(LT 44))]),LO 10 (.new [(.slice none 0 0),(.slice none 0 0),(.slice none 0 0)]),LN (.store 3 (LT 10) (LT 45))] (LS [LO 46 (.call 125 [(LT 10)]),LO 47 (LX 46 0),LO 48 (LX 46 1),LN (.store 3 (LT 4) (LT 47)),LM 5 48] .ret))))))
def iT:aP:=⟨49,[(.cell 4 true 3),(.tmp 5)],gA⟩
theorem Gi:gB 63=some iT:=by kernel_rfl
def nB:aD:=(LS [LO 2 (.mv (.const (.slice none 0 0))),LO 3 (.mv LF)] (LS [LM 7 0,LO 8 (.call 115 [(LT 7)]),LM 6 8,LO 9 (LX 6 0),LO 10 (LX 6 1),LM 4 9,LM 5 10] (LS [LM 11 4,LM 12 5,LM 13 12,LY 13 14 (.mv (LT 4)),LY 13 15 (.len (LT 14)),LY 13 16 (.bin .geq (LT 15) (LI 1)),LO 17 (.pick (LT 13) (LT 16) LF),LM 18 17,LY 18 19 (.mv (LT 4)),LY 18 20 (.len (LT 19)),LY 18 21 (.bin .leq (LT 20) (LI 6)),LO 22 (.pick (LT 18) (LT 21) LF),LM 23 22,LY 23 24 (.mv (LT 4)),LY 23 25 (.call 199 [(LT 24)]),LO 26 (.pick (LT 23) (LT 25) LF),LM 2 11,LM 3 26] .ret)))
def pY:aP:=⟨27,[(.tmp 2),(.tmp 3)],nB⟩
theorem JF:gB 121=some pY:=by kernel_rfl
def vX:aD:=(.seq (LS [LM 43 9,LM 44 0,LO 45 (.chk (LT 44)),LO 46 (LA 1 45),LO 47 (LL 46),LO 48 (.len (LT 47)),LO 49 (.bin .lss (LT 43) (LT 48))] (.cond (LT 49) .skip (.exit 0))) (.seq (.block 1 (LS [LM 53 0,LO 54 (.chk (LT 53)),LO 55 (LA 1 54),LO 56 (LL 55),LM 57 9,LO 58 (.iaddr 1 (LT 56) (LT 57)),LO 59 (LL 58),LO 60 (.call 200 [(LT 59)]),LM 52 60,LO 61 (LX 52 0),LO 62 (LX 52 1),LM 10 61,LM 11 62] (.seq (LS [LM 63 11,LO 64 (.un .not (LT 63))] (.cond (LT 64) (LS [LO 65 (.build [(.slice none 0 0),(.slice none 0 0),(.slice none 0 0)] [(0,1),(1,1),(2,1)] []),LN (.store 3 (LT 2) (LT 65)),LO 3 (.mv LF)] .ret) .skip)) (.dI [LO 66 (LA 1 8),LO 67 (LL 66),LM 68 10,LO 69 (.lit [(.slice none 0 0)] 1 [(0,(LT 68))]),LO 70 (.app 1 24 (LT 67) (LT 69)),LO 71 (LA 1 8),LN (.store 1 (LT 71) (LT 70))])))) (.dI [LM 50 9,LO 51 (.bin .add (LT 50) (LI 1)),LM 9 51])))
def Dj:aD:=(LS [LO 2 (.new [(.slice none 0 0),(.slice none 0 0),(.slice none 0 0)]),LO 3 (.mv LF)] (LS [LM 13 0,LO 14 (.chk (LT 13)),LO 15 (LA 0 14),LO 16 (LL 15),LO 17 (.call 200 [(LT 16)]),LM 12 17,LO 18 (LX 12 0),LO 19 (LX 12 1),LM 4 18,LM 5 19] (LS [LM 21 0,LO 22 (.chk (LT 21)),LO 23 (LA 2 22),LO 24 (LL 23),LO 25 (.call 200 [(LT 24)]),LM 20 25,LO 26 (LX 20 0),LO 27 (LX 20 1),LM 6 26,LM 7 27] (.seq (LS [LM 28 5,LO 29 (.un .not (LT 28)),LM 30 29,LZ 30 31 (.mv (LT 7)),LZ 30 32 (.un .not (LT 31)),LO 33 (.pick (LT 30) LG (LT 32)),LM 34 33,LZ 34 35 (.mv (LT 4)),LZ 34 36 (.len (LT 35)),LZ 34 37 (.bin .gtr (LT 36) (LI 6)),LO 38 (.pick (LT 34) LG (LT 37))] (.cond (LT 38) (LS [LO 39 (.build [(.slice none 0 0),(.slice none 0 0),(.slice none 0 0)] [(0,1),(1,1),(2,1)] []),LN (.store 3 (LT 2) (LT 39)),LO 3 (.mv LF)] .ret) .skip)) (LS [LM 40 4,LM 41 6,LO 42 (.build [(.slice none 0 0),(.slice none 0 0),(.slice none 0 0)] [(0,1),(1,1),(2,1)] [(0,(LT 40)),(2,(LT 41))]),LO 8 (.new [(.slice none 0 0),(.slice none 0 0),(.slice none 0 0)]),LN (.store 3 (LT 8) (LT 42))] (.seq (LS [LO 9 (.mv (LI 0))] (.block 0 (.loop vX))) (LS [LO 72 (LK 8),LN (.store 3 (LT 2) (LT 72)),LO 3 (.mv LG)] .ret)))))))
def Gh:aP:=⟨73,[(.cell 2 true 3),(.tmp 3)],Dj⟩
theorem KU:gB 125=some Gh:=by kernel_rfl
end Go.PM
namespace Go.PM
open Go.Lib
set_option maxHeartbeats 1000000 in
theorem JU {lo:Nat} {H:aA} (N:Nat) (hN:N≤1000) (eW:lo≤H.length):jO 123 [VI N] lo H (Sg (TabIs bZ 3 (List.replicate N (List.replicate N (0:Rat)))) H):=by
 refine jO.walk ⟨true,false⟩ JE (Nat.le_of_ble_eq_true rfl) ?_
 have e0:∀K,mB false [.slice none 0 0] 0 [] K=some (.ref K.length 0 0 0 0,K++[.row 0 [] 1 true]):=fun K=>jR rfl
 have e0':∀K,mB false [.bool false,.slice none 0 0,.slice none 0 0] 0 [] K=some (.ref K.length 0 0 0 0,K++[.row 0 [] 3 true]):=fun K=>jR rfl
 have e1:=Dc
 have eL:∀H,mB false [.bool false,.slice none 0 0,.slice none 0 0] 1 [(0,bZ 0)] H=some (.tree [bZ 0] (.cl 3),H):=fun H=>iD rfl rfl rfl
 have eS:∀H,cU 3 (.tree [bZ 0] (.cl 3)) H=some [bZ 0]:=fun H=>fA rfl rfl
 simp only[EV,Ch,e0,iC,VX,Nat.reduceEqDiff,Nat.reduceAdd,Nat.reduceLeDiff,Nat.reduceLT,Nat.reduceSub]
 refine aQ (fun(i:Nat) ρ H1=>i≤N∧H <+: H1∧(∃rs,rs.length=i∧rs.map (·.xs)=List.replicate i (List.replicate N (0:Rat))∧MG bZ 3 H.length H1.length H.length i H1 rs)∧ρ 0=VI N∧ρ 3 = .ref H.length i 0 i i∧ρ 4=VI i) (fun i=>N-i) 0
  ⟨Nat.zero_le _,List.prefix_append _ _,⟨[],rfl,rfl,gH,Nat.le_refl _,by simp,by simp,by simp⟩,rfl,rfl,rfl⟩ ?_
 rintro i ρ H1 ⟨hi,hp,⟨rs,D1,Th,hM⟩,g0,g3,g4⟩
 by_cases cN:(i:Int)<(N:Int)
 ·have wi:IntKind.i64.wrap ((i:Int)+1)=((i+1:Nat):Int):=wrapN (i+1) (by omega) (by omega)
  simp only[tR,g0,g3,g4,cN,e0',iC,VX,Nat.reduceEqDiff,Nat.reduceAdd,Nat.reduceLeDiff,Nat.reduceLT,Nat.reduceSub]
  have DF:=hp.length_le
  refine aQ (fun(k:Nat) ρ H2=>k≤N∧H1 <+: H2∧aI H2 H1.length k=some ((List.replicate k (0:Rat)).map bZ,3,true)∧ρ 0=VI N∧ρ 3 = .ref H.length i 0 i i∧ρ 4=VI i∧ρ 5 = .ref H1.length k 0 k k∧ρ 6=VI k) (fun k=>N-k) 0 ⟨Nat.zero_le _,List.prefix_append _ _,gH,g0,g3,g4,rfl,rfl⟩ ?_
  clear g0 g3 g4
  rintro k ρ H2 ⟨hk,V5,rN,g0,g3,g4,g5,g6⟩
  by_cases hkn:(k:Int)<(N:Int)
  ·have wk:IntKind.i64.wrap ((k:Int)+1)=((k+1:Nat):Int):=wrapN (k+1) (by omega) (by omega)
   have eP:=P7 (lo:=lo) (bytes:=56) (x:=(0:Rat)) rN (by simp) (by omega) (by decide) (by decide) (by omega)
   simp only[uF,g0,g5,g6,hkn,e1,eL,eS,eP,wk,iC,VX,Nat.reduceEqDiff,Nat.reduceAdd,Nat.reduceLeDiff,Nat.reduceLT,Nat.reduceSub]
   exact⟨k+1,by omega,by omega,Ba V5 (Nat.le_refl _),by rw[List.replicate_succ'];exact dM rN,by (repeat' apply And.intro)<;>first | rfl | trivial | assumption⟩
  ·have hke:k=N:=by omega
   subst hke
   have hA:Nr bZ 3 (List.replicate i (List.replicate k (0:Rat))) H.length H1.length H2 (.ref H.length i 0 i i) := .inr ⟨H.length,i,rs,Nat.le_refl _,hM.bhi,by simp,bX V5 hM.out,Th,(hM.pre V5).rows⟩
   have HP:=lF rN
   obtain⟨v',H3,ap,X5,bU,hlen,TR,zO,_⟩:=hA.snoc (kP:=lo) eW (by simp;omega) ⟨H1.length,k,k,List.replicate k 0⟩ (Nat.le_refl _) DF (by simp) rN
   rw[List.length_replicate] at ap
   have eL2:∀K,mB false [.slice none 0 0] 1 [(0,.ref H1.length k 0 k k)] K=some (.tree [.ref H1.length k 0 k k] (.cl 1),K):=fun K=>iD rfl rfl rfl
   have eS2:∀K,cU 1 (.tree [.ref H1.length k 0 k k] (.cl 1)) K=some [.ref H1.length k 0 k k]:=fun K=>fA rfl rfl
   simp only[uF,g0,g3,g4,g5,g6,hkn,eL2,eS2,ap,wi,iC,VX,Nat.reduceEqDiff,Nat.reduceAdd,Nat.reduceLeDiff,Nat.reduceLT,Nat.reduceSub]
   rw[←List.replicate_succ'] at X5
   rcases X5 with⟨_,h⟩ | ⟨b,g,XV,k1,k2,rfl,k3,k4,k5⟩
   ·simp at h
   ·have tB:=P7 (f:=pK) (lo:=lo) (bytes:=24) (x:=⟨H1.length,k,k,List.replicate k (0:Rat)⟩) (bX V5 hM.out) D1.symm eW (by decide) (by decide) (by omega)
    simp only[pK,List.length_replicate] at tB
    rw[tB] at ap
    injection ap with ap
    injection ap with ap1 ap2
    injection ap1 with q1 q2 q3 q4 q5
    subst q1 q2
    refine⟨i+1,by omega,by omega,zO H (Nat.le_refl _) (hp.trans V5),⟨XV,by have:=congrArg List.length k4;simpa using this,k4,k3,Nat.le_refl _,k2,k5.nd,k5.row⟩,by (repeat' apply And.intro)<;>first | rfl | trivial | assumption | rw[List.length_replicate]⟩
 ·have oJ:i=N:=by omega
  subst oJ
  simp only[tR,g0,g3,g4,cN,iC,VX,Nat.reduceEqDiff,Nat.reduceAdd,Nat.reduceLeDiff,Nat.reduceLT,Nat.reduceSub]
  exact⟨hp,H.length,i,i,rs,by rw[List.length_replicate],by simp,hM,Th⟩
theorem JY (qs:List Rat) (hn:qs.length≤1000000):TC 199 [aY bZ qs] (VB (qs.all fun q=>decide (0<q))):=by
 refine TC.walk ⟨true,false⟩ JH rfl (Nat.le_of_ble_eq_true rfl) (ZO (jZ _)) rfl ?_
 simp only[ET,Ck,iC,VX,Nat.reduceEqDiff,Nat.reduceAdd,Nat.reduceLeDiff,Nat.reduceLT,Nat.reduceSub]
 refine aQ (fun(i:Nat) ρ H=>i≤qs.length∧(∀q∈qs.take i,0<q)∧H=[]∧ρ 0=aY bZ qs∧ρ 3=VI i) (fun i=>qs.length-i) 0 ⟨Nat.zero_le _,by simp,rfl,rfl,rfl⟩ ?_
 rintro i ρ H ⟨hi,ht,rfl,g0,g3⟩
 by_cases cN:(i:Int)<(qs.length:Int)
 ·obtain⟨q,hq⟩:∃q,qs[i]? = some q:=⟨_,List.getElem?_eq_getElem (by omega)⟩
  have a1:=fun H=>aK (f:=bZ) (t := .op) (H:=H) (size:=3) (k := .i64) hq rfl
  have e1:=K6 q
  have e2:=MS q
  have wi:IntKind.i64.wrap ((i:Int)+1)=((i+1:Nat):Int):=wrapN (i+1) (by omega) (by omega)
  have aeF:¬0<q→(qs.all fun q=>decide (0<q))=false:=fun h=>by
   cases ha:qs.all fun q=>decide (0<q) with
   | false=>rfl
   | true=>exact absurd (of_decide_eq_true (List.all_eq_true.1 ha q (List.mem_of_getElem? hq))) h
  by_cases hz:q=0
  ·rw[decide_eq_true hz] at e1
   rw[aeF (by rw[hz];exact Rat.lt_irrefl)]
   simp only[lJ,g0,g3,cN,a1,e1,kB,iC,VX,Nat.reduceEqDiff,Nat.reduceAdd,Nat.reduceLeDiff,Nat.reduceLT,Nat.reduceSub]
   exact aF rfl
  ·rw[decide_eq_false hz] at e1
   by_cases kU:q.num<0
   ·rw[decide_eq_true kU] at e2
    rw[aeF (fun h=>by have:=Ka.1 kU;grind)]
    simp only[lJ,g0,g3,cN,a1,e1,e2,kB,iC,VX,Nat.reduceEqDiff,Nat.reduceAdd,Nat.reduceLeDiff,Nat.reduceLT,Nat.reduceSub]
    exact aF rfl
   ·rw[decide_eq_false kU] at e2
    simp only[lJ,g0,g3,cN,a1,e1,e2,wi,kB,iC,VX,Nat.reduceEqDiff,Nat.reduceAdd,Nat.reduceLeDiff,Nat.reduceLT,Nat.reduceSub]
    refine⟨i+1,by omega,by omega,fun p hp => ?_,by (repeat' apply And.intro)<;>first | rfl | trivial | assumption⟩
    rw[lO hq] at hp
    rcases List.mem_append.1 hp with h | h
    ·exact ht p h
    ·rw[List.mem_singleton] at h
     subst h
     have:=mt Ka.2 kU
     grind
 ·have oJ:i=qs.length:=by omega
  subst oJ
  rw[List.take_length] at ht
  have:(qs.all fun q=>decide (0<q))=true:=List.all_eq_true.2 fun q h=>decide_eq_true (ht q h)
  rw[this]
  simp only[lJ,g0,g3,cN,iC,VX,Nat.reduceEqDiff,Nat.reduceAdd,Nat.reduceLeDiff,Nat.reduceLT,Nat.reduceSub]
  exact aF rfl
def G2 (o:Option (List Rat)):VV:=match o with
 | some m=>aY bZ m
 | none => .tree [] .op
def BY (o:Option (List Rat)):Bool:=match o with
 | some qs=>decide (1≤qs.length)&&decide (qs.length≤6)&&qs.all fun q=>decide (0<q)
 | none=>false
theorem Q3 (o:Option (List Rat)):gQ (G2 o)=true:=by cases o<;>first | rfl | exact HT _
theorem JM (xs:List ByteArray) (hn:xs.length≤1000000000) (hs:∀s∈xs,s.size≤1000000000):TC 121 [dT xs] (.dS [G2 (nE xs),VB (BY (nE xs))]):=by
 refine TC.walk ⟨true,false⟩ JF rfl (Nat.le_of_ble_eq_true rfl) (ZO (dN _)) (Dq (Q3 _) rfl) ?_
 have e1:=DQ xs hn hs
 cases h:nE xs with
 |
  none =>
  rw[h,Fm] at e1
  simp only[pY,nB,e1,iC,VX,Nat.reduceEqDiff,Nat.reduceAdd,Nat.reduceLeDiff,Nat.reduceLT,Nat.reduceSub]
  exact aF rfl
 |
  some qs =>
  rw[h,FB] at e1
  obtain⟨hb,hl,_⟩:=yG h
  have e2:=JY qs (by omega)
  simp only[G2,BY]
  by_cases h1:(1:Int)≤(qs.length:Int)
  ·by_cases h6:(qs.length:Int)≤6
   ·rw[decide_eq_true (by omega:1≤qs.length),decide_eq_true (by omega:qs.length≤6),Bool.true_and,Bool.true_and]
    simp only[pY,nB,e1,e2,h1,h6,iC,VX,Nat.reduceEqDiff,Nat.reduceAdd,Nat.reduceLeDiff,Nat.reduceLT,Nat.reduceSub]
    exact aF (tY (jZ _) rfl)
   ·rw[decide_eq_true (by omega:1≤qs.length),decide_eq_false (by omega:¬qs.length≤6),Bool.true_and,Bool.false_and]
    simp only[pY,nB,e1,h1,h6,iC,VX,Nat.reduceEqDiff,Nat.reduceAdd,Nat.reduceLeDiff,Nat.reduceLT,Nat.reduceSub]
    exact aF (tY (jZ _) rfl)
  ·rw[decide_eq_false (by omega:¬1≤qs.length),Bool.false_and,Bool.false_and]
   simp only[pY,nB,e1,h1,iC,VX,Nat.reduceEqDiff,Nat.reduceAdd,Nat.reduceLeDiff,Nat.reduceLT,Nat.reduceSub]
   exact aF (tY (jZ _) rfl)
theorem Mr:∀ {xs:List ByteArray} {qs:List Rat},xs.mapM pQ=some qs→Hc xs=if (qs.all fun q=>decide (0<q))=true then some qs else none
 |
  [],qs,h=>by
  cases h
  rfl
 |
  x::xs,qs,h=>by
  obtain⟨y,ys,h1,h2,rfl⟩:=jV h
  have ih:=Mr h2
  unfold Hc at ih ⊢
  rw[List.mapM_cons,ih]
  unfold HS
  rw[h1]
  by_cases hy:0<y
  ·by_cases hys:(ys.all fun q=>decide (0<q))=true
   ·simp[hy,hys]
   ·simp[hy,hys]
  ·simp[hy]
theorem ES:∀ {xs:List ByteArray},xs.mapM pQ=none→Hc xs=none
 | [],h=>by cases h
 |
  x::xs,h=>by
  unfold Hc
  rw[List.mapM_cons] at h ⊢
  unfold HS
  cases h1:pQ x with
  | none=>rfl
  |
   some y =>
   rw[h1] at h
   have h2:xs.mapM pQ=none:=by
    cases hx:xs.mapM pQ with
    | none=>rfl
    | some ys=>rw[hx] at h;cases h
   have ih:=ES h2
   unfold Hc HS at ih
   rw[ih]
   by_cases hy:0<y
   ·simp[hy]
   ·simp[hy]
theorem ZE (xs:List ByteArray):(BY (nE xs)=true→∃qs,nE xs=some qs∧Hc xs=some qs∧1≤qs.length∧qs.length≤6)∧(BY (nE xs)=false→∀qs,Hc xs=some qs→¬(1≤qs.length∧qs.length≤6)):=by
 constructor
 ·intro h
  unfold BY at h
  split at h
  ·rename_i qs hq
   simp only[Bool.and_eq_true,decide_eq_true_eq] at h
   refine⟨qs,hq,?_,h.1.1,h.1.2⟩
   unfold nE at hq
   split at hq
   ·rw[Mr hq,if_pos h.2]
   ·cases hq
  ·cases h
 ·intro h qs hqs hc
  have hl:=(Ib hqs).1
  unfold BY nE at h
  rw[if_pos (by omega)] at h
  cases hp:xs.mapM pQ with
  |
   none =>
   rw[ES hp] at hqs
   cases hqs
  |
   some ps =>
   rw[hp] at h
   rw[Mr hp] at hqs
   split at hqs
   ·rename_i ha
    cases hqs
    simp[ha,hc.1,hc.2] at h
   ·cases hqs
def OK (s:DT) (lo hi:Nat) (H:aA) (v:VV):Prop:=(∃a b c,v = .agg [a,b,c]∧bI a=true∧bI b=true∧bI c=true∧∀n,n≤lo→dD n a=true∧dD n b=true∧dD n c=true)∧GR (Rn s) lo hi H v
theorem OK.bU {s:DT}:∀ {lo hi H H' v},OK s lo hi H v→cS lo hi H H'→OK s lo hi H' v:=fun h hk=>⟨h.1,h.2.bU hk⟩
theorem OK.wide {s:DT}:∀ {lo hi kP pL:Nat} {H:aA} {v:VV},OK s lo hi H v→kP≤lo→hi≤pL→OK s kP pL H v:=fun h hl hh=>by
 obtain⟨⟨a,b,c,h1,h2,h3,h4,h5⟩,h6⟩:=h
 exact⟨⟨a,b,c,h1,h2,h3,h4,fun n hn=>h5 n (by omega)⟩,fun H' hk=>h6 H' (hk.sub hl hh)⟩
theorem OK.ag {s:DT} {lo hi:Nat} {H:aA} {v:VV} (h:OK s lo hi H v) (n:Nat) (hn:n≤lo):∃a b c,v = .agg [a,b,c]∧bI a=true∧bI b=true∧bI c=true∧dD n a=true∧dD n b=true∧dD n c=true:=by
 obtain⟨⟨a,b,c,h1,h2,h3,h4,h5⟩,_⟩:=h
 exact⟨a,b,c,h1,h2,h3,h4,h5 n hn⟩
theorem RM {lo hi:Nat} {H:aA}:OK tE lo hi H (.agg [.tree [] .nil,.tree [] .nil,.tree [] .nil]) :=
 ⟨⟨_,_,_,rfl,rfl,rfl,rfl,fun _ _=>⟨rfl,rfl,rfl⟩⟩,fun H' _=>S4 (s:=tE) (l1:=0) (h1:=0) (l2:=0) (h2:=0) (l3:=0) (h3:=0) (.inl ⟨rfl,rfl⟩) (.inl ⟨rfl,rfl⟩) (.inl ⟨rfl,rfl⟩)⟩
end Go.PM