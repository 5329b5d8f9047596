/- Texts of a claim, in one: part 13. -/
import Derived.KernelRfl
import Derived.Lib.LaidTab
import Derived.LaidLaws
import Derived.LaidMore
import Derived.MakeChecks
import Derived.Handed
import Derived.Test.YtodamlihdkalfaaGreatDoorKUl
set_option linter.unusedSimpArgs false
set_option linter.unusedVariables false
namespace Go.PM
open Go.Lib
theorem D7 {qs:List Rat} {x:List ByteArray} (h:pX qs=some x):x.length=qs.length:=by
 unfold pX at h
 split at h
 ·cases h
  rw[List.length_map]
 ·cases h
theorem MO.own {α:Type} {f:α→VV} {e lo hi n:Nat} {H:aA} {v:VV} {o:Option (List α)} (h:MO f e o lo hi H v) (hn:n≤lo):dD n v=true:=by
 cases o with
 |
  none =>
  have h:v = .tree [] .nil:=h
  subst h
  rfl
 |
  some ys =>
  obtain⟨b,g,c,h1,h2,rfl,h3⟩:=h
  simp[dD];omega
theorem Nr.own {α:Type} {f:α→VV} {e lo hi n:Nat} {H:aA} {v:VV} {bH:List (List α)} (h:Nr f e bH lo hi H v) (hn:n≤lo):dD n v=true:=by
 rcases h with⟨rfl,_⟩ | ⟨b,g,rs,q1,q2,rfl,_⟩
 ·rfl
 ·simp[dD];omega
set_option maxHeartbeats 4000000 in
theorem Mh (b:List Rat) (g:List (List Rat)) (e:List Rat) (hb:b.length≤1000000∧∀q∈b,dL q≤1099511627776) (hg:g.length≤1000000∧∀r∈g,r.length≤1000000∧∀q∈r,dL q≤1099511627776) (he:e.length≤1000000∧∀q∈e,dL q≤1099511627776) :
  FC 125 [(O9 bZ b g e).cZ 0] (R0 (OK ((jH b g e).getD tE)) (jH b g e).isSome):=by
 refine FC.Kt ⟨true,false⟩ KU (Nat.le_of_ble_eq_true rfl) fun n => ?_
 simp only[Gh,Dj,O9,iE,List.getElem?_cons_zero,List.getElem?_cons_succ,wF,List.length_replicate,Nat.zero_add,iC,VX,Nat.reduceEqDiff,Nat.reduceAdd,Nat.reduceLeDiff,Nat.reduceLT,Nat.reduceSub]
 generalize Y3:List.replicate n cA.dead++[cA.row 0 [.agg [.tree [] .nil,.tree [] .nil,.tree [] .nil]] 3 true]=H0
 have hO0:zN n H0:=⟨[.row 0 [.agg [.tree [] .nil,.tree [] .nil,.tree [] .nil]] 3 true],Y3.symm,rfl⟩
 have CB:aI H0 n 0=some ([.agg [.tree [] .nil,.tree [] .nil,.tree [] .nil]],3,true):=by rw[←Y3,BF,bA]
 have Ac:H0.length=n+1:=by rw[←Y3];simp
 refine tP (n:=n) (rQ b hb.1 hb.2) rfl (VY (aF (jZ _))) hO0 MO.bU fun u H1 p1 hO1 hou hu => ?_
 simp only[iE,List.getElem?_cons_zero,List.getElem?_cons_succ,Nat.zero_add,iC,VX,Nat.reduceEqDiff,Nat.reduceAdd,Nat.reduceLeDiff,Nat.reduceLT,Nat.reduceSub]
 refine tP (n:=n) (rQ e he.1 he.2) rfl (VY (aF (jZ _))) hO1 MO.bU fun z H2 p2 hO2 hoz hz => ?_
 have anD:=bX (p1.trans p2) CB
 have adJ:=p1.length_le
 have asK:=p2.length_le
 have fin:∀(K:aA) (a1 a2 a3:VV),aI K n 0=some ([.agg [.tree [] .nil,.tree [] .nil,.tree [] .nil]],3,true)→bI a1=true→bI a2=true→bI a3=true →
   bY n 3 (.ptr n 0 0 0) (.agg [a1,a2,a3]) K=some (K.set n (.row 0 [.agg [a1,a2,a3]] 3 true))∧cR true 3 (.ptr n 0 0 0) (K.set n (.row 0 [.agg [a1,a2,a3]] 3 true))=some (.agg [a1,a2,a3]):=fun K a1 a2 a3 h h1 h2 h3=>by
  constructor
  ·rw[cJ h (by exact Nat.zero_lt_one) (Nat.le_refl _) rfl (by simp[aB,h1,h2,h3])]
   rfl
  ·rw[cO,dM h]
   rfl
 have bad:jH b g e=none→∀K:aA,n≤K.length→∃L,A7 (K.set n (.row 0 [.agg [.tree [] .nil,.tree [] .nil,.tree [] .nil]] 3 true)) (List.replicate n .dead++L)∧dD n (.dS [.agg [.tree [] .nil,.tree [] .nil,.tree [] .nil],.sc (.bool false)])=true∧dE n L=true∧R0 (OK ((jH b g e).getD tE)) (jH b g e).isSome n (.dS [.agg [.tree [] .nil,.tree [] .nil,.tree [] .nil],.sc (.bool false)]) L:=fun Mu K hK=>by
  rw[Mu]
  exact⟨_,yH (by rw[List.length_set];omega),rfl,yF,_,rfl,RM⟩
 obtain⟨f1,f2⟩:=fin H2 (.tree [] .nil) (.tree [] .nil) (.tree [] .nil) anD rfl rfl rfl
 cases pZ:pX b with
 |
  none =>
  have bad:=bad (by unfold jH;rw[pZ]) H2 (by omega)
  cases pX e <;>
  ·simp only[iE,List.getElem?_cons_zero,List.getElem?_cons_succ,f1,f2,Option.isSome_none,Option.isSome_some,iC,VX,Nat.reduceEqDiff,Nat.reduceAdd,Nat.reduceLeDiff,Nat.reduceLT,Nat.reduceSub]
   exact bad
 |
  some x =>
  rw[pZ] at hu
  cases he':pX e with
  |
   none =>
   have bad:=bad (by unfold jH;rw[pZ,he'];cases zA g<;>rfl) H2 (by omega)
   simp only[iE,List.getElem?_cons_zero,List.getElem?_cons_succ,f1,f2,Option.isSome_none,Option.isSome_some,iC,VX,Nat.reduceEqDiff,Nat.reduceAdd,Nat.reduceLeDiff,Nat.reduceLT,Nat.reduceSub]
   exact bad
  |
   some z' =>
   rw[he'] at hz
   have hxl:=D7 pZ
   obtain⟨bu,gu,cu,u1,u2,rfl,u4,u5⟩:=hu
   obtain⟨bz,gz,cz,z1,z2,rfl,z4,z5⟩:=hz
   have lu:=dU (o:=0) (n:=x.length) (c:=cu) (bX p2 u5)
   by_cases h6:(6:Int)<(x.length:Int)
   ·have bad:=bad (by unfold jH;rw[pZ,he'];cases zA g<;>first | rfl | exact if_neg (by omega)) H2 (by omega)
    simp only[iE,List.getElem?_cons_zero,List.getElem?_cons_succ,f1,f2,h6,lu,Option.isSome_none,Option.isSome_some,iC,VX,Nat.reduceEqDiff,Nat.reduceAdd,Nat.reduceLeDiff,Nat.reduceLT,Nat.reduceSub]
    exact bad
   ·have Ca:jH b g e=match zA g with | some y=>some ⟨x,y,z'⟩ | none=>none:=by unfold jH;rw[pZ,he'];cases zA g<;>first | rfl | exact if_pos (by omega)
    have s1:bY n 3 (.ptr H2.length 0 0 0) (.agg [.ref bu gu 0 x.length cu,.tree [] .nil,.ref bz gz 0 z'.length cz]) (H2++[cA.row 0 [.agg [.tree [] .nil,.tree [] .nil,.tree [] .nil]] 3 true])=some (H2++[cA.row 0 [.agg [.ref bu gu 0 x.length cu,.tree [] .nil,.ref bz gz 0 z'.length cz]] 3 true]):=by
     rw[cJ (e:=3) (g:=0) (j:=0) gH (by exact Nat.zero_lt_one) hO2.len rfl rfl,AP]
     rfl
    clear f1 f2
    simp only[iE,List.getElem?_cons_zero,List.getElem?_cons_succ,h6,lu,s1,Option.isSome_some,xJ,iC,VX,Nat.reduceEqDiff,Nat.reduceAdd,Nat.reduceLeDiff,Nat.reduceLT,Nat.reduceSub]
    refine aQ (fun(i:Nat) ρ H=>i≤g.length∧zN n H∧(∃v bH,aI H n 0=some ([.agg [.tree [] .nil,.tree [] .nil,.tree [] .nil]],3,true)∧aI H H2.length 0=some ([.agg [.ref bu gu 0 x.length cu,v,.ref bz gz 0 z'.length cz]],3,true)∧zA (g.take i)=some bH∧Nr sV 1 bH (H2.length+1) H.length H v∧aI H bu gu=some (x.map sV,1,true)∧aI H bz gz=some (z'.map sV,1,true))∧ρ 2 = .ptr n 0 0 0∧ρ 8 = .ptr H2.length 0 0 0∧ρ 0=(O9 bZ b g e).cZ 0∧ρ 9=VI i) (fun i=>g.length-i) 0
     ⟨Nat.zero_le _,hO2.app (by simp[mM,dD];omega),⟨.tree [] .nil,[],iA anD,gH,rfl,.inl ⟨rfl,rfl⟩,iA (bX p2 u5),iA z5⟩,rfl,rfl,rfl,rfl⟩ ?_
    rintro i ρ H ⟨hi,hO,⟨v,bH,CB,hr8,Gp,hv,hx,hz⟩,g2,g8,g0,g9⟩
    have hl8:=lF hr8
    by_cases cN:(i:Int)<(g.length:Int)
    ·obtain⟨r,hr⟩:∃r,g[i]? = some r:=⟨_,List.getElem?_eq_getElem (by omega)⟩
     have UA:=hg.2 r (List.mem_of_getElem? hr)
     have a1:=fun H=>aK (f:=aY bZ) (t := .op) (H:=H) (size:=1) (k := .i64) hr rfl
     have wi:IntKind.i64.wrap ((i:Int)+1)=((i+1:Nat):Int):=wrapN (i+1) (by omega) (by omega)
     simp only[vX,O9,g2,g8,g0,g9,cN,a1,iE,List.getElem?_cons_zero,List.getElem?_cons_succ,Nat.zero_add,iC,VX,Nat.reduceEqDiff,Nat.reduceAdd,Nat.reduceLeDiff,Nat.reduceLT,Nat.reduceSub]
     refine tP (n:=n) (rQ r UA.1 UA.2) rfl (VY (aF (jZ _))) hO MO.bU fun w H3 p3 hO3 _ hw => ?_
     have avB:=p3.length_le
     cases ht:pX r with
     |
      none =>
      have hm:zA g=none:=mapM_none ht (List.mem_of_getElem? hr)
      have bad:=bad (by rw[Ca,hm]) H3 hO3.len
      obtain⟨f1,f2⟩:=fin H3 (.tree [] .nil) (.tree [] .nil) (.tree [] .nil) (bX p3 CB) rfl rfl rfl
      simp only[g2,f1,f2,Option.isSome_none,iC,VX,Nat.reduceEqDiff,Nat.reduceAdd,Nat.reduceLeDiff,Nat.reduceLT,Nat.reduceSub]
      exact bad
     |
      some ys =>
      rw[ht] at hw
      obtain⟨b2,g2',c2,k1,k2,rfl,k3,k4⟩:=hw
      have eL:∀K,mB false [.slice none 0 0] 1 [(0,.ref b2 g2' 0 ys.length c2)] K=some (.tree [.ref b2 g2' 0 ys.length c2] (.cl 1),K):=fun K=>iD rfl rfl rfl
      have eS:∀K,cU 1 (.tree [.ref b2 g2' 0 ys.length c2] (.cl 1)) K=some [.ref b2 g2' 0 ys.length c2]:=fun K=>fA rfl rfl
      obtain⟨v',H4,ap,X5,bU,hlen,TR,zO,_⟩:=(hv.bU (cS.pre p3)).snoc (kP:=n) (by omega) (by rw[mZ Gp,List.length_take];omega) ⟨b2,g2',c2,ys⟩ k1 (by simp only;omega) k3 k4
      have akS:=bX p3 hr8
      have akX:=bU _ _ _ (by omega) akS
      have l1:cR false 1 (.ptr H2.length 0 0 1) H3=some v:=by
       rw[cO,akS]
       rfl
      have vJ:=X5.fQ
      have s2:bY n 1 (.ptr H2.length 0 0 1) v' H4=some (H4.set H2.length (.row 0 [.agg [.ref bu gu 0 x.length cu,v',.ref bz gz 0 z'.length cz]] 3 true)):=by
       have:=aaR (lo:=n) (c:=v') 1 akX (by omega) vJ.2.1 vJ.1 (by decide)
       exact this
      have hO5:=(TR n (by omega) hO3).set (b:=H2.length) (g:=0) (e:=3) (es:=[.agg [.ref bu gu 0 x.length cu,v',.ref bz gz 0 z'.length cz]]) (w:=true) (by omega) (by
       have:=X5.own (n:=n) (by omega)
       simp[mM,dD,this];omega)
      have kp:∀ {b' g' y},b'<H2.length→aI H b' g'=some y→aI (H4.set H2.length (.row 0 [.agg [.ref bu gu 0 x.length cu,v',.ref bz gz 0 z'.length cz]] 3 true)) b' g'=some y:=fun pZ h=>cD (by omega) (bU _ _ _ (by omega) (bX p3 h))
      simp only[g8,eL,eS,l1,ap,s2,akS,akX,vD,Nat.zero_add,wi,g9,Option.isSome_some,iC,VX,Nat.reduceEqDiff,Nat.reduceAdd,Nat.reduceLeDiff,Nat.reduceLT,Nat.reduceSub]
      refine⟨i+1,by omega,by omega,hO5,⟨v',bH++[ys],kp (by omega) CB,dM akX,?_,?_,kp (by omega) hx,kp (by omega) hz⟩,by (repeat' apply And.intro)<;>first | rfl | trivial | assumption⟩
      ·rw[lO hr]
       exact Bz Gp ht
      ·rw[List.length_set]
       exact X5.bU (cS.set (by omega))
    ·have oJ:i=g.length:=by omega
     subst oJ
     rw[List.take_length] at Gp
     have akL:zA g=some bH:=Gp
     rw[Ca,akL]
     have vJ:=hv.fQ
     have l1:cR true 3 (.ptr H2.length 0 0 0) H=some (.agg [.ref bu gu 0 x.length cu,v,.ref bz gz 0 z'.length cz]):=by
      rw[cO,hr8]
      rfl
     obtain⟨f1,f2⟩:=fin H (.ref bu gu 0 x.length cu) v (.ref bz gz 0 z'.length cz) CB rfl vJ.1 rfl
     simp only[vX,O9,g0,g2,g8,g9,cN,l1,f1,f2,iE,List.getElem?_cons_zero,List.getElem?_cons_succ,Nat.zero_add,Option.isSome_some,iC,VX,Nat.reduceEqDiff,Nat.reduceAdd,Nat.reduceLeDiff,Nat.reduceLT,Nat.reduceSub]
     have hov:=hv.own (n:=n) (by omega)
     obtain⟨L,YX,hL2⟩:=hO.set (b:=n) (g:=0) (e:=3) (es:=[.agg [.ref bu gu 0 x.length cu,v,.ref bz gz 0 z'.length cz]]) (w:=true) (Nat.le_refl _) (by simp[mM,dD,hov];omega)
     have hlen:n+L.length=H.length:=by
      have:=congrArg List.length YX
      rw[List.length_set,List.length_append,List.length_replicate] at this
      exact this.symm
     refine⟨L,⟨by rw[YX],fun _ _ _ _ _ h=>by rw[YX];exact h⟩,by simp[dD,mM,hov,kE];omega,hL2,_,rfl,⟨_,_,_,rfl,rfl,vJ.1,rfl,fun k hk=>⟨by simp[dD];omega,hv.own (by omega),by simp[dD];omega⟩⟩,fun K hk => ?_⟩
     rw[←YX,hlen] at hk
     have XS:cS (n+1) H.length H K:=fun b' g' y h1 h2 h3=>hk b' g' y (by omega) h2 (cD (by omega) h3)
     exact S4 (s:=⟨x,bH,z'⟩) (l1:=n+1) (h1:=H.length) (l2:=H2.length+1) (h2:=H.length) (l3:=n+1) (h3:=H.length) (.inr ⟨bu,gu,cu,by omega,by omega,rfl,u4,XS _ _ _ (by omega) (by omega) hx⟩) ((hv.rg).bU (XS.sub (by omega) (Nat.le_refl _))) (.inr ⟨bz,gz,cz,by omega,by omega,rfl,z4,XS _ _ _ (by omega) (by omega) hz⟩)
end Go.PM
namespace Go.PM
open Go.Lib
theorem Qa {qs:List Rat} (h:iL qs=true):1≤qs.length:=by
 cases qs with
 |
  nil =>
  unfold iL at h
  simp[tI] at h
 | cons q qs=>simp
set_option maxHeartbeats 2000000 in
theorem Ga (ws rs:List ByteArray) (SF:ws.length≤1000000000∧∀s∈ws,s.size≤1000000000) (Aa:rs.length≤1000000000∧∀s∈rs,s.size≤1000000000):FC 63 [dT ws,dT rs] (R0 (OK ((mH ws rs).getD tE)) (mH ws rs).isSome):=by
 refine FC.Kt ⟨true,false⟩ Gi (Nat.le_of_ble_eq_true rfl) fun n => ?_
 have e1:=JM rs Aa.1 Aa.2
 have e2:=DQ ws SF.1 SF.2
 obtain⟨ajG,Mu⟩:=ZE rs
 have f1:bY n 3 (.ptr n 0 0 0) (.agg [.tree [] .nil,.tree [] .nil,.tree [] .nil]) (List.replicate n cA.dead++[Al])=some (List.replicate n cA.dead++[Al]):=by
  rw[cJ xF (by exact Nat.zero_lt_one) (Nat.le_refl _) rfl rfl,DD]
  rfl
 have f2:cR true 3 (.ptr n 0 0 0) (List.replicate n cA.dead++[Al])=some (.agg [.tree [] .nil,.tree [] .nil,.tree [] .nil]):=by
  rw[cO,xF]
  rfl
 have bad:mH ws rs=none→∃L,A7 (List.replicate n cA.dead++[Al]) (List.replicate n .dead++L)∧dD n (.dS [.agg [.tree [] .nil,.tree [] .nil,.tree [] .nil],.sc (.bool false)])=true∧dE n L=true∧R0 (OK ((mH ws rs).getD tE)) (mH ws rs).isSome n (.dS [.agg [.tree [] .nil,.tree [] .nil,.tree [] .nil],.sc (.bool false)]) L:=fun Mu=>by
  rw[Mu]
  exact⟨_,yH (by simp),rfl,yF,_,rfl,RM⟩
 cases BQ:BY (nE rs) with
 |
  false =>
  rw[BQ] at e1
  have bad:=bad (by
   unfold mH
   cases h1:pW ws with
   | none=>rfl
   |
    some w =>
    cases h2:Hc rs with
    | none=>rfl
    |
     some r =>
     have:=Mu BQ r h2
     have hp:=Qa (E6 h1).2
     exact if_neg (fun h=>this ⟨by omega,h.2⟩))
  generalize G2 (nE rs)=u at *
  cases h2:nE ws with
  |
   none =>
   rw[h2,Fm] at e2
   simp only[iT,gA,e1,e2,f1,f2,wF,List.length_replicate,iC,VX,Nat.reduceEqDiff,Nat.reduceAdd,Nat.reduceLeDiff,Nat.reduceLT,Nat.reduceSub]
   exact bad
  |
   some w =>
   rw[h2,FB] at e2
   simp only[iT,gA,e1,e2,f1,f2,wF,List.length_replicate,iC,VX,Nat.reduceEqDiff,Nat.reduceAdd,Nat.reduceLeDiff,Nat.reduceLT,Nat.reduceSub]
   exact bad
 |
  true =>
  rw[BQ] at e1
  obtain⟨r,SB,jT,DF,hl6⟩:=ajG BQ
  rw[SB] at e1
  simp only[G2] at e1
  cases h2:nE ws with
  |
   none =>
   rw[h2,Fm] at e2
   have bad:=bad (by unfold mH;rw[IZ h2])
   simp only[iT,gA,e1,e2,f1,f2,wF,List.length_replicate,iC,VX,Nat.reduceEqDiff,Nat.reduceAdd,Nat.reduceLeDiff,Nat.reduceLT,Nat.reduceSub]
   exact bad
  |
   some w =>
   rw[h2,FB] at e2
   obtain⟨hw4,hwl,_⟩:=yG h2
   have e3:=G5 w hw4 hwl
   by_cases hl:(w.length:Int)=(r.length:Int)
   ·cases hww:iL w with
    |
     false =>
     rw[hww] at e3
     have bad:=bad (by unfold mH;rw[zY h2,if_neg (by simp[hww])])
     simp only[iT,gA,e1,e2,e3,f1,f2,hl,ne_eq,not_true_eq_false,decide_false,wF,List.length_replicate,iC,VX,Nat.reduceEqDiff,Nat.reduceAdd,Nat.reduceLeDiff,Nat.reduceLT,Nat.reduceSub]
     exact bad
    |
     true =>
     rw[hww] at e3
     have Ca:mH ws rs=jH w (List.replicate r.length (List.replicate r.length 0)) r:=by unfold mH;rw[zY h2,if_pos hww,jT];exact if_pos (by omega)
     rw[Ca]
     clear bad f1 f2
     simp only[iT,gA,e1,e2,e3,hl,ne_eq,not_true_eq_false,decide_false,wF,List.length_replicate,iC,VX,Nat.reduceEqDiff,Nat.reduceAdd,Nat.reduceLeDiff,Nat.reduceLT,Nat.reduceSub]
     refine xK rfl (JU (H:=List.replicate n cA.dead++[Al]) r.length (by omega) (by simp)) fun z L2 hz => ?_
     obtain⟨b,g,c,rows,rfl,hc,hM,Th⟩:=hz
     have D1:rows.length=r.length:=by have:=congrArg List.length Th;simpa using this
     rw[List.length_replicate] at hc
     have CB:=iA (L:=L2) (xF (n:=n))
     have hln:n≤(List.replicate n cA.dead++[Al]++L2).length:=by simp
     generalize List.replicate n cA.dead++[Al]++L2=H2 at *
     have s1:bY n 3 (.ptr H2.length 0 0 0) (.agg [aY bZ w,.ref b g 0 r.length c,aY bZ r]) (H2++[cA.row 0 [.agg [.tree [] .nil,.tree [] .nil,.tree [] .nil]] 3 true])=some (H2++[cA.row 0 [.agg [aY bZ w,.ref b g 0 r.length c,aY bZ r]] 3 true]):=by
      rw[cJ (e:=3) (g:=0) (j:=0) gH (by exact Nat.zero_lt_one) hln rfl rfl,AP]
      rfl
     simp only[List.length_replicate,s1,iC,VX,Nat.reduceEqDiff,Nat.reduceAdd,Nat.reduceLeDiff,Nat.reduceLT,Nat.reduceSub]
     have hM3:=hM.pre (List.prefix_append H2 [.row 0 [.agg [aY bZ w,.ref b g 0 r.length c,aY bZ r]] 3 true])
     have W4:PM.fz 7 (H2++[cA.row 0 [.agg [aY bZ w,.ref b g 0 r.length c,aY bZ r]] 3 true]) (.agg [aY bZ w,.ref b g 0 r.length c,aY bZ r])=some (O9 bZ w (List.replicate r.length (List.replicate r.length 0)) r):=by
      refine J5 (d:=5) ?_
      have h2:=hM3.fz (d:=3) (c:=c) (by omega) yI
      rw[Th,D1] at h2
      rw[List.mapM_cons,aJ (jZ w),List.mapM_cons,h2,List.mapM_cons,aJ (jZ r)]
      rfl
     have hfp:=ahC (o:=0) (j:=0) gH rfl W4
     obtain⟨IQ,Wo⟩:=Ib jT
     have hto:=Mh w (List.replicate r.length (List.replicate r.length 0)) r ⟨by omega,fun q h=>by have:=hw4 q h;omega⟩ ⟨by rw[List.length_replicate];omega,fun x hx=>by
      rw[List.eq_of_mem_replicate hx]
      exact⟨by rw[List.length_replicate];omega,Lt (by decide)⟩⟩ ⟨by omega,fun q h=>by have:=(Wo q h).1;omega⟩
     refine R6 (P:=OK ((jH w (List.replicate r.length (List.replicate r.length 0)) r).getD tE)) OK.bU OK.wide (fun h n hn=>h.ag n hn) hto rfl (VY hfp) (iA CB) (Nat.le_refl _) fun v H2 H3 s1 s2 s3 => ?_
     simp only[s1,s2,iC,VX,Nat.reduceEqDiff,Nat.reduceAdd,Nat.reduceLeDiff,Nat.reduceLT,Nat.reduceSub]
     exact s3
   ·have bad:=bad (by
     unfold mH
     rw[zY h2,jT]
     split<;>first | rfl | exact if_neg (by omega) | skip
     rename_i h3 h4
     cases h4
     split at h3
     ·cases h3
      exact if_neg (by omega)
     ·cases h3)
    simp only[iT,gA,e1,e2,f1,f2,hl,ne_eq,not_false_eq_true,decide_true,wF,List.length_replicate,iC,VX,Nat.reduceEqDiff,Nat.reduceAdd,Nat.reduceLeDiff,Nat.reduceLT,Nat.reduceSub]
    exact bad
end Go.PM
namespace Go.PM
def gY:aD:=(LS [LO 4 (.mv LF)] (LS [LO 5 (.mv (LI 1000000))] (LS [LM 17 0,LM 18 5,LO 19 (.call 41 [(LT 17),(LT 18)]),LM 5 19] (.seq (LS [LM 20 5,LO 21 (.bin .lss (LT 20) (LI 0))] (.cond (LT 21) (LS [LO 4 (.mv LG)] .ret) .skip)) (LS [LM 22 1,LM 23 5,LO 24 (.call 41 [(LT 22),(LT 23)]),LM 5 24] (.seq (LS [LM 25 5,LO 26 (.bin .lss (LT 25) (LI 0))] (.cond (LT 26) (LS [LO 4 (.mv LG)] .ret) .skip)) (LS [LM 28 0,LO 29 (.call 43 [(LT 28),LF]),LM 30 1,LO 31 (.call 43 [(LT 30),LF]),LO 32 (.call 63 [(LT 29),(LT 31)]),LM 27 32,LO 33 (LX 27 0),LO 34 (LX 27 1),LO 6 (.new [(.slice none 0 0),(.slice none 0 0),(.slice none 0 0)]),LN (.store 3 (LT 6) (LT 33)),LM 7 34] (LS [LM 35 0,LO 36 (.call 43 [(LT 35),LF]),LM 8 36] (LS [LM 37 1,LO 38 (.call 43 [(LT 37),LF]),LM 9 38] (LS [LM 40 8,LM 41 9,LO 42 (.call 64 [(LT 40),(LT 41)]),LM 39 42,LO 43 (LX 39 0),LO 44 (LX 39 1),LO 10 (.new [(.slice none 0 0),(.slice none 0 0),(.slice none 0 0)]),LN (.store 3 (LT 10) (LT 43)),LM 11 44] (.seq (LS [LO 45 (LK 10),LO 46 (LK 6),LO 47 (.call 22 [(LT 45),(LT 46)]),LO 48 (.un .not (LT 47)),LM 49 48,LZ 49 50 (.mv (LT 11)),LZ 49 51 (.mv (LT 7)),LZ 49 52 (.eqb true (LT 50) (LT 51)),LO 53 (.pick (LT 49) LG (LT 52))] (.cond (LT 53) (LS [LO 4 (.mv LF)] .ret) .skip)) (.seq (LS [LM 54 8,LM 55 0,LO 56 (.call 43 [(LT 55),LF]),LO 57 (.call 45 [(LT 54),(LT 56)]),LO 58 (.un .not (LT 57))] (.cond (LT 58) (LS [LO 4 (.mv LF)] .ret) .skip)) (.seq (LS [LM 59 9,LM 60 1,LO 61 (.call 43 [(LT 60),LF]),LO 62 (.call 45 [(LT 59),(LT 61)]),LO 63 (.un .not (LT 62))] (.cond (LT 63) (LS [LO 4 (.mv LF)] .ret) .skip)) (LS [LO 12 (.mv (LI 101))] (LS [LM 64 8,LM 65 12,LO 66 (.call 50 [(LT 64),(LT 65)]),LM 12 66] (LS [LM 67 9,LM 68 12,LO 69 (.call 50 [(LT 67),(LT 68)]),LM 12 69] (.seq (LS [LM 70 12,LO 71 (.bin .lss (LT 70) (LI 0)),LM 72 71,LZ 72 73 (LK 10),LZ 72 74 (LK 6),LZ 72 75 (.call 22 [(LT 73),(LT 74)]),LZ 72 76 (.un .not (LT 75)),LO 77 (.pick (LT 72) LG (LT 76)),LM 78 77,LZ 78 79 (.mv (LT 11)),LZ 78 80 (.mv (LT 7)),LZ 78 81 (.eqb true (LT 79) (LT 80)),LO 82 (.pick (LT 78) LG (LT 81))] (.cond (LT 82) (LS [LO 4 (.mv LF)] .ret) .skip)) (LS [LO 13 (.mv (LI 101))] (LS [LO 83 (LK 10),LM 84 13,LO 85 (.call 23 [(LT 83),(LT 84)]),LM 13 85] (LS [LO 14 (.mv (LI 101))] (LS [LO 86 (LK 10),LM 87 14,LO 88 (.call 24 [(LT 86),(LT 87)]),LM 14 88] (.seq (LS [LM 89 14,LO 90 (.bin .lss (LT 89) (LI 0))] (.cond (LT 90) (LS [LO 4 (.mv LF)] .ret) .skip)) (.seq (LS [LM 91 14,LM 92 13,LO 93 (.bin .neq (LT 91) (LT 92))] (.cond (LT 93) (LS [LO 4 (.mv LF)] .ret) .skip)) (LS [LM 95 0,LO 96 (.call 43 [(LT 95),LG]),LM 97 1,LO 98 (.call 43 [(LT 97),LG]),LO 99 (.call 64 [(LT 96),(LT 98)]),LM 94 99,LO 100 (LX 94 0),LO 101 (LX 94 1),LO 15 (.new [(.slice none 0 0),(.slice none 0 0),(.slice none 0 0)]),LN (.store 3 (LT 15) (LT 100)),LM 16 101] (.seq (LS [LO 102 (LK 15),LO 103 (LK 6),LO 104 (.call 22 [(LT 102),(LT 103)]),LO 105 (.un .not (LT 104)),LM 106 105,LZ 106 107 (.mv (LT 16)),LZ 106 108 (.mv (LT 7)),LZ 106 109 (.eqb true (LT 107) (LT 108)),LO 110 (.pick (LT 106) LG (LT 109))] (.cond (LT 110) (LS [LO 4 (.mv LF)] .ret) .skip)) (LS [LO 14 (.mv (LI 101))] (LS [LO 111 (LK 10),LM 112 14,LO 113 (.call 24 [(LT 111),(LT 112)]),LM 14 113] (.seq (LS [LM 114 14,LO 115 (.bin .lss (LT 114) (LI 0))] (.cond (LT 115) (LS [LO 4 (.mv LF)] .ret) .skip)) (.seq (LS [LM 116 14,LM 117 13,LO 118 (.bin .neq (LT 116) (LT 117))] (.cond (LT 118) (LS [LO 4 (.mv LF)] .ret) .skip)) (LS [LO 4 (.mv LG)] .ret))))))))))))))))))))))))))))))
def jB:aP:=⟨119,[(.tmp 4)],gY⟩
theorem Az:gB 12=some jB:=by kernel_rfl
end Go.PM
namespace Go.PM
structure Ab (s:DT):Prop where
 b:s.b.length≤100
 g:s.g.length≤100
 r:∀x∈s.g,x.length≤100
 e:s.e.length≤100
theorem FT {β:Type}:∀ {xs:List (List β)} {n:Nat},(∀x∈xs,x.length≤n)→dA xs≤xs.length*n
 | [],n,_=>by simp[dA]
 |
  x::xs,n,h=>by
  have h1:=h x List.mem_cons_self
  have h2:=FT (xs:=xs) (n:=n) fun y hy=>h y (List.mem_cons_of_mem _ hy)
  have e:dA (x::xs)=x.length+dA xs:=by simp[dA]
  rw[e,List.length_cons,Nat.add_mul,Nat.one_mul]
  omega
theorem Ab.n {s:DT} (h:Ab s):X3 s≤10200:=by
 have h1:=FT h.r
 have h2:s.g.length*100≤100*100:=Nat.mul_le_mul_right _ h.g
 have h3:=h.b
 have h4:=h.e
 unfold X3
 omega
theorem Yo {lo:Nat} {s:DT} {H:aA} {v w:VV} {K:VV→aA→Prop} (hs:Ab s) (hv:PM.fz depth H v=some (Rn s)) (hw:PM.fz depth H w=some (Rn s)):cQ 22 [v,w] lo H K=K (VB true) H:=by
 have h:=Hk s s (by have:=hs.b;omega) (by have:=hs.g;omega) (fun x hx=>by have:=hs.r x hx;omega) (by have:=hs.e;omega)
 rw[decide_eq_true ⟨rfl,rfl,rfl⟩] at h
 exact TC.flat h rfl (Db (yE _) (yE _)) (YM hv hw) rfl _ _
theorem UQ {lo:Nat} {s:DT} {H:aA} {v:VV} {K:VV→aA→Prop} (hs:Ab s) (hv:PM.fz depth H v=some (Rn (svT 101 s))):cQ 24 [v,VI 101] lo H K=K (VI (101+X3 s)) H:=by
 have h:=FO 101 s (by omega) (by have:=hs.g;omega) (by have:=hs.n;omega)
 exact TC.flat h rfl (Db (yE _) rfl) (YM hv (aF rfl)) rfl _ _
def Ag3 (v:VV):Prop:=∃a b c,v = .agg [a,b,c]∧bI a=true∧bI b=true∧bI c=true
theorem IX.ag3 {s:DT} {lo hi:Nat} {H:aA} {v:VV} (h:IX s lo hi H v):Ag3 v:=by
 obtain⟨a,b,c,h1,h2,h3,h4,_⟩:=h.own (n:=0) (Nat.zero_le _)
 exact⟨a,b,c,h1,h2,h3,h4⟩
theorem OK.ag3 {s:DT} {lo hi:Nat} {H:aA} {v:VV} (h:OK s lo hi H v):Ag3 v:=by
 obtain⟨⟨a,b,c,h1,h2,h3,h4,_⟩,_⟩:=h
 exact⟨a,b,c,h1,h2,h3,h4⟩
theorem TJ {lo:Nat} {H:aA} {v:VV} (h:Ag3 v) (eW:lo≤H.length):bY lo 3 (.ptr H.length 0 0 0) v (H++[.row 0 [.agg [.tree [] .nil,.tree [] .nil,.tree [] .nil]] 3 true])=some (H++[.row 0 [v] 3 true]):=by
 obtain⟨a,b,c,rfl,h1,h2,h3⟩:=h
 rw[cJ (e:=3) (g:=0) (j:=0) gH (by exact Nat.zero_lt_one) eW rfl (by simp[aB,h1,h2,h3]),AP]
 rfl
theorem Jp {b:Nat} {H:aA} {v:VV} (h:Ag3 v) (hr:aI H b 0=some ([v],3,true)):cR true 3 (.ptr b 0 0 0) H=some v:=by
 obtain⟨a,b,c,rfl,_⟩:=h
 rw[cO,hr]
 rfl
theorem TN {m:List (List Rat)} {y:List (List ByteArray)} {B:Nat} (h:zA m=some y) (hB:∀r∈m,r.length≤B):y.length=m.length∧∀x∈y,x.length≤B :=
 ⟨mZ h,fun x hx=>by
  have key:∀ {m:List (List Rat)} {y:List (List ByteArray)},m.mapM pX=some y→(∀r∈m,r.length≤B)→∀x∈y,x.length≤B:=by
   intro m
   induction m with
   | nil=>intro y h _ x hx;cases h;cases hx
   |
    cons r m ih =>
    intro y h hB x hx
    obtain⟨z,zs,h1,h2,rfl⟩:=jV h
    rcases List.mem_cons.1 hx with rfl | hx
    ·rw[D7 h1];exact hB r List.mem_cons_self
    ·exact ih h2 (fun r hr=>hB r (List.mem_cons_of_mem _ hr)) x hx
  exact key h hB x hx⟩
theorem Ry {b:List Rat} {g:List (List Rat)} {e:List Rat} (hb:b.length≤100) (hg:g.length≤100) (hr:∀r∈g,r.length≤100) (he:e.length≤100):Ab ((jH b g e).getD tE):=by
 have h0:Ab tE:=⟨by decide,by decide,(fun x hx=>by cases hx),by decide⟩
 unfold jH
 split
 ·rename_i x y z h1 h2 h3
  split
  ·obtain⟨k1,k2⟩:=TN h2 hr
   exact⟨by rw[Option.getD_some,D7 h1];exact hb,by rw[Option.getD_some,k1];exact hg,k2,by rw[Option.getD_some,D7 h3];exact he⟩
  ·exact h0
 ·exact h0
theorem Rm (ws rs:List ByteArray):Ab ((mH ws rs).getD tE):=by
 have h0:Ab tE:=⟨by decide,by decide,(fun x hx=>by cases hx),by decide⟩
 unfold mH
 split
 ·split
  ·rename_i w r _ _ hl
   exact Ry (by omega) (by rw[List.length_replicate];omega) (fun y hy=>by rw[List.eq_of_mem_replicate hy,List.length_replicate];omega) (by omega)
  ·exact h0
 ·exact h0
end Go.PM
namespace Go.PM
set_option maxHeartbeats 4000000 in
theorem Au (s0:List ByteArray) (s1:List ByteArray) (V8:okS s0) (hx1:okS s1):TC 12 [dT s0,dT s1] (.sc (.bool true)):=by
 refine TC.walk ⟨true,false⟩ Az rfl (Nat.le_of_ble_eq_true rfl) (Db (dN _) (dN _)) rfl ?_
 have WB:=Bx s0 (1000000) V8 (by omega)
 by_cases ahJ:Tu s0 (1000000)<0
 ·rw[YT ahJ (by omega)] at WB
  simp only[jB,gY,WB,Int.reduceNeg,Int.reduceLT,iC,VX,Nat.reduceEqDiff,Nat.reduceAdd,Nat.reduceLeDiff,Nat.reduceLT,Nat.reduceSub]
  exact aF rfl
 have anN:=Zs (xs:=s0) (l:=1000000) (by omega)
 have aAT:=anN.1
 have ahE:=Bx s1 (Tu s0 (1000000)) hx1 (by omega)
 by_cases apY:Tu s1 (Tu s0 (1000000))<0
 ·rw[YT apY (by omega)] at ahE
  simp only[jB,gY,WB,ahJ,ahE,Int.reduceNeg,Int.reduceLT,iC,VX,Nat.reduceEqDiff,Nat.reduceAdd,Nat.reduceLeDiff,Nat.reduceLT,Nat.reduceSub]
  exact aF rfl
 have adJ:=Zs (xs:=s1) (l:=Tu s0 (1000000)) (by omega)
 have aAV:=adJ.1
 obtain⟨_,XZ,hs0⟩:=anN
 have SF:s0.length≤1000000000∧∀s∈s0,s.size≤1000000000:=⟨by omega,fun s h=>by have:=hs0 s h;omega⟩
 have t0':=fun b=>Bf s0 b (by omega)
 obtain⟨_,hn1,Mn⟩:=adJ
 have Aa:s1.length≤1000000000∧∀s∈s1,s.size≤1000000000:=⟨by omega,fun s h=>by have:=Mn s h;omega⟩
 have t1':=fun b=>Bf s1 b (by omega)
 have cs:=Ga s0 s1 SF Aa
 have ci:=F3 s0 s1 SF Aa
 have PU:=Rm s0 s1
 have hsn:=PU.n
 generalize Ca:(mH s0 s1).getD tE=val at *
 generalize (mH s0 s1).isSome=ok at *
 simp only[jB,gY,WB,ahJ,ahE,apY,iC,VX,Nat.reduceEqDiff,Nat.reduceAdd,Nat.reduceLeDiff,Nat.reduceLT,Nat.reduceSub]
 refine Pe (t0' false) rfl AD (fun _=>rfl) fun r1 H1 p1 s1' => ?_
 simp only[iC,VX,Nat.reduceEqDiff,Nat.reduceAdd,Nat.reduceLeDiff,Nat.reduceLT,Nat.reduceSub]
 refine Pe (t1' false) rfl AD (fun _=>rfl) fun r2 H2 p2 s2' => ?_
 simp only[iC,VX,Nat.reduceEqDiff,Nat.reduceAdd,Nat.reduceLeDiff,Nat.reduceLT,Nat.reduceSub]
 refine Kk cs rfl (YM (s1'.pre p2).now (s2'.pre (List.prefix_refl _)).now) OK.bU fun v3 H3 p3 v3' => ?_
 simp only[iC,VX,Nat.reduceEqDiff,Nat.reduceAdd,Nat.reduceLeDiff,Nat.reduceLT,Nat.reduceSub]
 have w3:=TJ (lo:=0) (H:=H3) v3'.ag3 (Nat.zero_le _)
 simp only[w3,iC,VX,Nat.reduceEqDiff,Nat.reduceAdd,Nat.reduceLeDiff,Nat.reduceLT,Nat.reduceSub]
 have p4:=List.prefix_append H3 [.row 0 [v3] 3 true]
 have q3:aI (H3++[.row 0 [v3] 3 true]) H3.length 0=some ([v3],3,true):=gH
 generalize eh4:H3++[.row 0 [v3] 3 true]=H4 at *
 refine Ps (t0' false) rfl AD (fun _=>rfl) fun b5 H5 p5 lo5 r5 => ?_
 simp only[iC,VX,Nat.reduceEqDiff,Nat.reduceAdd,Nat.reduceLeDiff,Nat.reduceLT,Nat.reduceSub]
 refine Ps (t1' false) rfl AD (fun _=>rfl) fun b6 H6 p6 lo6 r6 => ?_
 simp only[iC,VX,Nat.reduceEqDiff,Nat.reduceAdd,Nat.reduceLeDiff,Nat.reduceLT,Nat.reduceSub]
 refine Kk ci rfl (YM (Ij (fun _=>rfl) (bX p6 r5)) (Ij (fun _=>rfl) (bX (List.prefix_refl _) r6))) IX.bU fun v7 H7 p7 v7' => ?_
 simp only[iC,VX,Nat.reduceEqDiff,Nat.reduceAdd,Nat.reduceLeDiff,Nat.reduceLT,Nat.reduceSub]
 have w7:=TJ (lo:=0) (H:=H7) v7'.ag3 (Nat.zero_le _)
 simp only[w7,iC,VX,Nat.reduceEqDiff,Nat.reduceAdd,Nat.reduceLeDiff,Nat.reduceLT,Nat.reduceSub]
 have p8:=List.prefix_append H7 [.row 0 [v7] 3 true]
 have q7:aI (H7++[.row 0 [v7] 3 true]) H7.length 0=some ([v7],3,true):=gH
 generalize eh8:H7++[.row 0 [v7] 3 true]=H8 at *
 have W8:=v3'.bU (cS.pre ((((p4.trans p5).trans p6).trans p7).trans p8))
 have G8:=v7'.bU (cS.pre p8)
 have cW8:=bX (((p5.trans p6).trans p7).trans p8) q3
 have cG8:=q7
 have aW:=v3'.ag3
 have aG:=v7'.ag3
 have le3:=p3.length_le
 have le4:=p4.length_le
 have le5:=p5.length_le
 have le6:=p6.length_le
 have le7:=p7.length_le
 have le8:=p8.length_le
 have bW:=lF q3
 have bG:=lF q7
 have kb:MF true (Value.bool ok) (Value.bool ok)=some (.bool false):=Yb ok
 simp only[Jp aG cG8,Jp aW cW8,Yo PU G8.fz W8.2.now,kb,iC,VX,Nat.reduceEqDiff,Nat.reduceAdd,Nat.reduceLeDiff,Nat.reduceLT,Nat.reduceSub]
 refine Ps (t0' false) rfl AD (fun _=>rfl) fun b9 H9 p9 lo9 r9 => ?_
 simp only[iC,VX,Nat.reduceEqDiff,Nat.reduceAdd,Nat.reduceLeDiff,Nat.reduceLT,Nat.reduceSub]
 refine uS s0 (by omega) (bX (((p6.trans p7).trans p8).trans p9) r5) r9 ?_
 simp only[iC,VX,Nat.reduceEqDiff,Nat.reduceAdd,Nat.reduceLeDiff,Nat.reduceLT,Nat.reduceSub]
 refine Ps (t1' false) rfl AD (fun _=>rfl) fun b10 H10 p10 aBv r10 => ?_
 simp only[iC,VX,Nat.reduceEqDiff,Nat.reduceAdd,Nat.reduceLeDiff,Nat.reduceLT,Nat.reduceSub]
 refine uS s1 (by omega) (bX (((p7.trans p8).trans p9).trans p10) r6) r10 ?_
 simp only[iC,VX,Nat.reduceEqDiff,Nat.reduceAdd,Nat.reduceLeDiff,Nat.reduceLT,Nat.reduceSub]
 have W10:=W8.bU (cS.pre (p9.trans p10))
 have G10:=G8.bU (cS.pre (p9.trans p10))
 have awW:=bX (p9.trans p10) cW8
 have axE:=bX (p9.trans p10) cG8
 have bl5:=lF r5
 have bl6:=lF r6
 refine Nk (bX ((((p6.trans p7).trans p8).trans p9).trans p10) r5) (Nat.zero_le _) (by omega) (by omega) fun x0 => ?_
 simp only[iC,VX,Nat.reduceEqDiff,Nat.reduceAdd,Nat.reduceLeDiff,Nat.reduceLT,Nat.reduceSub]
 refine Nk (cD (by omega) (bX (((p7.trans p8).trans p9).trans p10) r6)) (Nat.zero_le _) (by omega) (by omega) fun x1 => ?_
 have W11:=((W10.bU (cS.set (x:=x0) (b:=b5) (by omega))).bU (cS.set (x:=x1) (b:=b6) (by omega)))
 have G11:=((G10.bU (cS.set (x:=x0) (b:=b5) (by omega))).bU (cS.set (x:=x1) (b:=b6) (by omega)))
 have apA:=(cD (x:=x1) (b':=b6) (by omega) (cD (x:=x0) (b':=b5) (by omega) awW))
 have anC:=(cD (x:=x1) (b':=b6) (by omega) (cD (x:=x0) (b':=b5) (by omega) axE))
 have SE:¬(101+(s0.length:Int)+(s1.length:Int))<0:=by omega
 simp only[SE,Jp aG anC,Jp aW apA,Yo PU G11.fz W11.2.now,kb,iC,VX,Nat.reduceEqDiff,Nat.reduceAdd,Nat.reduceLeDiff,Nat.reduceLT,Nat.reduceSub]
 refine YF G11 (Nat.zero_le _) (by omega) (by have:=PU.g;omega) (by omega) fun M1 ml mG mk => ?_
 have k0:¬(101+(X3 val:Int))<0:=by omega
 have k1:¬((101+(X3 val:Int))≠(101+(X3 val:Int))):=fun h=>h rfl
 have mW:=W11.bU (H':=M1) fun b g x h1 h2 h3=>mk b g x (by omega) h3
 have mcW:=mk _ _ _ (by omega) apA
 have mcG:=mk _ _ _ (by omega) anC
 simp only[Jp aG mcG,UQ PU mG.fz,k0,ne_eq,not_true_eq_false,decide_false,iC,VX,Nat.reduceEqDiff,Nat.reduceAdd,Nat.reduceLeDiff,Nat.reduceLT,Nat.reduceSub]
 generalize M1=H12 at *
 refine Pe (t0' true) rfl AD (fun _=>rfl) fun r13 H13 p13 axG => ?_
 simp only[iC,VX,Nat.reduceEqDiff,Nat.reduceAdd,Nat.reduceLeDiff,Nat.reduceLT,Nat.reduceSub]
 refine Pe (t1' true) rfl AD (fun _=>rfl) fun r14 H14 p14 avC => ?_
 simp only[iC,VX,Nat.reduceEqDiff,Nat.reduceAdd,Nat.reduceLeDiff,Nat.reduceLT,Nat.reduceSub]
 refine Kk ci rfl (YM (axG.pre p14).now (avC.pre (List.prefix_refl _)).now) IX.bU fun v15 H15 p15 ahZ => ?_
 simp only[iC,VX,Nat.reduceEqDiff,Nat.reduceAdd,Nat.reduceLeDiff,Nat.reduceLT,Nat.reduceSub]
 have w15:=TJ (lo:=0) (H:=H15) ahZ.ag3 (Nat.zero_le _)
 simp only[w15,iC,VX,Nat.reduceEqDiff,Nat.reduceAdd,Nat.reduceLeDiff,Nat.reduceLT,Nat.reduceSub]
 have p16:=List.prefix_append H15 [.row 0 [v15] 3 true]
 have q15:aI (H15++[.row 0 [v15] 3 true]) H15.length 0=some ([v15],3,true):=gH
 generalize aCs:H15++[.row 0 [v15] 3 true]=H16 at *
 have aX:=ahZ.ag3
 have X1:=ahZ.bU (cS.pre p16)
 have cX:=q15
 have nW:=mW.bU (cS.pre (((p13.trans p14).trans p15).trans p16))
 have nG:=mG.bU (cS.pre (((p13.trans p14).trans p15).trans p16))
 have ncW:=bX (((p13.trans p14).trans p15).trans p16) mcW
 have ncG:=bX (((p13.trans p14).trans p15).trans p16) mcG
 simp only[Jp aX cX,Jp aW ncW,Jp aG ncG,Yo PU X1.fz nW.2.now,kb,UQ PU nG.fz,k0,ne_eq,not_true_eq_false,decide_false,iC,VX,Nat.reduceEqDiff,Nat.reduceAdd,Nat.reduceLeDiff,Nat.reduceLT,Nat.reduceSub]
 exact aF rfl
end Go.PM
namespace Go.PM
open Go.Proofs
theorem EZ {P:Program} {w:World} {name:String} {d:DataW Unit}:∀ {l:List (String×DataW Unit)} {ps:List MemPlace},DataW.LaidVars P w l ps→(name,d)∈l →
  ∃g t cs fuel p,P.globalNamed name=some g∧(P.globals[g]?).map (·.type)=some t∧w.var? P name=some cs∧DataW.trod (fun _=>()) P w 0 (fun _=>true) false fuel t cs.toList=some (d,p)
 | [],_,_,hm=>by cases hm
 |
  (n,e)::r,ps,h,hm=>by
  obtain⟨g,t,cs,fuel,p,q,h1,h2,h3,h4,h5,_⟩:=h
  rcases List.mem_cons.1 hm with he | hm
  ·cases he
   exact⟨g,t,cs,fuel,p,h1,h2,h3,h4⟩
  ·exact EZ h5 hm
theorem Mj {W:World} {l:List (String×DataW Unit)} (hl:laidMetH Tryz.prog l W) (hp:(l.all fun x=>x.2.handleName?.isNone)=true) (hm:("internal/strconv.uint64pow10",Lib.tabData .u64 Lib.pow10Tab)∈l)
  {t e:TypeId} {n:Nat} (hty:(Tryz.prog.globals[1]?).map (·.type)=some t) (ht:Tryz.prog.underlying t=some (.array n e)) (he:Tryz.prog.underlying e=some (.int .u64)) (hce:Tryz.prog.cellsOf e=1) (hct:Tryz.prog.cellsOf t=n):OR W:=by
 rw[MakeChecks.laidMetH_plain _ _ _ hp] at hl
 obtain⟨ps,h1,_⟩:=hl
 obtain⟨g',t',cs,fuel,p,Rq,ht',Zq,hd⟩:=EZ h1 hm
 have hg:Tryz.prog.globalNamed "internal/strconv.uint64pow10"=some 1:=by kernel_rfl
 obtain rfl:=Option.some.inj (hg.symm.trans Rq)
 obtain rfl:=Option.some.inj (hty.symm.trans ht')
 have Nv:=Lib.cells_of_tab ht he hce hct hd
 intro x hx
 have Rr:x=(1,(Lib.pow10Tab.map fun z=>Value.int .u64 z).toArray):=by simpa[adY] using hx
 subst Rr
 unfold World.var? at Zq
 rw[hg,Option.bind_some] at Zq
 split at Zq
 ·rename_i AK e' fz' hh
  cases Zq
  refine⟨e',fz',?_⟩
  rw[←Nv]
  simpa using hh
 ·cases Zq
end Go.PM