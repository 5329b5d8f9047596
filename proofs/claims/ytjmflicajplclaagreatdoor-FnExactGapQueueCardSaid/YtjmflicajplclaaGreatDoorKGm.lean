/- Texts of a claim, in one: part 13. -/
import Derived.KernelRfl
import Derived.Lib.LaidTab
import Derived.LaidLaws
import Derived.LaidMore
import Derived.MakeChecks
import Derived.Handed
import Derived.Test.YtjmflicajplclaaGreatDoorKGl
set_option linter.unusedSimpArgs false
set_option linter.unusedVariables false
namespace Go.PM
open Go.Lib
set_option maxHeartbeats 1000000 in
theorem Gy (qs:List Rat) (hn:qs.length≤1000000) (hb:∀q∈qs,aZ q≤1099511627776):FC 181 [aO bZ qs] (Xw (Yo sV 1 (B8 qs)) (B8 qs).isSome):=by
 refine FC.Kf ⟨true,false⟩ Gr (Nat.le_of_ble_eq_true rfl) fun n => ?_
 have e0:∀K,mF false [.string ⟨#[]⟩] 0 [] K=some (.ref K.length 0 0 0 0,K++[.row 0 [] 1 true]):=fun K=>kA rfl
 simp only[BS,zB,e0,List.length_replicate,mH,VX,Nat.reduceEqDiff,Nat.reduceAdd,Nat.reduceLeDiff,Nat.reduceLT,Nat.reduceSub]
 refine aQ (fun(i:Nat) ρ H=>i≤qs.length∧(∀q∈qs.take i,vI q=true)∧H=List.replicate n bT.dead++[bT.row i (((qs.take i).map JH).map sV) 1 true]∧ρ 4 = .ref n i 0 i i∧ρ 0=aO bZ qs∧ρ 10=VI qs.length∧ρ 11=VI i) (fun i=>qs.length-i) 0 ⟨Nat.zero_le _,by simp,rfl,rfl,rfl,rfl,rfl⟩ ?_
 rintro i ρ H ⟨hi,qK,rfl,g4,g0,g10,g11⟩
 have pL:aH (List.replicate n bT.dead++[bT.row i (((qs.take i).map JH).map sV) 1 true]) n i=some (((qs.take i).map JH).map sV,1,true):=by rw[BD,aS]
 by_cases cP:(i:Int)<(qs.length:Int)
 ·obtain⟨q,hq⟩:∃q,qs[i]? = some q:=⟨_,List.getElem?_eq_getElem (by omega)⟩
  have hqm:=List.mem_of_getElem? hq
  have a1:=fun H=>aI (f:=bZ) (t := .op) (H:=H) (size:=3) (k := .i64) hq rfl
  have wi:IntKind.i64.wrap ((i:Int)+1)=((i+1:Nat):Int):=wrapN (i+1) (by omega) (by omega)
  have e2:=Kl q (hb q hqm)
  unfold R8 at e2
  cases hf:vI q with
  |
   false =>
   rw[if_neg (by simp[hf])] at e2
   rw[QW hqm hf]
   simp only[lS,g4,g0,g10,g11,cP,a1,e2,jX,mH,VX,Nat.reduceEqDiff,Nat.reduceAdd,Nat.reduceLeDiff,Nat.reduceLT,Nat.reduceSub]
   exact⟨_,A2 (by simp),rfl,Av,.tree [] .nil,rfl,rfl⟩
  |
   true =>
   rw[if_pos hf] at e2
   have eL:∀H,mF false [.string ⟨#[]⟩] 1 [(0,aU (EL q))] H=some (.tree [sV (JH q)] (.cl 1),H):=fun H=>iJ rfl rfl rfl
   have eS:∀H,cW 1 (.tree [sV (JH q)] (.cl 1)) H=some [sV (JH q)]:=fun H=>fK rfl rfl
   have eP:eO n 1 16 (.ref n i 0 i i) [sV (JH q)] (List.replicate n bT.dead++[bT.row i (((qs.take i).map JH).map sV) 1 true])=some (.ref n (i+1) 0 (i+1) (i+1),List.replicate n bT.dead++[bT.row (i+1) (((qs.take (i+1)).map JH).map sV) 1 true]):=by
    rw[gY (f:=sV) (xs:=(qs.take i).map JH) pL (by simp;omega) (Nat.le_refl _) (by decide) (by decide) (by omega),jU hq]
    simp only[List.map_append,Bt]
    rfl
   simp only[lS,g4,g0,g10,g11,cP,a1,e2,eL,eS,eP,wi,jX,mH,VX,Nat.reduceEqDiff,Nat.reduceAdd,Nat.reduceLeDiff,Nat.reduceLT,Nat.reduceSub]
   refine⟨i+1,by omega,by omega,fun p hp => ?_,by (repeat' apply And.intro)<;>first | rfl | trivial | assumption⟩
   rw[jU hq] at hp
   rcases List.mem_append.1 hp with h | h
   ·exact qK p h
   ·rw[List.mem_singleton] at h;subst h;exact hf
 ·have nS:i=qs.length:=by omega
  subst nS
  rw[List.take_length] at qK pL
  rw[Og qK]
  simp only[lS,g4,g10,g11,cP,List.take_length,mH,VX,Nat.reduceEqDiff,Nat.reduceAdd,Nat.reduceLeDiff,Nat.reduceLT,Nat.reduceSub]
  refine⟨_,⟨rfl,fun _ _ _ _ _ h=>h⟩,by simp[eT,nP,kE],by simp only[dL,List.all_cons,List.all_nil,Bool.and_true];exact GH (fun _=>rfl) _,.ref n qs.length 0 qs.length qs.length,rfl,⟨n,qs.length,qs.length,Nat.le_refl _,by simp,by simp,by simp,pL⟩⟩
set_option maxHeartbeats 2000000 in
theorem Ln (m:List (List Rat)) (hn:m.length≤1000000) (hb:∀r∈m,r.length≤1000000∧∀q∈r,aZ q≤1099511627776):FC 138 [(Mr (aO (aO bZ) m)).cV 0] (Xw (CG ((vE m).getD [])) (vE m).isSome):=by
 refine FC.Kf ⟨true,false⟩ KE (Nat.le_of_ble_eq_true rfl) fun n => ?_
 have s0:bX n 1 (.ptr (n+1) 0 0 0) (.agg [.tree [] .nil]) (List.replicate n bT.dead++[bT.row 0 [.tree [] .nil] 1 true,.row 0 [.tree [] .nil] 1 true])=some (List.replicate n bT.dead++[bT.row 0 [.tree [] .nil] 1 true,.row 0 [.agg [.tree [] .nil]] 1 true]):=by
  rw[cF (e:=1) (g:=0) (j:=0) (by rw[Dz,lB,aS]) (by exact Nat.zero_lt_one) (by omega) rfl rfl,Tf]
  rfl
 simp only[Gg,Cq,s0,VF,B3,List.length_replicate,List.length_cons,List.length_nil,List.append_assoc,List.cons_append,List.nil_append,eV,mH,VX,Nat.reduceEqDiff,Nat.reduceAdd,Nat.reduceLeDiff,Nat.reduceLT,Nat.reduceSub]
 refine aQ (fun(i:Nat) ρ H=>i≤m.length∧BA n H∧(∃x v bB,aH H n 0=some ([.tree [] .nil],1,true)∧aH H (n+1) 0=some ([x],1,true)∧aB x=[v]∧vE (m.take i)=some bB∧NG sV 1 bB (n+2) H.length H v)∧ρ 2 = .ptr n 0 0 0∧ρ 4 = .ptr (n+1) 0 0 0∧ρ 0=(Mr (aO (aO bZ) m)).cV 0∧ρ 13=VI m.length∧ρ 14=VI i) (fun i=>m.length-i) 0
  ⟨Nat.zero_le _,⟨[.row 0 [.tree [] .nil] 1 true,.row 0 [.agg [.tree [] .nil]] 1 true],rfl,rfl⟩,⟨.agg [.tree [] .nil],.tree [] .nil,[],by rw[BD,aS],by rw[Dz,lB,aS],rfl,rfl,.inl ⟨rfl,rfl⟩⟩,rfl,rfl,rfl,rfl,rfl⟩ ?_
 rintro i ρ H ⟨hi,hO,⟨x,v,bB,sN,Fy,hx,GQ,hv⟩,g2,g4,g0,g13,g14⟩
 have Ds:=iR Fy
 by_cases cP:(i:Int)<(m.length:Int)
 ·obtain⟨r,hr⟩:∃r,m[i]? = some r:=⟨_,List.getElem?_eq_getElem (by omega)⟩
  have MX:=hb r (List.mem_of_getElem? hr)
  have a1:=fun H=>aI (f:=aO bZ) (t := .op) (H:=H) (size:=1) (k := .i64) hr rfl
  have wi:IntKind.i64.wrap ((i:Int)+1)=((i+1:Nat):Int):=wrapN (i+1) (by omega) (by omega)
  simp only[uQ,g2,g4,g0,g13,g14,cP,a1,VF,mH,VX,Nat.reduceEqDiff,Nat.reduceAdd,Nat.reduceLeDiff,Nat.reduceLT,Nat.reduceSub]
  refine Nu (n:=n) (Gy r MX.1 MX.2) rfl (Za (aF (BM _))) hO Yo.cB fun u H2 p2 hO2 _ hu => ?_
  cases ht:B8 r with
  |
   none =>
   rw[ht] at hu
   have hu:u = .tree [] .nil:=hu
   subst hu
   have alN:vE m=none:=mapM_none ht (List.mem_of_getElem? hr)
   rw[alN]
   have s1:bX n 1 (.ptr n 0 0 0) (.agg [.tree [] .nil]) H2=some (H2.set n (.row 0 [.agg [.tree [] .nil]] 1 true)):=by
    rw[cF (cC p2 sN) (by exact Nat.zero_lt_one) (Nat.le_refl _) rfl rfl]
    rfl
   have s2:cI true 1 (.ptr n 0 0 0) (H2.set n (.row 0 [.agg [.tree [] .nil]] 1 true))=some (.agg [.tree [] .nil]):=by
    rw[cD,cS (cC p2 sN)]
    rfl
   simp only[g2,g4,s1,s2,Option.isSome_none,mH,VX,Nat.reduceEqDiff,Nat.reduceAdd,Nat.reduceLeDiff,Nat.reduceLT,Nat.reduceSub]
   exact⟨_,A2 (by rw[List.length_set];have:=p2.length_le;omega),rfl,Av,.agg [.tree [] .nil],rfl,_,rfl,.inl ⟨rfl,rfl⟩⟩
  |
   some ys =>
   rw[ht] at hu
   obtain⟨b,g,c,k1,k2,rfl,k3,k4⟩:=hu
   have eL:∀K,mF false [.slice none 0 0] 1 [(0,.ref b g 0 ys.length c)] K=some (.tree [.ref b g 0 ys.length c] (.cl 1),K):=fun K=>iJ rfl rfl rfl
   have eS:∀K,cW 1 (.tree [.ref b g 0 ys.length c] (.cl 1)) K=some [.ref b g 0 ys.length c]:=fun K=>fK rfl rfl
   obtain⟨v',H3,ap,YD,cB,hlen,MM,yM,_⟩:=(hv.cB (dC.pre p2)).snoc (jI:=n) (by omega) (by rw[pM GQ,List.length_take];omega) ⟨b,g,c,ys⟩ k1 (by simp only;omega) k3 k4
   have S0:=cB _ _ _ (by omega) (cC p2 Fy)
   have l1:cI false 1 (.ptr (n+1) 0 0 0) H2=some v:=by
    rw[cD,cC p2 Fy]
    simp[dA,hx]
   have l2:aH H2 (n+1) 0=some ([x],1,true):=cC p2 Fy
   have uN:=YD.fO
   have s1:bX n 1 (.ptr (n+1) 0 0 0) v' H3=some (H3.set (n+1) (.row 0 [v'] 1 true)):=by
    rw[cF S0 (by exact Nat.zero_lt_one) (by omega) (by rw[uN.2.1];rfl) (by rw[uN.2.1];simp[uN.1])]
    rfl
   have hO3:=(MM n (by omega) hO2).set (b:=n+1) (g:=0) (e:=1) (es:=[v']) (w:=true) (by omega) (by
    rcases YD with⟨rfl,_⟩ | ⟨b',g',Wf,q1,q2,rfl,_⟩
    ·rfl
    ·simp[nP,eT];omega)
   simp only[g4,g14,wi,eL,eS,l1,ap,s1,S0,l2,zN,Nat.add_zero,Option.isSome_some,mH,VX,Nat.reduceEqDiff,Nat.reduceAdd,Nat.reduceLeDiff,Nat.reduceLT,Nat.reduceSub]
   refine⟨i+1,by omega,by omega,hO3,⟨v',v',bB++[ys],cG (by omega) (cB _ _ _ (by omega) (cC p2 sN)),cS S0,uN.2.1,?_,?_⟩,by (repeat' apply And.intro)<;>first | rfl | trivial | assumption⟩
   ·rw[jU hr]
    exact D0 GQ ht
   ·rw[List.length_set]
    exact YD.cB (dC.set (by omega))
 ·have nS:i=m.length:=by omega
  subst nS
  rw[List.take_length] at GQ
  rw[GQ]
  have uN:=hv.fO
  have l1:cI true 1 (.ptr (n+1) 0 0 0) H=some (.agg [v]):=by
   rw[cD,Fy]
   simp[dA,hx]
  have s1:bX n 1 (.ptr n 0 0 0) (.agg [v]) H=some (H.set n (.row 0 [.agg [v]] 1 true)):=by
   rw[cF sN (by exact Nat.zero_lt_one) (Nat.le_refl _) rfl (by simp[aB,uN.1])]
   rfl
  have s2:cI true 1 (.ptr n 0 0 0) (H.set n (.row 0 [.agg [v]] 1 true))=some (.agg [v]):=by
   rw[cD,cS sN]
   rfl
  simp only[uQ,g2,g4,g13,g14,cP,l1,s1,s2,Option.isSome_some,mH,VX,Nat.reduceEqDiff,Nat.reduceAdd,Nat.reduceLeDiff,Nat.reduceLT,Nat.reduceSub]
  have MM:eT n v=true:=by
   rcases hv with⟨rfl,_⟩ | ⟨b',g',Wf,q1,q2,rfl,_⟩
   ·rfl
   ·simp[eT];omega
  obtain⟨L,rfl,hL⟩:=hO
  refine⟨L.set 0 (.row 0 [.agg [v]] 1 true),⟨by simp,fun _ _ _ _ _ h=>by rw[Bt];exact h⟩,by simp[eT,nP,MM,kE],?_,.agg [v],rfl,v,rfl,?_⟩
  ·have:=(BA.set (n:=n) (b:=n) (g:=0) (e:=1) (es:=[.agg [v]]) (w:=true) ⟨L,rfl,hL⟩ (Nat.le_refl _) (by simp[nP,eT,MM]))
   rw[Bt] at this
   obtain⟨L',h1,h2⟩:=this
   rw[List.append_cancel_left h1]
   exact h2
  ·rw[←Bt,List.length_set]
   have:=hv.rg.cB (H':=(List.replicate n bT.dead++L).set n (.row 0 [.agg [v]] 1 true)) (dC.set (by omega))
   rw[B3] at this
   exact this.wide (by omega) (Nat.le_refl _)
set_option maxHeartbeats 1000000 in
theorem Js (m:List (List Rat)) (hn:m.length≤1000000) (hb:∀r∈m,r.length≤1000000∧∀q∈r,aZ q≤1099511627776):FC 61 [aO (aO bZ) m] (Xw (CG ((vE m).getD [])) (vE m).isSome):=by
 refine FC.Kf ⟨true,false⟩ Jt (Nat.le_of_ble_eq_true rfl) fun n => ?_
 have s0:bX n 1 (.ptr (n+1) 0 0 0) (.agg [aO (aO bZ) m]) (List.replicate n bT.dead++[bT.row 0 [.tree [] .nil] 1 true,.row 0 [.tree [] .nil] 1 true])=some (List.replicate n bT.dead++[bT.row 0 [.tree [] .nil] 1 true,.row 0 [Mr (aO (aO bZ) m)] 1 true]):=by
  rw[cF (e:=1) (g:=0) (j:=0) (by rw[Dz,lB,aS]) (by exact Nat.zero_lt_one) (by omega) rfl rfl,Tf]
  rfl
 have hf:PM.fz depth (List.replicate n bT.dead++[bT.row 0 [.tree [] .nil] 1 true,.row 0 [Mr (aO (aO bZ) m)] 1 true]) (.ptr (n+1) 0 0 0)=some ((Mr (aO (aO bZ) m)).cV 0):=ajC (es:=[Mr (aO (aO bZ) m)]) (e:=1) (w:=true) (by rw[Dz,lB,aS]) rfl (aJ (aaW (Xp _)))
 simp only[En,B4,s0,B3,List.length_replicate,List.length_cons,List.length_nil,List.append_assoc,List.cons_append,List.nil_append,eV,mH,VX,Nat.reduceEqDiff,Nat.reduceAdd,Nat.reduceLeDiff,Nat.reduceLT,Nat.reduceSub]
 refine(Ln m hn hb).Z4 rfl (Za hf) ?_
 rintro r L ⟨v,rfl,hv⟩ hr hL
 have hv:=hv.cB dC.move
 have hlen:(List.replicate n bT.dead++[bT.row 0 [.tree [] .nil] 1 true,.row 0 [Mr (aO (aO bZ) m)] 1 true]).length=n+2:=by simp
 rw[hlen] at hv
 obtain⟨c,rfl,hc1,Z7,hc3⟩:=hv.own (n:=n) (by omega)
 have hT:BK n (n+2) (List.replicate n bT.dead++[bT.row 0 [.tree [] .nil] 1 true,.row 0 [Mr (aO (aO bZ) m)] 1 true]++L):=by
  refine BK.app (fun b g es e w hb hr => ?_) (by simp) hL
  rw[List.getElem?_eq_none (by rw[hlen];exact hb)] at hr
  cases hr
 generalize hH:List.replicate n bT.dead++[bT.row 0 [.tree [] .nil] 1 true,.row 0 [Mr (aO (aO bZ) m)] 1 true]++L=H2 at *
 have sN:aH H2 n 0=some ([.tree [] .nil],1,true):=by rw[←hH,List.append_assoc,BD,List.cons_append,aS]
 have Gs:n+2≤H2.length:=by rw[←hH];simp
 have hll:n+2+L.length=H2.length:=by rw[←hH];simp;omega
 rw[hll] at hv
 have s1:bX n 1 (.ptr H2.length 0 0 0) (.agg [c]) (H2++[bT.row 0 [.tree [] .nil] 1 true])=some (H2++[bT.row 0 [.agg [c]] 1 true]):=by
  rw[cF (e:=1) (g:=0) (j:=0) iZ (by exact Nat.zero_lt_one) (by omega) rfl (by simp[aB,hc1]),GD]
  rfl
 cases ht:vE m with
 |
  none =>
  have s2:bX n 1 (.ptr n 0 0 0) (.agg [.tree [] .nil]) (H2++[bT.row 0 [.agg [c]] 1 true])=some ((H2++[bT.row 0 [.agg [c]] 1 true]).set n (.row 0 [.agg [.tree [] .nil]] 1 true)):=by
   rw[cF (fW sN) (by exact Nat.zero_lt_one) (Nat.le_refl _) rfl rfl]
   rfl
  have s3:cI true 1 (.ptr n 0 0 0) ((H2++[bT.row 0 [.agg [c]] 1 true]).set n (.row 0 [.agg [.tree [] .nil]] 1 true))=some (.agg [.tree [] .nil]):=by
   rw[cD,cS (fW sN)]
   rfl
  simp only[s1,s2,s3,Option.isSome_none,eV,mH,VX,Nat.reduceEqDiff,Nat.reduceAdd,Nat.reduceLeDiff,Nat.reduceLT,Nat.reduceSub]
  exact⟨_,A2 (by rw[List.length_set,List.length_append];omega),rfl,Av,.agg [.tree [] .nil],rfl,_,rfl,.inl ⟨rfl,rfl⟩⟩
 |
  some bB =>
  rw[ht] at hv
  have l1:cI true 1 (.ptr H2.length 0 0 0) (H2++[bT.row 0 [.agg [c]] 1 true])=some (.agg [c]):=by
   rw[cD,iZ]
   rfl
  have s2:bX n 1 (.ptr n 0 0 0) (.agg [c]) (H2++[bT.row 0 [.agg [c]] 1 true])=some ((H2++[bT.row 0 [.agg [c]] 1 true]).set n (.row 0 [.agg [c]] 1 true)):=by
   rw[cF (fW sN) (by exact Nat.zero_lt_one) (Nat.le_refl _) rfl (by simp[aB,hc1])]
   rfl
  have s3:cI true 1 (.ptr n 0 0 0) ((H2++[bT.row 0 [.agg [c]] 1 true]).set n (.row 0 [.agg [c]] 1 true))=some (.agg [c]):=by
   rw[cD,cS (fW sN)]
   rfl
  simp only[s1,s2,s3,l1,Option.isSome_some,eV,mH,VX,Nat.reduceEqDiff,Nat.reduceAdd,Nat.reduceLeDiff,Nat.reduceLT,Nat.reduceSub]
  have hT2:BK n (n+2) ((H2++[bT.row 0 [.agg [c]] 1 true]).set n (.row 0 [.agg [c]] 1 true)):=BK.set (BK.aoI hT (by simp[dL,nP,eT,hc3])) (by omega)
  obtain⟨L2,k1,k2,k3⟩:=Sj (n:=n) (k:=n+2) (by omega) (by rw[List.length_set,List.length_append];omega) hT2
  refine⟨L2,k1,by simp[eT,nP,hc3,kE],k2,.agg [c],rfl,?_⟩
  obtain⟨c',YV,hv⟩:=hv
  cases YV
  have hl3:=k1.1
  rw[List.length_set,List.length_append,List.length_append,List.length_replicate] at hl3
  simp only[Option.getD_some] at hv
  exact⟨c,rfl,(hv.cB (H':=List.replicate n bT.dead++L2) fun b g x h1 h2 h3=>k3 b g x (by omega) (cG (by omega) (fW h3))).wide (by omega) (by simp only[List.length_cons,List.length_nil] at hl3;omega)⟩
end Go.PM
namespace Go.PM
end Go.PM
namespace Go.PM
open Go.Lib
set_option maxHeartbeats 1000000 in
theorem Jg {lo:Nat} {H:aA} (N:Nat) (hN:N≤1000) (eQ:lo≤H.length):jO 76 [VI N] lo H (Qw (TabIs bZ 3 (List.replicate N (List.replicate N (0:Rat)))) H):=by
 refine jO.walk ⟨true,false⟩ Ji (Nat.le_of_ble_eq_true rfl) ?_
 have e0:∀K,mF false [.slice none 0 0] 0 [] K=some (.ref K.length 0 0 0 0,K++[.row 0 [] 1 true]):=fun K=>kA rfl
 have e0':∀K,mF false [.bool false,.slice none 0 0,.slice none 0 0] 0 [] K=some (.ref K.length 0 0 0 0,K++[.row 0 [] 3 true]):=fun K=>kA rfl
 have e1:=Cx
 have eL:∀H,mF false [.bool false,.slice none 0 0,.slice none 0 0] 1 [(0,bZ 0)] H=some (.tree [bZ 0] (.cl 3),H):=fun H=>iJ rfl rfl rfl
 have eS:∀H,cW 3 (.tree [bZ 0] (.cl 3)) H=some [bZ 0]:=fun H=>fK rfl rfl
 simp only[EI,B1,e0,mH,VX,Nat.reduceEqDiff,Nat.reduceAdd,Nat.reduceLeDiff,Nat.reduceLT,Nat.reduceSub]
 refine aQ (fun(i:Nat) ρ H1=>i≤N∧H <+: H1∧(∃rs,rs.length=i∧rs.map (·.xs)=List.replicate i (List.replicate N (0:Rat))∧MG bZ 3 H.length H1.length H.length i H1 rs)∧ρ 0=VI N∧ρ 3 = .ref H.length i 0 i i∧ρ 4=VI i) (fun i=>N-i) 0
  ⟨Nat.zero_le _,List.prefix_append _ _,⟨[],rfl,rfl,iZ,Nat.le_refl _,by simp,by simp,by simp⟩,rfl,rfl,rfl⟩ ?_
 rintro i ρ H1 ⟨hi,hp,⟨rs,Cp,Yw,hM⟩,g0,g3,g4⟩
 by_cases cP:(i:Int)<(N:Int)
 ·have wi:IntKind.i64.wrap ((i:Int)+1)=((i+1:Nat):Int):=wrapN (i+1) (by omega) (by omega)
  simp only[tQ,g0,g3,g4,cP,e0',mH,VX,Nat.reduceEqDiff,Nat.reduceAdd,Nat.reduceLeDiff,Nat.reduceLT,Nat.reduceSub]
  have Ds:=hp.length_le
  refine aQ (fun(k:Nat) ρ H2=>k≤N∧H1 <+: H2∧aH H2 H1.length k=some ((List.replicate k (0:Rat)).map bZ,3,true)∧ρ 0=VI N∧ρ 3 = .ref H.length i 0 i i∧ρ 4=VI i∧ρ 5 = .ref H1.length k 0 k k∧ρ 6=VI k) (fun k=>N-k) 0 ⟨Nat.zero_le _,List.prefix_append _ _,iZ,g0,g3,g4,rfl,rfl⟩ ?_
  clear g0 g3 g4
  rintro k ρ H2 ⟨hk,hp2,pL,g0,g3,g4,g5,g6⟩
  by_cases SF:(k:Int)<(N:Int)
  ·have wk:IntKind.i64.wrap ((k:Int)+1)=((k+1:Nat):Int):=wrapN (k+1) (by omega) (by omega)
   have eP:=Se (lo:=lo) (bytes:=56) (x:=(0:Rat)) pL (by simp) (by omega) (by decide) (by decide) (by omega)
   simp only[tB,g0,g5,g6,SF,e1,eL,eS,eP,wk,mH,VX,Nat.reduceEqDiff,Nat.reduceAdd,Nat.reduceLeDiff,Nat.reduceLT,Nat.reduceSub]
   exact⟨k+1,by omega,by omega,Ak hp2 (Nat.le_refl _),by rw[List.replicate_succ'];exact cS pL,by (repeat' apply And.intro)<;>first | rfl | trivial | assumption⟩
  ·have hke:k=N:=by omega
   subst hke
   have hA:NG bZ 3 (List.replicate i (List.replicate k (0:Rat))) H.length H1.length H2 (.ref H.length i 0 i i) := .inr ⟨H.length,i,rs,Nat.le_refl _,hM.bhi,by simp,cC hp2 hM.out,Yw,(hM.pre hp2).rows⟩
   have Gs:=iR pL
   obtain⟨v',H3,ap,YD,cB,hlen,MM,yM,_⟩:=hA.snoc (jI:=lo) eQ (by simp;omega) ⟨H1.length,k,k,List.replicate k 0⟩ (Nat.le_refl _) Ds (by simp) pL
   rw[List.length_replicate] at ap
   have eL2:∀K,mF false [.slice none 0 0] 1 [(0,.ref H1.length k 0 k k)] K=some (.tree [.ref H1.length k 0 k k] (.cl 1),K):=fun K=>iJ rfl rfl rfl
   have eS2:∀K,cW 1 (.tree [.ref H1.length k 0 k k] (.cl 1)) K=some [.ref H1.length k 0 k k]:=fun K=>fK rfl rfl
   simp only[tB,g0,g3,g4,g5,g6,SF,eL2,eS2,ap,wi,mH,VX,Nat.reduceEqDiff,Nat.reduceAdd,Nat.reduceLeDiff,Nat.reduceLT,Nat.reduceSub]
   rw[←List.replicate_succ'] at YD
   rcases YD with⟨_,h⟩ | ⟨b,g,Wf,k1,k2,rfl,k3,k4,k5⟩
   ·simp at h
   ·have rE:=Se (f:=mK) (lo:=lo) (bytes:=24) (x:=⟨H1.length,k,k,List.replicate k (0:Rat)⟩) (cC hp2 hM.out) Cp.symm eQ (by decide) (by decide) (by omega)
    simp only[mK,List.length_replicate] at rE
    rw[rE] at ap
    injection ap with ap
    injection ap with ap1 ap2
    injection ap1 with q1 q2 q3 q4 q5
    subst q1 q2
    refine⟨i+1,by omega,by omega,yM H (Nat.le_refl _) (hp.trans hp2),⟨Wf,by have:=congrArg List.length k4;simpa using this,k4,k3,Nat.le_refl _,k2,k5.nd,k5.row⟩,by (repeat' apply And.intro)<;>first | rfl | trivial | assumption | rw[List.length_replicate]⟩
 ·have nS:i=N:=by omega
  subst nS
  simp only[tQ,g0,g3,g4,cP,mH,VX,Nat.reduceEqDiff,Nat.reduceAdd,Nat.reduceLeDiff,Nat.reduceLT,Nat.reduceSub]
  exact⟨hp,H.length,i,i,rs,by rw[List.length_replicate],by simp,hM,Yw⟩
def SvS (s:JY) (lo hi:Nat) (H:aA) (v:VV):Prop:=(∃a b c,v = .agg [a,b,c]∧bP a=true∧bP b=true∧bP c=true∧∀n,n≤lo→eT n a=true∧eT n b=true∧eT n c=true)∧F6 (svV s) lo hi H v
theorem SvS.cB {s:JY}:∀ {lo hi H H' v},SvS s lo hi H v→dC lo hi H H'→SvS s lo hi H' v:=fun h hk=>⟨h.1,h.2.cB hk⟩
theorem SvS.wide {s:JY}:∀ {lo hi jI oJ:Nat} {H:aA} {v:VV},SvS s lo hi H v→jI≤lo→hi≤oJ→SvS s jI oJ H v:=fun h hl hh=>by
 obtain⟨⟨a,b,c,h1,h2,h3,h4,h5⟩,h6⟩:=h
 exact⟨⟨a,b,c,h1,h2,h3,h4,fun n hn=>h5 n (by omega)⟩,fun H' hk=>h6 H' (hk.sub hl hh)⟩
theorem SvS.ag {s:JY} {lo hi:Nat} {H:aA} {v:VV} (h:SvS s lo hi H v) (n:Nat) (hn:n≤lo):∃a b c,v = .agg [a,b,c]∧bP a=true∧bP b=true∧bP c=true∧eT n a=true∧eT n b=true∧eT n c=true:=by
 obtain⟨⟨a,b,c,h1,h2,h3,h4,h5⟩,_⟩:=h
 exact⟨a,b,c,h1,h2,h3,h4,h5 n hn⟩
end Go.PM
namespace Go.PM
open Go.Lib
theorem Yc {qs:List Rat} {x:List ByteArray} (h:B8 qs=some x):x.length=qs.length:=by
 unfold B8 at h
 split at h
 ·cases h
  rw[List.length_map]
 ·cases h
theorem Yo.own {α:Type} {f:α→VV} {e lo hi n:Nat} {H:aA} {v:VV} {o:Option (List α)} (h:Yo f e o lo hi H v) (hn:n≤lo):eT n v=true:=by
 cases o with
 |
  none =>
  have h:v = .tree [] .nil:=h
  subst h
  rfl
 |
  some ys =>
  obtain⟨b,g,c,h1,h2,rfl,h3⟩:=h
  simp[eT];omega
theorem NG.own {α:Type} {f:α→VV} {e lo hi n:Nat} {H:aA} {v:VV} {bB:List (List α)} (h:NG f e bB lo hi H v) (hn:n≤lo):eT n v=true:=by
 rcases h with⟨rfl,_⟩ | ⟨b,g,rs,q1,q2,rfl,_⟩
 ·rfl
 ·simp[eT];omega
end Go.PM
namespace Go.PM
open Go.Lib
end Go.PM
namespace Go.PM
open Go.Lib
end Go.PM
namespace Go.PM
open Go.Lib
end Go.PM
namespace Go.PM
open Go.Lib
section
variable {b:List Rat} {g:List (List Rat)} {e row:List Rat} {n i:Nat} {st:List Bool}
end
end Go.PM
namespace Go.PM
open Go.Lib
end Go.PM
namespace Go.PM
end Go.PM
namespace Go.PM
theorem Zw (q:Rat):(aB (bZ q)).all bP=true:=rfl
end Go.PM
namespace Go.PM
open Go.Lib
section
variable {lo jI hi N b g c:Nat} {H:aA} {L:List Mn}
structure Tq (f:Rat→VV) (lo hi N b g:Nat) (L:List Mn) (H:aA):Prop where
 t:Tb f lo hi N N b g (jM L) H
 b:∀t∈L,aZ t.2.2≤1331
 l:L.length≤400
theorem Tq.bits {f:Rat→VV} (h:Tq f lo hi N b g L H) (i j:Nat):aZ (jM L i j)≤1000000:=by
 have h1:=Lh h.b i j
 have h2:L.length*(1331+1)≤400*(1331+1):=Nat.mul_le_mul_right _ h.l
 omega
theorem Tq.cB {f:Rat→VV} {H':aA} (h:Tq f lo hi N b g L H) (hk:dC lo hi H H'):Tq f lo hi N b g L H':=⟨h.t.cB hk,h.b,h.l⟩
theorem Tq.pre {f:Rat→VV} {H':aA} (h:Tq f lo hi N b g L H) (hh:H <+: H'):Tq f lo hi N b g L H':=h.cB (dC.pre hh)
theorem Tq.snoc {f:Rat→VV} {H':aA} {i j:Nat} {q:Rat} (h:Tq f lo hi N b g L H) (hT:Tb f lo hi N N b g (jM (L++[(i,j,q)])) H') (hq:aZ q≤1331) (hl:L.length<400):Tq f lo hi N b g (L++[(i,j,q)]) H' :=
 ⟨hT,fun t ht=>by
  rcases List.mem_append.1 ht with ht | ht
  ·exact h.b t ht
  ·rw[List.mem_singleton] at ht
   subst ht
   exact hq,by rw[List.length_append];exact hl⟩
theorem Tq.same {f:Rat→VV} {i:Nat} {q:Rat} (h:Tq f lo hi N b g L H) (hq:aZ q≤1331) (hl:L.length<400):Tq f lo hi N b g (L++[(i,i,q)]) H:=h.snoc (by rw[Tt];exact h.t) hq hl
end
theorem amG {H:aA} {es:List VV} {k:Nat} (hp:aL es=true):PM.fz depth H (.tree es (.cl k))=some (.tree es .op):=by
 have h0:aN (.tree es (.cl k))=false:=by simp[aN]
 show PM.fz (7+1) H _=_
 unfold PM.fz
 simp only[h0,Bool.false_eq_true,if_false]
 rw[mapM_pure (n:=6) hp]
 rfl
theorem WK {H:aA} {es:List VV} {k:Nat} (hp:aL es=true):gP depth H (.tree es (.cl k))=[]:=by
 have h0:aN (.tree es (.cl k))=false:=by simp[aN]
 show gP (7+1) H _=_
 unfold gP
 simp only[h0,Bool.false_eq_true,if_false]
 exact vP hp
theorem TC.cl {f lo k:Nat} {H:aA} {es:List VV} {r:VV} {K:VV→aA→Prop} (h:TC f [.tree es .op] r) (hr:AN.contains f=false) (hp:aL es=true) (Cj:aN (.tree es .op)=true):cT f [.tree es (.cl k)] lo H K=K r H:=by
 have h0:aN (.tree es (.cl k))=false:=by simp[aN]
 rw[h.CP (H:=H) (lo:=lo) (k:=K) hr (ajV Cj) (Za (amG hp)) (by simp[aL,h0]),List.flatMap_cons,WK hp]
 split<;>rfl
theorem TabIs.fz {f:Rat→VV} {m:List (List Rat)} {lo hi:Nat} {H:aA} {v:VV} (h:TabIs f 3 m lo hi H v) (hpu:∀x,aN (f x)=true):PM.fz depth H v=some (aO (aO f) m):=by
 obtain⟨b,g,c,rs,rfl,k1,hM,Yw⟩:=h
 have Cp:rs.length=m.length:=by rw[←Yw,List.length_map]
 have Yu:=hM.fz (d:=5) (c:=c) (by omega) hpu
 rw[Yw,Cp] at Yu
 exact Yu
theorem wN {x:Int} (k:Nat) (h:x=k) (hk:k≤1000000000):IntKind.i64.wrap x=(k:Int):=by
 subst h
 exact wrapN k (by omega) (by omega)
theorem QOk.told {p:Nat×List Mn} (hp:QOk p):(Rb (J1 p)).length≤1000000∧∀r∈Rb (J1 p),r.length≤1000000∧∀q∈r,aZ q≤1099511627776:=by
 have hn:=hp.n
 obtain⟨el,eb⟩:=Yi Ta (B:=600000) hp.rows (by omega) (by omega)
 exact⟨by omega,fun r hr=>⟨by have:=(eb r hr).1;omega,fun q hq=>by have:=(eb r hr).2 q hq;omega⟩⟩
end Go.PM
namespace Go.PM
structure U1 (s:JY):Prop where
 b:s.b.length≤100
 g:s.g.length≤100
 r:∀x∈s.g,x.length≤100
 e:s.e.length≤100
theorem Bg {β:Type}:∀ {xs:List (List β)} {n:Nat},(∀x∈xs,x.length≤n)→cQ xs≤xs.length*n
 | [],n,_=>by simp[cQ]
 |
  x::xs,n,h=>by
  have h1:=h x List.mem_cons_self
  have h2:=Bg (xs:=xs) (n:=n) fun y hy=>h y (List.mem_cons_of_mem _ hy)
  have e:cQ (x::xs)=x.length+cQ xs:=by simp[cQ]
  rw[e,List.length_cons,Nat.add_mul,Nat.one_mul]
  omega
theorem U1.n {s:JY} (h:U1 s):svN s≤10200:=by
 have h1:=Bg h.r
 have h2:s.g.length*100≤100*100:=Nat.mul_le_mul_right _ h.g
 have h3:=h.b
 have h4:=h.e
 unfold svN
 omega
def Ag3 (v:VV):Prop:=∃a b c,v = .agg [a,b,c]∧bP a=true∧bP b=true∧bP c=true
theorem UJ.ag3 {s:JY} {lo hi:Nat} {H:aA} {v:VV} (h:UJ s lo hi H v):Ag3 v:=by
 obtain⟨a,b,c,h1,h2,h3,h4,_⟩:=h.own (n:=0) (Nat.zero_le _)
 exact⟨a,b,c,h1,h2,h3,h4⟩
theorem SvS.ag3 {s:JY} {lo hi:Nat} {H:aA} {v:VV} (h:SvS s lo hi H v):Ag3 v:=by
 obtain⟨⟨a,b,c,h1,h2,h3,h4,_⟩,_⟩:=h
 exact⟨a,b,c,h1,h2,h3,h4⟩
theorem TO {m:List (List Rat)} {y:List (List ByteArray)} {B:Nat} (h:vE m=some y) (hB:∀r∈m,r.length≤B):y.length=m.length∧∀x∈y,x.length≤B :=
 ⟨pM h,fun x hx=>by
  have key:∀ {m:List (List Rat)} {y:List (List ByteArray)},m.mapM B8=some y→(∀r∈m,r.length≤B)→∀x∈y,x.length≤B:=by
   intro m
   induction m with
   | nil=>intro y h _ x hx;cases h;cases hx
   |
    cons r m ih =>
    intro y h hB x hx
    obtain⟨z,zs,h1,h2,rfl⟩:=kY h
    rcases List.mem_cons.1 hx with rfl | hx
    ·rw[Yc h1];exact hB r List.mem_cons_self
    ·exact ih h2 (fun r hr=>hB r (List.mem_cons_of_mem _ hr)) x hx
  exact key h hB x hx⟩
end Go.PM
namespace Go.PM
open Go.Lib
theorem Yo.wide {α:Type} {f:α→VV} {e:Nat} {o:Option (List α)}:∀ {lo hi jI oJ:Nat} {H:aA} {v:VV},Yo f e o lo hi H v→jI≤lo→hi≤oJ→Yo f e o jI oJ H v:=by
 intro lo hi jI oJ H v h hl hh
 cases o with
 | none=>exact h
 |
  some ys =>
  obtain⟨b,g,c,h1,h2,h3⟩:=h
  exact⟨b,g,c,by omega,by omega,h3⟩
end Go.PM
namespace Go.PM
structure DK (s:List (List ByteArray)):Prop where
 g:s.length≤100
 r:∀x∈s,x.length≤100
theorem DK.n {s:List (List ByteArray)} (h:DK s):cQ s≤10000:=by
 have h1:=Bg h.r
 have h2:s.length*100≤100*100:=Nat.mul_le_mul_right _ h.g
 omega
theorem ZW {lo:Nat} {s:List (List ByteArray)} {H:aA} {v w:VV} {K:VV→aA→Prop} (hs:DK s) (hv:PM.fz depth H v=some (YK s)) (hw:PM.fz depth H w=some (YK s)):cT 19 [v,w] lo H K=K (VB true) H:=by
 have h:=LJ s s (by have:=hs.g;omega) (fun x hx=>by have:=hs.r x hx;omega)
 rw[decide_eq_true rfl] at h
 exact TC.flat h rfl (CL (AH _) (AH _)) (fz2 hv hw) rfl _ _
theorem UR {lo:Nat} {s:List (List ByteArray)} {H:aA} {v:VV} {K:VV→aA→Prop} (hs:DK s) (hv:PM.fz depth H v=some (YK (qP 101 s))):cT 23 [v,VI 101] lo H K=K (VI (101+cQ s)) H:=by
 have h:=HR 101 s (by omega) (by have:=hs.g;omega) (by have:=hs.n;omega)
 exact TC.flat h rfl (CL (AH _) rfl) (fz2 hv (aF rfl)) rfl _ _
def Ag1 (v:VV):Prop:=∃a,v = .agg [a]∧bP a=true
theorem CG.ag3 {s:List (List ByteArray)} {lo hi:Nat} {H:aA} {v:VV} (h:CG s lo hi H v):Ag1 v:=by
 obtain⟨c,h1,h2,_,_⟩:=h.own (n:=0) (Nat.zero_le _)
 exact⟨c,h1,h2⟩
theorem S5 {lo:Nat} {H:aA} {v:VV} (h:Ag1 v) (eQ:lo≤H.length):bX lo 1 (.ptr H.length 0 0 0) v (H++[.row 0 [.tree [] .nil] 1 true])=some (H++[.row 0 [v] 1 true]):=by
 obtain⟨a,rfl,h1⟩:=h
 rw[cF (e:=1) (g:=0) (j:=0) iZ (by exact Nat.zero_lt_one) eQ rfl (by simp[aB,h1]),GD]
 rfl
theorem Iy {b:Nat} {H:aA} {v:VV} (h:Ag1 v) (hr:aH H b 0=some ([v],1,true)):cI true 1 (.ptr b 0 0 0) H=some v:=by
 obtain⟨a,rfl,_⟩:=h
 rw[cD,hr]
 rfl
end Go.PM
namespace Go.PM
end Go.PM
namespace Go.PM
open Go.Lib
end Go.PM
namespace Go.PM
open Go.Lib
end Go.PM
namespace Go.PM
open Go.Lib
def alH (F:Nat→Nat→Rat) (i j:Nat) (q:Rat):Nat→Nat→Rat:=afZ F i j (F i j+q)
def sQ (nT n k:Nat):Nat:=min (nT-1) (n-1+k)
def JE (ws:List Rat) (nT n:Nat) (F:Nat→Nat→Rat):Nat→Nat→Nat→Rat
 | 0=>F
 | k+1=>alH (JE ws nT n F k) n (sQ nT n k) (ws.getD k 0)
def C7 (ws:List Rat) (nT:Nat):Nat→Nat→Nat→Rat
 | 0=>fun _ _=>0
 | n+1=>JE ws nT n (C7 ws nT n) ws.length
theorem WV {F:Nat→Nat→Rat} {i j B:Nat} {q:Rat} (hF:∀a b,aZ (F a b)≤B) (hq:aZ q≤665) (a b:Nat):aZ (alH F i j q a b)≤B+666:=by
 unfold alH afZ
 split
 ·have h1:=DY (F i j) q
  have h2:=hF i j
  omega
 ·have:=hF a b
  omega
theorem HT {ws:List Rat} {nT n B:Nat} {F:Nat→Nat→Rat} (hw:∀q∈ws,aZ q≤665) (hF:∀a b,aZ (F a b)≤B):∀k a b,aZ (JE ws nT n F k a b)≤B+666*k
 | 0,a,b=>hF a b
 |
  k+1,a,b=>by
  have h:=WV (i:=n) (j:=sQ nT n k) (HT (nT:=nT) (n:=n) hw hF k) (afB hw (by decide) k) a b
  exact Nat.le_trans h (by omega)
theorem Hl {ws:List Rat} {nT:Nat} (hw:∀q∈ws,aZ q≤665):∀n a b,aZ (C7 ws nT n a b)≤1+666*ws.length*n
 | 0,a,b=>by show aZ 0≤_;rw[xR];omega
 |
  n+1,a,b=>by
  have h:=HT (nT:=nT) (n:=n) hw (Hl (nT:=nT) hw n) ws.length a b
  rw[Nat.mul_add_one]
  exact Nat.le_trans h (by omega)
def pA (gs:List ByteArray) (nT:Int):Option (List (List ByteArray)):=match pO gs with
 | some ws=>if 1≤nT∧nT≤12 then vE (JL nT.toNat nT.toNat (C7 ws nT.toNat nT.toNat)) else none
 | none=>none
theorem Qu {ws:List Rat} {M:Nat} (hw:∀q∈ws,aZ q≤665) (hl:ws.length≤300) (hM:M≤12):(JL M M (C7 ws M M)).length≤1000000∧∀r∈JL M M (C7 ws M M),r.length≤1000000∧∀q∈r,aZ q≤1099511627776:=by
 refine⟨by rw[DG];omega,fun r hr => ?_⟩
 obtain⟨a,_,rfl⟩:=JM hr
 refine⟨by rw[yT];omega,fun q hq => ?_⟩
 obtain⟨b,_,rfl⟩:=DB.1 hq
 have h1:=Hl (nT:=M) hw M a b
 have h2:666*ws.length*M≤666*300*12:=Nat.mul_le_mul (by omega) hM
 omega
theorem aiI {ws:List Rat} {M n:Nat} (hw:∀q∈ws,aZ q≤665) (hl:ws.length≤300) (hn:n≤12) {k:Nat} (hk:k≤300) (a b:Nat):aZ (JE ws M n (C7 ws M n) k a b)≤3000000:=by
 have h1:=HT (nT:=M) (n:=n) hw (Hl (nT:=M) hw n) k a b
 have h2:666*ws.length*n≤666*300*12:=Nat.mul_le_mul (by omega) hn
 omega
theorem amT {H:aA} {b:Nat} {q:Rat} (h:aH H b 0=some ([bK q],3,true)):cI true 3 (.ptr b 0 0 0) H=some (bK q):=by
 rw[cD,h]
 exact fD q
set_option maxHeartbeats 8000000 in
set_option maxRecDepth 20000 in
theorem JJ (gs:List ByteArray) (nT:Int) (hb:gs.length≤1000000000∧∀x∈gs,x.size≤1000000000):FC 35 [fM gs,VI nT] (Xw (CG ((pA gs nT).getD [])) (pA gs nT).isSome):=by
 refine FC.Kf ⟨true,false⟩ JI (Nat.le_of_ble_eq_true rfl) fun n => ?_
 have e1:=HY gs hb.1 hb.2
 have e3:=Xs nT 1 12
 cases hw:pO gs with
 |
  none =>
  rw[hw,xG] at e1
  obtain⟨f1,f2,f3⟩:=L9 (n:=n) (bB:=pA gs nT) (sY (n:=n) (K:=[])) (Nat.le_refl _) (by unfold pA;rw[hw])
  simp only[tT,qH,e1,f1,f2,eV,B3,List.length_replicate,mH,VX,Nat.reduceEqDiff,Nat.reduceAdd,Nat.reduceLeDiff,Nat.reduceLT,Nat.reduceSub]
  exact f3
 | some ws =>
 rw[hw,E7] at e1
 by_cases hl:1≤nT∧nT≤12
 case neg =>
  rw[decide_eq_false hl] at e3
  obtain⟨f1,f2,f3⟩:=L9 (n:=n) (bB:=pA gs nT) (sY (n:=n) (K:=[])) (Nat.le_refl _) (by unfold pA;rw[hw];exact if_neg hl)
  simp only[tT,qH,e1,e3,f1,f2,eV,B3,List.length_replicate,mH,VX,Nat.reduceEqDiff,Nat.reduceAdd,Nat.reduceLeDiff,Nat.reduceLT,Nat.reduceSub]
  exact f3
 rw[decide_eq_true hl] at e3
 have D7:pA gs nT=vE (JL nT.toNat nT.toNat (C7 ws nT.toNat nT.toNat)):=by unfold pA;rw[hw];exact if_pos hl
 rw[D7]
 obtain⟨M,rfl⟩:∃M:Nat,nT=M:=⟨nT.toNat,by omega⟩
 simp only[Int.toNat_natCast]
 obtain⟨bw,wl,_⟩:=E1 (Mx hw).1
 simp only[tT,qH,e1,e3,eV,B3,List.length_replicate,mH,VX,Nat.reduceEqDiff,Nat.reduceAdd,Nat.reduceLeDiff,Nat.reduceLT,Nat.reduceSub]
 refine yC rfl (Pe M (by omega) (by simp)) fun r L hr => ?_
 rw[Q3] at hr
 obtain⟨b,g,c,rfl,hc,hT⟩:=hr.tb
 have sN:=fW (L:=L) (sY (n:=n) (K:=[]))
 have hlen:(List.replicate n bT.dead++[Sw]).length=n+1:=by simp
 rw[hlen] at hT
 generalize List.replicate n bT.dead++[Sw]++L=H at *
 simp only[mH,VX,Nat.reduceEqDiff,Nat.reduceAdd,Nat.reduceLeDiff,Nat.reduceLT,Nat.reduceSub]
 refine aQ (fun(i:Nat) ρ H1=>i≤M∧aH H1 n 0=some ([.tree [] .nil],1,true)∧Tb bK (n+1) H.length M M b g (C7 ws M i) H1∧ρ 1=VI M∧ρ 4 = .ptr n 0 0 0∧ρ 6=aO bK ws∧ρ 8 = .ref b g 0 M c∧ρ 28=VI M∧ρ 29=VI i) (fun i=>M-i) 0
  ⟨Nat.zero_le _,sN,hT,by (repeat' apply And.intro)<;>first | rfl | trivial | assumption⟩ ?_
 clear sN hT
 rintro i ρ H1 ⟨hi,sN,hT,g1,g4,g6,g8,g28,g29⟩
 by_cases cP:(i:Int)<(M:Int)
 ·have wi:IntKind.i64.wrap ((i:Int)+1)=((i+1:Nat):Int):=wN _ (by omega) (by omega)
  have wm1:IntKind.i64.wrap ((M:Int)-1)=((M-1:Nat):Int):=wN _ (by omega) (by omega)
  have wi1:IntKind.i64.wrap ((i:Int)-1)=(i:Int)-1:=wrap64 (by omega) (by omega)
  have wx:max ((i:Int)-1) 0=((i-1:Nat):Int):=by omega
  simp only[tR,g1,g4,g6,g8,g28,g29,cP,List.length_map,mH,VX,Nat.reduceEqDiff,Nat.reduceAdd,Nat.reduceLeDiff,Nat.reduceLT,Nat.reduceSub]
  refine aQ (fun(k:Nat) ρ H2=>k≤ws.length∧aH H2 n 0=some ([.tree [] .nil],1,true)∧Tb bK (n+1) H.length M M b g (JE ws M i (C7 ws M i) k) H2∧ρ 1=VI M∧ρ 4 = .ptr n 0 0 0∧ρ 6=aO bK ws∧ρ 8 = .ref b g 0 M c∧ρ 9=VI i∧ρ 28=VI M∧ρ 29=VI i∧ρ 32=aO bK ws∧ρ 33=VI ws.length∧ρ 34=VI k) (fun k=>ws.length-k) 0
   ⟨Nat.zero_le _,sN,hT,by (repeat' apply And.intro)<;>first | rfl | trivial | assumption⟩ ?_
  clear g1 g4 g6 g8 g28 g29 sN hT
  rintro k ρ H2 ⟨hk,sN,hT,g1,g4,g6,g8,g9,g28,g29,g32,g33,g34⟩
  by_cases SF:(k:Int)<(ws.length:Int)
  ·obtain⟨q,hq⟩:∃q,ws[k]? = some q:=⟨_,List.getElem?_eq_getElem (by omega)⟩
   have hqd:ws.getD k 0=q:=by rw[List.getD_eq_getElem?_getD,hq];rfl
   have bq:=bw q (List.mem_of_getElem? hq)
   have ak:=fun H=>aI (f:=bK) (t := .op) (H:=H) (size:=3) (k := .i64) hq rfl
   have wk:IntKind.i64.wrap ((k:Int)+1)=((k+1:Nat):Int):=wN _ (by omega) (by omega)
   have wt:IntKind.i64.wrap (((i-1:Nat):Int)+(k:Int))=((i-1+k:Nat):Int):=wN _ (by omega) (by omega)
   have wn:min ((M-1:Nat):Int) ((i-1+k:Nat):Int)=((sQ M i k:Nat):Int):=by unfold sQ;omega
   have hg:sQ M i k<M:=by unfold sQ;omega
   have sS:=hT.lt
   have Gs:=iR sN
   have s1:=FB (lo:=n) (H:=H2) (q:=q) (by omega)
   have s2:=amT (q:=q) (iZ (H:=H2) (g:=0) (es:=[bK q]) (e:=3) (w:=true))
   have hT3:=hT.pre (List.prefix_append H2 [.row 0 [bK q] 3 true])
   obtain⟨rb,rg,rc,c1,c2,c3,c4⟩:=hT3.spot (i:=i) (j:=sQ M i k) (by omega) hg DF abP
   obtain⟨H4,c5,c6,hT4,_⟩:=c4 n (JE ws M i (C7 ws M i) k i (sQ M i k)+q) (by omega)
   have b1:=hT3.addr (c:=c) (i:=i) (by omega)
   have c3':=(c3 true).trans (fD _)
   have hb3:=aiI (M:=M) (n:=i) bw wl (by omega) (k:=k) (by omega) i (sQ M i k)
   have ea:=CR (JE ws M i (C7 ws M i) k i (sQ M i k)) q (by omega) (by omega)
   simp only[tI,g1,g4,g8,g9,g32,g33,g34,SF,ak,s1,s2,b1,c1,c2,c3',c5,ea,wk,wm1,wi1,wx,wt,wn,fD,mH,VX,Nat.reduceEqDiff,Nat.reduceAdd,Nat.reduceLeDiff,Nat.reduceLT,Nat.reduceSub]
   refine⟨k+1,by omega,by omega,c6.2 _ _ _ (by omega) (fW sN),?_,by (repeat' apply And.intro)<;>first | rfl | trivial | assumption⟩
   rw[JE,hqd]
   exact hT4
  ·have hke:k=ws.length:=by omega
   subst hke
   simp only[tI,g29,g33,g34,SF,wi,mH,VX,Nat.reduceEqDiff,Nat.reduceAdd,Nat.reduceLeDiff,Nat.reduceLT,Nat.reduceSub]
   exact⟨i+1,by omega,by omega,sN,hT,by (repeat' apply And.intro)<;>first | rfl | trivial | assumption⟩
 ·have nS:i=M:=by omega
  subst nS
  obtain⟨k1,k2⟩:=Qu (M:=i) bw wl (by omega)
  simp only[tR,g4,g8,g28,g29,cP,mH,VX,Nat.reduceEqDiff,Nat.reduceAdd,Nat.reduceLeDiff,Nat.reduceLT,Nat.reduceSub]
  refine UN (H8 _ k1 k2) rfl (Za (hT.fz (d:=5) hc kZ)) sN (Nat.le_refl _) fun v H2 H3 t1 t2 t3 => ?_
  simp only[g4,t1,t2,mH,VX,Nat.reduceEqDiff,Nat.reduceAdd,Nat.reduceLeDiff,Nat.reduceLT,Nat.reduceSub]
  exact t3
end Go.PM
namespace Go.PM
open Go.Lib
theorem Mu (x y:Int):TC 91 [VI x,VI y] (VI (min x y)):=by
 refine TC.walk ⟨true,false⟩ MQ rfl (Nat.le_of_ble_eq_true rfl) rfl rfl ?_
 by_cases h:x<y
 ·rw[show min x y=x by omega]
  simp only[C5,Ab,h,mH,VX,Nat.reduceEqDiff,Nat.reduceAdd,Nat.reduceLeDiff,Nat.reduceLT,Nat.reduceSub]
  exact aF rfl
 ·rw[show min x y=y by omega]
  simp only[C5,Ab,h,mH,VX,Nat.reduceEqDiff,Nat.reduceAdd,Nat.reduceLeDiff,Nat.reduceLT,Nat.reduceSub]
  exact aF rfl
end Go.PM
namespace Go.PM
open Go.Lib
set_option maxHeartbeats 8000000 in
set_option maxRecDepth 20000 in
theorem Jo (gs:List ByteArray) (nT:Int) (hb:gs.length≤1000000000∧∀x∈gs,x.size≤1000000000):FC 33 [fM gs,VI nT] (Xw (CG ((pA gs nT).getD [])) (pA gs nT).isSome):=by
 refine FC.Kf ⟨true,false⟩ JF (Nat.le_of_ble_eq_true rfl) fun n => ?_
 have e1:=KR gs hb.1 hb.2
 have e3:=O8 nT 1 12
 cases hr:BO gs with
 |
  none =>
  rw[hr,T4] at e1
  obtain⟨f1,f2,f3⟩:=L9 (n:=n) (bB:=pA gs nT) (sY (n:=n) (K:=[])) (Nat.le_refl _) (by unfold pA;rw[Ix hr])
  simp only[pW,mN,e1,f1,f2,eV,B3,List.length_replicate,mH,VX,Nat.reduceEqDiff,Nat.reduceAdd,Nat.reduceLeDiff,Nat.reduceLT,Nat.reduceSub]
  exact f3
 | some ws =>
 rw[hr,Ty] at e1
 obtain⟨bw,wl,_⟩:=E1 hr
 have e2:=Gt ws bw wl
 cases hwt:jP ws with
 |
  false =>
  rw[hwt] at e2
  obtain⟨f1,f2,f3⟩:=L9 (n:=n) (bB:=pA gs nT) (sY (n:=n) (K:=[])) (Nat.le_refl _) (by unfold pA;rw[Cu hr,hwt];rfl)
  simp only[pW,mN,e1,e2,f1,f2,eV,B3,List.length_replicate,Bool.not_false,mH,VX,Nat.reduceEqDiff,Nat.reduceAdd,Nat.reduceLeDiff,Nat.reduceLT,Nat.reduceSub]
  exact f3
 | true =>
 rw[hwt] at e2
 have hw:pO gs=some ws:=by rw[Cu hr,if_pos hwt]
 by_cases hl:1≤nT∧nT≤12
 case neg =>
  rw[decide_eq_false hl] at e3
  obtain⟨f1,f2,f3⟩:=L9 (n:=n) (bB:=pA gs nT) (sY (n:=n) (K:=[])) (Nat.le_refl _) (by unfold pA;rw[hw];exact if_neg hl)
  simp only[pW,mN,e1,e2,e3,f1,f2,eV,B3,List.length_replicate,Bool.not_true,Bool.not_false,mH,VX,Nat.reduceEqDiff,Nat.reduceAdd,Nat.reduceLeDiff,Nat.reduceLT,Nat.reduceSub]
  exact f3
 rw[decide_eq_true hl] at e3
 have D7:pA gs nT=vE (JL nT.toNat nT.toNat (C7 ws nT.toNat nT.toNat)):=by unfold pA;rw[hw];exact if_pos hl
 rw[D7]
 obtain⟨M,rfl⟩:∃M:Nat,nT=M:=⟨nT.toNat,by omega⟩
 simp only[Int.toNat_natCast]
 simp only[pW,mN,e1,e2,e3,eV,B3,List.length_replicate,Bool.not_true,Bool.not_false,mH,VX,Nat.reduceEqDiff,Nat.reduceAdd,Nat.reduceLeDiff,Nat.reduceLT,Nat.reduceSub]
 refine yC rfl (Jg M (by omega) (by simp)) fun r L hr => ?_
 rw[Q3] at hr
 obtain⟨b,g,c,rfl,hc,hT⟩:=hr.tb
 have sN:=fW (L:=L) (sY (n:=n) (K:=[]))
 have hlen:(List.replicate n bT.dead++[Sw]).length=n+1:=by simp
 rw[hlen] at hT
 generalize List.replicate n bT.dead++[Sw]++L=H at *
 simp only[mH,VX,Nat.reduceEqDiff,Nat.reduceAdd,Nat.reduceLeDiff,Nat.reduceLT,Nat.reduceSub]
 refine aQ (fun(i:Nat) ρ H1=>i≤M∧aH H1 n 0=some ([.tree [] .nil],1,true)∧Tb bZ (n+1) H.length M M b g (C7 ws M i) H1∧ρ 1=VI M∧ρ 4 = .ptr n 0 0 0∧ρ 6=aO bZ ws∧ρ 8 = .ref b g 0 M c∧ρ 9=VI i) (fun i=>M-i) 0
  ⟨Nat.zero_le _,sN,hT,by (repeat' apply And.intro)<;>first | rfl | trivial | assumption⟩ ?_
 clear sN hT
 rintro i ρ H1 ⟨hi,sN,hT,g1,g4,g6,g8,g9⟩
 by_cases cP:(i:Int)<(M:Int)
 ·have wi:IntKind.i64.wrap ((i:Int)+1)=((i+1:Nat):Int):=wN _ (by omega) (by omega)
  have wm1:IntKind.i64.wrap ((M:Int)-1)=((M-1:Nat):Int):=wN _ (by omega) (by omega)
  have wi1:IntKind.i64.wrap ((i:Int)-1)=(i:Int)-1:=wrap64 (by omega) (by omega)
  have wx:max 0 ((i:Int)-1)=((i-1:Nat):Int):=by omega
  simp only[tH,g1,g4,g6,g8,g9,cP,mH,VX,Nat.reduceEqDiff,Nat.reduceAdd,Nat.reduceLeDiff,Nat.reduceLT,Nat.reduceSub]
  refine aQ (fun(k:Nat) ρ H2=>k≤ws.length∧aH H2 n 0=some ([.tree [] .nil],1,true)∧Tb bZ (n+1) H.length M M b g (JE ws M i (C7 ws M i) k) H2∧ρ 1=VI M∧ρ 4 = .ptr n 0 0 0∧ρ 6=aO bZ ws∧ρ 8 = .ref b g 0 M c∧ρ 9=VI i∧ρ 10=VI k) (fun k=>ws.length-k) 0
   ⟨Nat.zero_le _,sN,hT,by (repeat' apply And.intro)<;>first | rfl | trivial | assumption⟩ ?_
  clear g1 g4 g6 g8 g9 sN hT
  rintro k ρ H2 ⟨hk,sN,hT,g1,g4,g6,g8,g9,g10⟩
  by_cases SF:(k:Int)<(ws.length:Int)
  ·obtain⟨q,hq⟩:∃q,ws[k]? = some q:=⟨_,List.getElem?_eq_getElem (by omega)⟩
   have hqd:ws.getD k 0=q:=by rw[List.getD_eq_getElem?_getD,hq];rfl
   have bq:=bw q (List.mem_of_getElem? hq)
   have ak:=fun H=>aI (f:=bZ) (t := .op) (H:=H) (size:=3) (k := .i64) hq rfl
   have wk:IntKind.i64.wrap ((k:Int)+1)=((k+1:Nat):Int):=wN _ (by omega) (by omega)
   have wt:IntKind.i64.wrap (((i-1:Nat):Int)+(k:Int))=((i-1+k:Nat):Int):=wN _ (by omega) (by omega)
   have wn:min ((M-1:Nat):Int) ((i-1+k:Nat):Int)=((sQ M i k:Nat):Int):=by unfold sQ;omega
   have hg:sQ M i k<M:=by unfold sQ;omega
   have sS:=hT.lt
   have em:=MS 0 ((i:Int)-1)
   have en:=Mu ((M-1:Nat):Int) ((i-1+k:Nat):Int)
   rw[wx] at em
   rw[wn] at en
   obtain⟨rb,rg,rc,c1,c2,c3,c4⟩:=hT.spot (i:=i) (j:=sQ M i k) (by omega) hg DC Zw
   obtain⟨H4,c5,c6,hT4,_⟩:=c4 n (JE ws M i (C7 ws M i) k i (sQ M i k)+q) (by omega)
   have b1:=hT.addr (c:=c) (i:=i) (by omega)
   have c3':=(c3 true).trans (jX _)
   have hb3:=aiI (M:=M) (n:=i) bw wl (by omega) (k:=k) (by omega) i (sQ M i k)
   have ea:=Er (JE ws M i (C7 ws M i) k i (sQ M i k)) q (by omega) (by omega)
   simp only[tO,g1,g4,g6,g8,g9,g10,SF,ak,em,en,b1,c1,c2,c3',c5,ea,wk,wm1,wi1,wt,List.length_map,jX,mH,VX,Nat.reduceEqDiff,Nat.reduceAdd,Nat.reduceLeDiff,Nat.reduceLT,Nat.reduceSub]
   refine⟨k+1,by omega,by omega,c6.2 _ _ _ (by omega) sN,?_,by (repeat' apply And.intro)<;>first | rfl | trivial | assumption⟩
   rw[JE,hqd]
   exact hT4
  ·have hke:k=ws.length:=by omega
   subst hke
   simp only[tO,g6,g9,g10,SF,wi,List.length_map,mH,VX,Nat.reduceEqDiff,Nat.reduceAdd,Nat.reduceLeDiff,Nat.reduceLT,Nat.reduceSub]
   exact⟨i+1,by omega,by omega,sN,hT,by (repeat' apply And.intro)<;>first | rfl | trivial | assumption⟩
 ·have nS:i=M:=by omega
  subst nS
  obtain⟨k1,k2⟩:=Qu (M:=i) bw wl (by omega)
  simp only[tH,g1,g4,g8,g9,cP,mH,VX,Nat.reduceEqDiff,Nat.reduceAdd,Nat.reduceLeDiff,Nat.reduceLT,Nat.reduceSub]
  refine UN (Js _ k1 k2) rfl (Za (hT.fz (d:=5) hc xW)) sN (Nat.le_refl _) fun v H2 H3 t1 t2 t3 => ?_
  simp only[g4,t1,t2,mH,VX,Nat.reduceEqDiff,Nat.reduceAdd,Nat.reduceLeDiff,Nat.reduceLT,Nat.reduceSub]
  exact t3
theorem Qc (gs:List ByteArray) (nT:Int):DK ((pA gs nT).getD []):=by
 have h0:DK []:=⟨by decide,fun x hx=>by cases hx⟩
 unfold pA
 split
 ·rename_i ws hw
  split
  ·rename_i hl
   cases ht:vE (JL nT.toNat nT.toNat (C7 ws nT.toNat nT.toNat)) with
   | none=>exact h0
   |
    some y =>
    obtain⟨j1,j2⟩:=TO (B:=100) ht fun r hr=>by
     obtain⟨a,_,rfl⟩:=JM hr
     rw[yT]
     omega
    exact⟨by rw[Option.getD_some,j1,DG];omega,j2⟩
  ·exact h0
 ·exact h0
end Go.PM
namespace Go.PM
def lR:aD:=(LS [LO 4 (.mv LF)] (LS [LO 5 (.mv (LI 1000000))] (LS [LM 16 0,LM 17 5,LO 18 (.call 32 [(LT 16),(LT 17)]),LM 5 18] (.seq (LS [LM 19 5,LO 20 (.bin .lss (LT 19) (LI 0))] (.cond (LT 20) (LS [LO 4 (.mv LG)] .ret) .skip)) (LS [LM 22 0,LO 23 (.call 34 [(LT 22),LF]),LM 24 1,LO 25 (.call 33 [(LT 23),(LT 24)]),LM 21 25,LO 26 (LX 21 0),LO 27 (LX 21 1),LO 6 (.new [(.slice none 0 0)]),LN (.store 1 (LT 6) (LT 26)),LM 7 27] (LS [LM 28 0,LO 29 (.call 34 [(LT 28),LF]),LM 8 29] (LS [LM 31 8,LM 32 1,LO 33 (.call 35 [(LT 31),(LT 32)]),LM 30 33,LO 34 (LX 30 0),LO 35 (LX 30 1),LO 9 (.new [(.slice none 0 0)]),LN (.store 1 (LT 9) (LT 34)),LM 10 35] (.seq (LS [LO 36 (.load true 1 (LT 9)),LO 37 (.load true 1 (LT 6)),LO 38 (.call 19 [(LT 36),(LT 37)]),LO 39 (.un .not (LT 38)),LM 40 39,LZ 40 41 (.mv (LT 10)),LZ 40 42 (.mv (LT 7)),LZ 40 43 (.eqb true (LT 41) (LT 42)),LO 44 (.pick (LT 40) LG (LT 43))] (.cond (LT 44) (LS [LO 4 (.mv LF)] .ret) .skip)) (.seq (LS [LM 45 8,LM 46 0,LO 47 (.call 34 [(LT 46),LF]),LO 48 (.call 36 [(LT 45),(LT 47)]),LO 49 (.un .not (LT 48))] (.cond (LT 49) (LS [LO 4 (.mv LF)] .ret) .skip)) (LS [LO 11 (.mv (LI 101))] (LS [LM 50 8,LM 51 11,LO 52 (.call 37 [(LT 50),(LT 51)]),LM 11 52] (.seq (LS [LM 53 11,LO 54 (.bin .lss (LT 53) (LI 0)),LM 55 54,LZ 55 56 (.load true 1 (LT 9)),LZ 55 57 (.load true 1 (LT 6)),LZ 55 58 (.call 19 [(LT 56),(LT 57)]),LZ 55 59 (.un .not (LT 58)),LO 60 (.pick (LT 55) LG (LT 59)),LM 61 60,LZ 61 62 (.mv (LT 10)),LZ 61 63 (.mv (LT 7)),LZ 61 64 (.eqb true (LT 62) (LT 63)),LO 65 (.pick (LT 61) LG (LT 64))] (.cond (LT 65) (LS [LO 4 (.mv LF)] .ret) .skip)) (LS [LO 12 (.mv (LI 101))] (LS [LO 66 (.load true 1 (LT 9)),LM 67 12,LO 68 (.call 22 [(LT 66),(LT 67)]),LM 12 68] (LS [LO 13 (.mv (LI 101))] (LS [LO 69 (.load true 1 (LT 9)),LM 70 13,LO 71 (.call 23 [(LT 69),(LT 70)]),LM 13 71] (.seq (LS [LM 72 13,LO 73 (.bin .lss (LT 72) (LI 0))] (.cond (LT 73) (LS [LO 4 (.mv LF)] .ret) .skip)) (.seq (LS [LM 74 13,LM 75 12,LO 76 (.bin .neq (LT 74) (LT 75))] (.cond (LT 76) (LS [LO 4 (.mv LF)] .ret) .skip)) (LS [LM 78 0,LO 79 (.call 34 [(LT 78),LG]),LM 80 1,LO 81 (.call 35 [(LT 79),(LT 80)]),LM 77 81,LO 82 (LX 77 0),LO 83 (LX 77 1),LO 14 (.new [(.slice none 0 0)]),LN (.store 1 (LT 14) (LT 82)),LM 15 83] (.seq (LS [LO 84 (.load true 1 (LT 14)),LO 85 (.load true 1 (LT 6)),LO 86 (.call 19 [(LT 84),(LT 85)]),LO 87 (.un .not (LT 86)),LM 88 87,LZ 88 89 (.mv (LT 15)),LZ 88 90 (.mv (LT 7)),LZ 88 91 (.eqb true (LT 89) (LT 90)),LO 92 (.pick (LT 88) LG (LT 91))] (.cond (LT 92) (LS [LO 4 (.mv LF)] .ret) .skip)) (LS [LO 13 (.mv (LI 101))] (LS [LO 93 (.load true 1 (LT 9)),LM 94 13,LO 95 (.call 23 [(LT 93),(LT 94)]),LM 13 95] (.seq (LS [LM 96 13,LO 97 (.bin .lss (LT 96) (LI 0))] (.cond (LT 97) (LS [LO 4 (.mv LF)] .ret) .skip)) (.seq (LS [LM 98 13,LM 99 12,LO 100 (.bin .neq (LT 98) (LT 99))] (.cond (LT 100) (LS [LO 4 (.mv LF)] .ret) .skip)) (LS [LO 4 (.mv LG)] .ret)))))))))))))))))))))))))
def oD:aR:=⟨101,[(.tmp 4)],lR⟩
theorem Br:gD 6=some oD:=by kernel_rfl
end Go.PM
namespace Go.PM
set_option maxHeartbeats 4000000 in
theorem Bq (s0:List ByteArray) (t1:Int) (XK:okS s0):TC 6 [fM s0,VI t1] (.sc (.bool true)):=by
 refine TC.walk ⟨true,false⟩ Br rfl (Nat.le_of_ble_eq_true rfl) (CL (gO _) rfl) rfl ?_
 have Z9:=Hz s0 (1000000) XK (by omega)
 by_cases aqD:szS s0 (1000000)<0
 ·rw[akS aqD (by omega)] at Z9
  simp only[oD,lR,Z9,Int.reduceNeg,Int.reduceLT,mH,VX,Nat.reduceEqDiff,Nat.reduceAdd,Nat.reduceLeDiff,Nat.reduceLT,Nat.reduceSub]
  exact aF rfl
 have anV:=amB (xs:=s0) (l:=1000000) (by omega)
 have aCD:=anV.1
 obtain⟨_,YC,hs0⟩:=anV
 have hb0:s0.length≤1000000000∧∀s∈s0,s.size≤1000000000:=⟨by omega,fun s h=>by have:=hs0 s h;omega⟩
 have t0':=fun b=>Il s0 b (by omega)
 have cs:=Jo s0 t1 hb0
 have ci:=JJ s0 t1 hb0
 have PR:=Qc s0 t1
 have hsn:=PR.n
 generalize D7:(pA s0 t1).getD []=val at *
 generalize (pA s0 t1).isSome=ok at *
 simp only[oD,lR,Z9,aqD,mH,VX,Nat.reduceEqDiff,Nat.reduceAdd,Nat.reduceLeDiff,Nat.reduceLT,Nat.reduceSub]
 refine abU (t0' false) rfl Hi (fun _=>rfl) fun r1 H1 p1 s1' => ?_
 simp only[mH,VX,Nat.reduceEqDiff,Nat.reduceAdd,Nat.reduceLeDiff,Nat.reduceLT,Nat.reduceSub]
 refine Lb cs rfl (fz2 (s1'.pre (List.prefix_refl _)).now (aF rfl)) CG.cB fun v2 H2 p2 v2' => ?_
 simp only[mH,VX,Nat.reduceEqDiff,Nat.reduceAdd,Nat.reduceLeDiff,Nat.reduceLT,Nat.reduceSub]
 have w2:=S5 (lo:=0) (H:=H2) v2'.ag3 (Nat.zero_le _)
 simp only[w2,mH,VX,Nat.reduceEqDiff,Nat.reduceAdd,Nat.reduceLeDiff,Nat.reduceLT,Nat.reduceSub]
 have p3:=List.prefix_append H2 [.row 0 [v2] 1 true]
 have q2:aH (H2++[.row 0 [v2] 1 true]) H2.length 0=some ([v2],1,true):=iZ
 generalize eh3:H2++[.row 0 [v2] 1 true]=H3 at *
 refine aaL (t0' false) rfl Hi (fun _=>rfl) fun b4 H4 p4 lo4 r4 => ?_
 simp only[mH,VX,Nat.reduceEqDiff,Nat.reduceAdd,Nat.reduceLeDiff,Nat.reduceLT,Nat.reduceSub]
 refine Lb ci rfl (fz2 (NT (fun _=>rfl) (cC (List.prefix_refl _) r4)) (aF rfl)) CG.cB fun v5 H5 p5 v5' => ?_
 simp only[mH,VX,Nat.reduceEqDiff,Nat.reduceAdd,Nat.reduceLeDiff,Nat.reduceLT,Nat.reduceSub]
 have w5:=S5 (lo:=0) (H:=H5) v5'.ag3 (Nat.zero_le _)
 simp only[w5,mH,VX,Nat.reduceEqDiff,Nat.reduceAdd,Nat.reduceLeDiff,Nat.reduceLT,Nat.reduceSub]
 have p6:=List.prefix_append H5 [.row 0 [v5] 1 true]
 have q5:aH (H5++[.row 0 [v5] 1 true]) H5.length 0=some ([v5],1,true):=iZ
 generalize eh6:H5++[.row 0 [v5] 1 true]=H6 at *
 have W6:=v2'.cB (dC.pre (((p3.trans p4).trans p5).trans p6))
 have G6:=v5'.cB (dC.pre p6)
 have cW6:=cC ((p4.trans p5).trans p6) q2
 have cG6:=q5
 have aW:=v2'.ag3
 have aG:=v5'.ag3
 have le2:=p2.length_le
 have le3:=p3.length_le
 have le4:=p4.length_le
 have le5:=p5.length_le
 have le6:=p6.length_le
 have bW:=iR q2
 have bG:=iR q5
 have kb:MO true (Value.bool ok) (Value.bool ok)=some (.bool false):=acD ok
 simp only[Iy aG cG6,Iy aW cW6,ZW PR G6.fz W6.fz,kb,mH,VX,Nat.reduceEqDiff,Nat.reduceAdd,Nat.reduceLeDiff,Nat.reduceLT,Nat.reduceSub]
 refine aaL (t0' false) rfl Hi (fun _=>rfl) fun b7 H7 p7 lo7 r7 => ?_
 simp only[mH,VX,Nat.reduceEqDiff,Nat.reduceAdd,Nat.reduceLeDiff,Nat.reduceLT,Nat.reduceSub]
 refine Df s0 (by omega) (cC ((p5.trans p6).trans p7) r4) r7 ?_
 simp only[mH,VX,Nat.reduceEqDiff,Nat.reduceAdd,Nat.reduceLeDiff,Nat.reduceLT,Nat.reduceSub]
 have W7:=W6.cB (dC.pre p7)
 have G7:=G6.cB (dC.pre p7)
 have cW7:=cC p7 cW6
 have cG7:=cC p7 cG6
 have bl4:=iR r4
 refine Ws (cC ((p5.trans p6).trans p7) r4) (Nat.zero_le _) (by omega) (by omega) fun x0 => ?_
 have W8:=(W7.cB (dC.set (x:=x0) (b:=b4) (by omega)))
 have G8:=(G7.cB (dC.set (x:=x0) (b:=b4) (by omega)))
 have cW8:=(cG (x:=x0) (b':=b4) (by omega) cW7)
 have cG8:=(cG (x:=x0) (b':=b4) (by omega) cG7)
 have k8:¬(101+(s0.length:Int))<0:=by omega
 simp only[k8,Iy aG cG8,Iy aW cW8,ZW PR G8.fz W8.fz,kb,mH,VX,Nat.reduceEqDiff,Nat.reduceAdd,Nat.reduceLeDiff,Nat.reduceLT,Nat.reduceSub]
 refine aeS G8 (Nat.zero_le _) (by omega) (by have:=PR.g;omega) (by omega) fun M1 ml mG mk => ?_
 have k0:¬(101+(cQ val:Int))<0:=by omega
 have k1:¬((101+(cQ val:Int))≠(101+(cQ val:Int))):=fun h=>h rfl
 have mW:=W8.cB (H':=M1) fun b g x h1 h2 h3=>mk b g x (by omega) h3
 have mcW:=mk _ _ _ (by omega) cW8
 have mcG:=mk _ _ _ (by omega) cG8
 simp only[Iy aG mcG,UR PR mG.fz,k0,ne_eq,not_true_eq_false,decide_false,mH,VX,Nat.reduceEqDiff,Nat.reduceAdd,Nat.reduceLeDiff,Nat.reduceLT,Nat.reduceSub]
 generalize M1=H9 at *
 refine abU (t0' true) rfl Hi (fun _=>rfl) fun r10 H10 p10 ayF => ?_
 simp only[mH,VX,Nat.reduceEqDiff,Nat.reduceAdd,Nat.reduceLeDiff,Nat.reduceLT,Nat.reduceSub]
 refine Lb ci rfl (fz2 (ayF.pre (List.prefix_refl _)).now (aF rfl)) CG.cB fun v11 H11 p11 akI => ?_
 simp only[mH,VX,Nat.reduceEqDiff,Nat.reduceAdd,Nat.reduceLeDiff,Nat.reduceLT,Nat.reduceSub]
 have w11:=S5 (lo:=0) (H:=H11) akI.ag3 (Nat.zero_le _)
 simp only[w11,mH,VX,Nat.reduceEqDiff,Nat.reduceAdd,Nat.reduceLeDiff,Nat.reduceLT,Nat.reduceSub]
 have p12:=List.prefix_append H11 [.row 0 [v11] 1 true]
 have q11:aH (H11++[.row 0 [v11] 1 true]) H11.length 0=some ([v11],1,true):=iZ
 generalize aA7:H11++[.row 0 [v11] 1 true]=H12 at *
 have aX:=akI.ag3
 have X1:=akI.cB (dC.pre p12)
 have cX:=q11
 have nW:=mW.cB (dC.pre ((p10.trans p11).trans p12))
 have nG:=mG.cB (dC.pre ((p10.trans p11).trans p12))
 have ncW:=cC ((p10.trans p11).trans p12) mcW
 have ncG:=cC ((p10.trans p11).trans p12) mcG
 simp only[Iy aX cX,Iy aW ncW,Iy aG ncG,ZW PR X1.fz nW.fz,kb,UR PR nG.fz,k0,ne_eq,not_true_eq_false,decide_false,mH,VX,Nat.reduceEqDiff,Nat.reduceAdd,Nat.reduceLeDiff,Nat.reduceLT,Nat.reduceSub]
 exact aF rfl
end Go.PM
namespace Go.PM
open Go.Proofs
theorem Es {P:Program} {w:World} {name:String} {d:DataW Unit}:∀ {l:List (String×DataW Unit)} {ps:List MemPlace},DataW.LaidVars P w l ps→(name,d)∈l →
  ∃g t cs fuel p,P.globalNamed name=some g∧(P.globals[g]?).map (·.type)=some t∧w.var? P name=some cs∧DataW.trod (fun _=>()) P w 0 (fun _=>true) false fuel t cs.toList=some (d,p)
 | [],_,_,hm=>by cases hm
 |
  (n,e)::r,ps,h,hm=>by
  obtain⟨g,t,cs,fuel,p,q,h1,h2,h3,h4,h5,_⟩:=h
  rcases List.mem_cons.1 hm with he | hm
  ·cases he
   exact⟨g,t,cs,fuel,p,h1,h2,h3,h4⟩
  ·exact Es h5 hm
theorem KN {W:World} {l:List (String×DataW Unit)} (hl:laidMetH Tryz.prog l W) (hp:(l.all fun x=>x.2.handleName?.isNone)=true) (hm:("internal/strconv.uint64pow10",Lib.tabData .u64 Lib.pow10Tab)∈l)
  {t e:TypeId} {n:Nat} (hty:(Tryz.prog.globals[3]?).map (·.type)=some t) (ht:Tryz.prog.underlying t=some (.array n e)) (he:Tryz.prog.underlying e=some (.int .u64)) (hce:Tryz.prog.cellsOf e=1) (hct:Tryz.prog.cellsOf t=n):Po W:=by
 rw[MakeChecks.laidMetH_plain _ _ _ hp] at hl
 obtain⟨ps,h1,_⟩:=hl
 obtain⟨g',t',cs,fuel,p,ZT,ht',ZF,hd⟩:=Es h1 hm
 have hg:Tryz.prog.globalNamed "internal/strconv.uint64pow10"=some 3:=by kernel_rfl
 obtain rfl:=Option.some.inj (hg.symm.trans ZT)
 obtain rfl:=Option.some.inj (hty.symm.trans ht')
 have NW:=Lib.cells_of_tab ht he hce hct hd
 intro x hx
 have Pa:x=(3,(Lib.pow10Tab.map fun z=>Value.int .u64 z).toArray):=by simpa[adY] using hx
 subst Pa
 unfold World.var? at ZF
 rw[hg,Option.bind_some] at ZF
 split at ZF
 ·rename_i Ae e' fz' hh
  cases ZF
  refine⟨e',fz',?_⟩
  rw[←NW]
  simpa using hh
 ·cases ZF
end Go.PM