/- Texts of a claim, in one: part 14. -/
import Derived.KernelRfl
import Derived.Lib.LaidTab
import Derived.LaidLaws
import Derived.LaidMore
import Derived.MakeChecks
import Derived.Handed
import Derived.Test.YtjmflicajplclaaGreatDoorKBm
set_option linter.unusedSimpArgs false
set_option linter.unusedVariables false
namespace Go.PM
open Go.Lib
theorem KM (a:ByteArray):∃z b,Ef (pQ a) = .dQ [z,VB b]∧(aB z).length=3∧(aB z).all bS=true∧b=(yI a).isSome∧∀q,yI a=some q→z=aY q:=by
 cases hx:yI a with
 | none=>obtain⟨z,h1,h2,h3⟩:=aeS hx;exact⟨z,false,h1,h2,h3,rfl,fun q h=>by cases h⟩
 | some q=>exact⟨aY q,true,abS hx,nD q,uK q,rfl,fun p h=>by cases h;rfl⟩
theorem Tx {k:Nat} {K:aA} {x y:VV} (hK:K[k]? = some (.row 0 [x] 3 true)) (hy:(aB y).length=3) (hs:(aB y).all bS=true):bQ 0 3 (.ptr k 0 0 0) y K=some (K.set k (.row 0 [y] 3 true)):=by
 have hr:aJ K k 0=some ([x],3,true):=by rw[cK];exact hK
 rw[bZ (e:=3) hr (by exact Nat.zero_lt_one) (by omega) hy hs]
 rfl
def DM (n:Nat) (qs:List Rat) (H:aA):Prop:=∀k q,qs[k]? = some q→aJ H (n+k) 0=some ([aY q],3,true)
theorem DM.out {n lo hi:Nat} {qs:List Rat} {H H':aA} (h:DM n qs H) (o:Pw lo hi H H') (hl:n+qs.length≤lo):DM n qs H':=fun k q hk=>by
 have:=(List.getElem?_eq_some_iff.1 hk).1
 exact o.2 _ _ _ (by omega) (h k q hk)
theorem DM.app {n:Nat} {qs:List Rat} {H L:aA} (h:DM n qs H):DM n qs (H++L):=fun k q hk=>cI (h k q hk)
theorem DM.ld {n k:Nat} {q:Rat} {qs:List Rat} {H:aA} (h:DM n qs H) (hk:qs[k]? = some q):cC true 3 (.ptr (n+k) 0 0 0) H=some (aY q):=axO (h k q hk)
end Go.PM
namespace Go.PM
open Go.Lib
def bT (bs:List ByteArray):VV:=match yC bs with
 | some l => .dQ [aM aY l,VB (decide (l.length≤12)&&jN l)]
 | none => .dQ [.tree [] .op,VB false]
theorem Me (bs:List ByteArray) (hb:bs.length≤1000000000∧∀x∈bs,x.size≤1000000000):TC 164 [eG bs] (bT bs):=by
 have e1:=OX bs hb.1 hb.2
 unfold bT
 cases hr:yC bs with
 |
  none =>
  refine TC.walk ⟨true,false⟩ Dv rfl (Nat.le_of_ble_eq_true rfl) (XM (dG _)) (tM (by decide) rfl) ?_
  rw[hr,WL] at e1
  simp only[wE,rV,e1,eO,VX,Nat.reduceEqDiff,Nat.reduceAdd,Nat.reduceLeDiff,Nat.reduceLT,Nat.reduceSub]
  exact aE (mZ rfl rfl)
 |
  some l =>
  refine TC.walk ⟨true,false⟩ Dv rfl (Nat.le_of_ble_eq_true rfl) (XM (dG _)) (tM (B5 _) rfl) ?_
  rw[hr,Xk] at e1
  obtain⟨h1,h2,_⟩:=CA hr
  have e2:=I7 l h1 h2
  by_cases h:(l.length:Int)≤12
  ·have h':l.length≤12:=by omega
   simp only[wE,rV,e1,e2,h,h',List.length_map,decide_true,Bool.true_and,eO,VX,Nat.reduceEqDiff,Nat.reduceAdd,Nat.reduceLeDiff,Nat.reduceLT,Nat.reduceSub]
   exact aE (mZ (sY _) rfl)
  ·have h':¬l.length≤12:=by omega
   simp only[wE,rV,e1,e2,h,h',List.length_map,decide_false,Bool.false_and,eO,VX,Nat.reduceEqDiff,Nat.reduceAdd,Nat.reduceLeDiff,Nat.reduceLT,Nat.reduceSub]
   exact aE (mZ (sY _) rfl)
def amM (o:Option (Nat×List Dp)) (ws:List Rat):VV:=match o with
 | some p => .dQ [aM (aM aY) (qZ p),aM aY ws,VB true]
 | none => .dQ [.tree [] .op,.tree [] .op,VB false]
theorem afK (o:Option (Nat×List Dp)) (ws:List Rat):fX (amM o ws)=true:=by
 unfold amM
 split
 ·exact Ic (aiY _) (B5 _) rfl
 ·exact Ic (by decide) (by decide) rfl
set_option maxHeartbeats 8000000 in
set_option maxRecDepth 20000 in
theorem Im (a:ByteArray) (bs:List ByteArray) (s:ByteArray) (iY:Int) (wh:Bool) (ha:a.size≤1000000000) (hb:bs.length≤1000000000∧∀x∈bs,x.size≤1000000000) (hs:s.size≤1000000000):TC 107 [sV a,eG bs,sV s,VI iY,VB wh] (amM (gK a bs s iY wh) ((gE bs).getD [])):=by
 refine TC.walk ⟨true,false⟩ Je rfl (Nat.le_of_ble_eq_true rfl) (R2 rfl (dG _) rfl rfl rfl) (afK _ _) ?_
 have e1:=EY a ha
 have e2:=EY s hs
 have e3:=Me bs hb
 have e4:=Ma iY
 have bad:gK a bs s iY wh=none→∀H,PM.fz depth H (.dQ [.tree [] .nil,.tree [] .nil,VB false])=some (amM (gK a bs s iY wh) ((gE bs).getD [])):=fun h H=>by rw[h];exact MC (d:=6) zH zH (aI (v:=VB false) rfl)
 obtain⟨z1,b1,k1,k2,k3,k4,k5⟩:=KM a
 obtain⟨z2,b2,l1,l2,l3,l4,l5⟩:=KM s
 rw[k1] at e1
 rw[l1] at e2
 have t1:bQ 0 3 (.ptr 0 0 0 0) z1 [cell0]=some [.row 0 [z1] 3 true]:=Tx (k:=0) rfl k2 k3
 have t2:bQ 0 3 (.ptr 1 0 0 0) z2 [.row 0 [z1] 3 true,cell0]=some [.row 0 [z1] 3 true,.row 0 [z2] 3 true]:=Tx (k:=1) rfl l2 l3
 have axK:∀ {bb:Bool} (o:Option Rat),bb=false→bb=o.isSome→o=none:=fun o h1 h2=>by
  rw[h1] at h2
  cases o with
  | none=>rfl
  | some q=>cases h2
 obtain⟨zl,bl,m1,m2,m3⟩:∃zl bl,bT bs = .dQ [zl,VB bl]∧(bl=true→∃ws,gE bs=some ws∧ws.length≤12∧zl=aM aY ws)∧(bl=false→∀ws,gE bs=some ws→¬ws.length≤12):=by
  unfold bT
  cases hr:yC bs with
  | none=>exact⟨_,_,rfl,(fun h=>by cases h),fun _ ws h=>by rw[Ly hr] at h;cases h⟩
  |
   some l =>
   refine⟨_,_,rfl,fun h => ?_,fun h ws hw => ?_⟩
   ·rw[Bool.and_eq_true] at h
    exact⟨l,by rw[EC hr,if_pos h.2],of_decide_eq_true h.1,rfl⟩
   ·rw[EC hr] at hw
    split at hw
    ·rename_i hwt
     cases hw
     rw[hwt,Bool.and_true] at h
     exact of_decide_eq_false h
    ·cases hw
 rw[m1] at e3
 cases C2:b1 with
 |
  false =>
  subst C2
  have hn:gK a bs s iY wh=none:=by unfold gK;rw[axK _ rfl k4]
  simp only[lP,jD,e1,e2,e3,t1,t2,Bool.not_true,Bool.not_false,List.length_cons,List.length_nil,List.cons_append,List.nil_append,Nat.zero_add,eO,VX,Nat.reduceEqDiff,Nat.reduceAdd,Nat.reduceLeDiff,Nat.reduceLT,Nat.reduceSub]
  exact bad hn _
 | true =>
 subst C2
 obtain⟨x,hx⟩:=Option.isSome_iff_exists.1 k4.symm
 obtain rfl:=k5 x hx
 cases hb2:b2 with
 |
  false =>
  subst hb2
  have hn:gK a bs s iY wh=none:=by unfold gK;rw[hx,axK _ rfl l4]
  simp only[lP,jD,e1,e2,e3,t1,t2,Bool.not_true,Bool.not_false,List.length_cons,List.length_nil,List.cons_append,List.nil_append,Nat.zero_add,eO,VX,Nat.reduceEqDiff,Nat.reduceAdd,Nat.reduceLeDiff,Nat.reduceLT,Nat.reduceSub]
  exact bad hn _
 | true =>
 subst hb2
 obtain⟨y,hy⟩:=Option.isSome_iff_exists.1 l4.symm
 obtain rfl:=l5 y hy
 cases vB:bl with
 |
  false =>
  subst vB
  have hn:gK a bs s iY wh=none:=by
   unfold gK
   rw[hx,hy]
   cases hw:gE bs with
   | none=>rfl
   | some ws=>exact if_neg fun h=>m3 rfl ws hw h.1
  simp only[lP,jD,e1,e2,e3,t1,t2,Bool.not_true,Bool.not_false,List.length_cons,List.length_nil,List.cons_append,List.nil_append,Nat.zero_add,eO,VX,Nat.reduceEqDiff,Nat.reduceAdd,Nat.reduceLeDiff,Nat.reduceLT,Nat.reduceSub]
  exact bad hn _
 | true =>
 subst vB
 obtain⟨ws,hw,ajS,rfl⟩:=m2 rfl
 by_cases hl:1≤iY∧iY≤11
 case neg =>
  rw[decide_eq_false hl] at e4
  simp only[lP,jD,e1,e2,e3,e4,t1,t2,Bool.not_true,Bool.not_false,List.length_cons,List.length_nil,List.cons_append,List.nil_append,Nat.zero_add,eO,VX,Nat.reduceEqDiff,Nat.reduceAdd,Nat.reduceLeDiff,Nat.reduceLT,Nat.reduceSub]
  exact bad (by unfold gK;rw[hx,hy,hw];exact if_neg fun h=>hl h.2) _
 rw[decide_eq_true hl] at e4
 have hO:gK a bs s iY wh=some (iY.toNat+1,lK x y ws iY.toNat wh (iY.toNat+1)):=by unfold gK;rw[hx,hy,hw];exact if_pos ⟨ajS,hl⟩
 rw[hO,hw]
 obtain⟨M,rfl⟩:∃M:Nat,iY=M:=⟨iY.toNat,by omega⟩
 simp only[Int.toNat_natCast]
 have bx:=zB hx
 have bby:=Sr hy
 have bw:=GK hw
 have w1:IntKind.i64.wrap ((M:Int)+1)=((M+1:Nat):Int):=wN _ (by omega) (by omega)
 simp only[lP,jD,e1,e2,e3,e4,t1,t2,w1,Bool.not_true,Bool.not_false,List.length_cons,List.length_nil,List.cons_append,List.nil_append,Nat.zero_add,eO,VX,Nat.reduceEqDiff,Nat.reduceAdd,Nat.reduceLeDiff,Nat.reduceLT,Nat.reduceSub]
 have hR:DM 0 [x,y] [.row 0 [aY x] 3 true,.row 0 [aY y] 3 true]:=fun k q hk=>by
  match k,hk with
  | 0,hk=>cases hk;rfl
  | 1,hk=>cases hk;rfl
 refine Uk (by omega) (Nat.zero_le _) fun b g c L hc hT => ?_
 have hR:=hR.app (L:=L)
 simp only[List.length_cons,List.length_nil,Nat.reduceAdd] at hT
 generalize [cB.row 0 [aY x] 3 true,.row 0 [aY y] 3 true]++L=H at *
 simp only[eO,VX,Nat.reduceEqDiff,Nat.reduceAdd,Nat.reduceLeDiff,Nat.reduceLT,Nat.reduceSub]
 have hlen:∀n,n≤M+1→(lK x y ws M wh n).length≤156:=fun n hn=>by
  rw[CH]
  have:(ws.length+1)*n≤13*12:=Nat.mul_le_mul (by omega) (by omega)
  exact this
 have ld:∀ {K},DM 0 [x,y] K→cC true 3 (.ptr 0 0 0 0) K=some (aY x)∧cC true 3 (.ptr 1 0 0 0) K=some (aY y):=fun h=>⟨h.ld (k:=0) rfl,h.ld (k:=1) rfl⟩
 refine aV (fun(i:Nat) ρ H1=>i≤M+1∧DM 0 [x,y] H1∧Tq aY 2 H.length (M+1) b g (lK x y ws M wh i) H1∧ρ 3=VI M∧ρ 4=VB wh∧ρ 13 = .ptr 0 0 0 0∧ρ 15 = .ptr 1 0 0 0∧ρ 17=aM aY ws∧ρ 19 = .ref b g 0 (M+1) c∧ρ 20=VI i) (fun i=>M+1-i) 0
  ⟨Nat.zero_le _,hR,hT,by (repeat' apply And.intro)<;>first | rfl | trivial | assumption⟩ ?_
 clear hR hT
 rintro i ρ H1 ⟨hi,hR,hT,g3,g4,g13,g15,g17,g19,g20⟩
 have hgl:=hlen i hi
 by_cases cS:(i:Int)≤(M:Int)
 ·have wi:IntKind.i64.wrap ((i:Int)+1)=((i+1:Nat):Int):=wN _ (by omega) (by omega)
  simp only[sN,g3,g4,g13,g15,g17,g19,g20,cS,eO,VX,Nat.reduceEqDiff,Nat.reduceAdd,Nat.reduceLeDiff,Nat.reduceLT,Nat.reduceSub]
  refine aV (fun(k:Nat) ρ H2=>k≤ws.length∧DM 0 [x,y] H2∧Tq aY 2 H.length (M+1) b g (lK x y ws M wh i++sZ x ws M wh i k) H2∧ρ 3=VI M∧ρ 4=VB wh∧ρ 13 = .ptr 0 0 0 0∧ρ 15 = .ptr 1 0 0 0∧ρ 17=aM aY ws∧ρ 19 = .ref b g 0 (M+1) c∧ρ 20=VI i∧ρ 21=VI k) (fun k=>ws.length-k) 0
   ⟨Nat.zero_le _,hR,by rw[sZ,List.append_nil];exact hT,by (repeat' apply And.intro)<;>first | rfl | trivial | assumption⟩ ?_
  clear g3 g4 g13 g15 g17 g19 g20 hT hR
  rintro k ρ H2 ⟨hk,hR,hT,g3,g4,g13,g15,g17,g19,g20,g21⟩
  obtain⟨q1,q2⟩:=ld hR
  have hkl:=CE (x:=x) (ws:=ws) (iY:=M) (w:=wh) (n:=i) k
  by_cases O6:(k:Int)<(ws.length:Int)
  ·obtain⟨q,hq⟩:∃q,ws[k]? = some q:=⟨_,List.getElem?_eq_getElem (by omega)⟩
   have hqd:ws.getD k 0=q:=by rw[List.getD_eq_getElem?_getD,hq];rfl
   have bq:=bw q (List.mem_of_getElem? hq)
   have ak:=fun H=>aK (f:=aY) (t := .op) (H:=H) (size:=3) (k := .i64) hq rfl
   have wk:IntKind.i64.wrap ((k:Int)+1)=((k+1:Nat):Int):=wN _ (by omega) (by omega)
   have wt:IntKind.i64.wrap ((i:Int)+(k:Int))=((i+k:Nat):Int):=wN _ (by omega) (by omega)
   have em:=L5 x q (by omega) (by omega)
   have hct:=Nv (n:=i) (k:=k) (iY:=M) (w:=wh) (by omega)
   have bm:aZ (x*q)≤1331:=by have:=Fo x q;omega
   have hl4:(lK x y ws M wh i++sZ x ws M wh i k).length<400:=by rw[List.length_append];omega
   by_cases hgt:(M:Int)<((i+k:Nat):Int)
   ·have hc0:¬i+k≤M:=by omega
    cases wh with
    |
     true =>
     have hce:oW i k M true=i:=by unfold oW;rw[if_neg hc0,if_pos rfl]
     simp only[iL,g3,g4,g13,g17,g19,g20,g21,O6,hgt,wt,ak,q1,em,List.length_map,dJ,eO,VX,Nat.reduceEqDiff,Nat.reduceAdd,Nat.reduceLeDiff,Nat.reduceLT,Nat.reduceSub]
     refine It hT i i (x*q) (by omega) (by omega) (by omega) bm hl4 fun _ H3 o3 hT3 => ?_
     simp only[g21,wk,eO,VX,Nat.reduceEqDiff,Nat.reduceAdd,Nat.reduceLeDiff,Nat.reduceLT,Nat.reduceSub]
     exact⟨k+1,by omega,by omega,hR.out o3 (by simp),by rw[sZ,hqd,hce,←List.append_assoc];exact hT3,by (repeat' apply And.intro)<;>first | rfl | trivial | assumption⟩
    |
     false =>
     have hce:oW i k M false=M:=by unfold oW;rw[if_neg hc0,if_neg (by decide)]
     simp only[iL,g3,g4,g13,g17,g19,g20,g21,O6,hgt,wt,ak,q1,em,List.length_map,dJ,eO,VX,Nat.reduceEqDiff,Nat.reduceAdd,Nat.reduceLeDiff,Nat.reduceLT,Nat.reduceSub]
     refine It hT i M (x*q) (by omega) (by omega) (by omega) bm hl4 fun _ H3 o3 hT3 => ?_
     simp only[g21,wk,eO,VX,Nat.reduceEqDiff,Nat.reduceAdd,Nat.reduceLeDiff,Nat.reduceLT,Nat.reduceSub]
     exact⟨k+1,by omega,by omega,hR.out o3 (by simp),by rw[sZ,hqd,hce,←List.append_assoc];exact hT3,by (repeat' apply And.intro)<;>first | rfl | trivial | assumption⟩
   ·have hce:oW i k M wh=i+k:=by unfold oW;rw[if_pos (by omega)]
    simp only[iL,g3,g4,g13,g17,g19,g20,g21,O6,hgt,wt,ak,q1,em,List.length_map,dJ,eO,VX,Nat.reduceEqDiff,Nat.reduceAdd,Nat.reduceLeDiff,Nat.reduceLT,Nat.reduceSub]
    refine It hT i (i+k) (x*q) (by omega) (by omega) (by omega) bm hl4 fun _ H3 o3 hT3 => ?_
    simp only[g21,wk,eO,VX,Nat.reduceEqDiff,Nat.reduceAdd,Nat.reduceLeDiff,Nat.reduceLT,Nat.reduceSub]
    exact⟨k+1,by omega,by omega,hR.out o3 (by simp),by rw[sZ,hqd,hce,←List.append_assoc];exact hT3,by (repeat' apply And.intro)<;>first | rfl | trivial | assumption⟩
  ·have hke:k=ws.length:=by omega
   subst hke
   have hl4:(lK x y ws M wh i++sZ x ws M wh i ws.length).length<400:=by rw[List.length_append];omega
   by_cases h0:(0:Int)<(i:Int)
   ·have u6:IntKind.i64.wrap ((i:Int)-1)=((i-1:Nat):Int):=wN _ (by omega) (by omega)
    simp only[iL,g3,g4,g13,g15,g17,g19,g20,g21,O6,h0,wi,u6,q2,List.length_map,dJ,eO,VX,Nat.reduceEqDiff,Nat.reduceAdd,Nat.reduceLeDiff,Nat.reduceLT,Nat.reduceSub]
    refine It hT i (i-1) y (by omega) (by omega) (by omega) bby.1 hl4 fun _ H3 o3 hT3 => ?_
    simp only[g20,wi,eO,VX,Nat.reduceEqDiff,Nat.reduceAdd,Nat.reduceLeDiff,Nat.reduceLT,Nat.reduceSub]
    exact⟨i+1,by omega,by omega,hR.out o3 (by simp),by rw[lK,←List.append_assoc];exact hT3,by (repeat' apply And.intro)<;>first | rfl | trivial | assumption⟩
   ·have hi0:i=0:=by omega
    subst hi0
    have hT3:=hT.same (i:=0) (q:=y) bby.1 hl4
    simp only[iL,g3,g4,g13,g15,g17,g19,g20,g21,O6,h0,wi,List.length_map,dJ,eO,VX,Nat.reduceEqDiff,Nat.reduceAdd,Nat.reduceLeDiff,Nat.reduceLT,Nat.reduceSub]
    exact⟨0+1,by omega,by omega,hR,by rw[lK,←List.append_assoc];exact hT3,by (repeat' apply And.intro)<;>first | rfl | trivial | assumption⟩
 ·have mI:i=M+1:=by omega
  subst mI
  simp only[sN,g3,g17,g19,g20,cS,eO,VX,Nat.reduceEqDiff,Nat.reduceAdd,Nat.reduceLeDiff,Nat.reduceLT,Nat.reduceSub]
  exact MC (d:=6) (hT.t.fz (d:=4) hc sS) (aI (sY _)) (aI (v:=VB true) rfl)
set_option maxHeartbeats 4000000 in
theorem Jh (a:ByteArray) (bs:List ByteArray) (s:ByteArray) (iY:Int) (wh:Bool) (ha:a.size≤1000000000) (hb:bs.length≤1000000000∧∀x∈bs,x.size≤1000000000) (hs:s.size≤1000000000):FC 42 [sV a,eG bs,sV s,VI iY,VB wh] (Ym (CG ((Aq a bs s iY wh).getD [])) (Aq a bs s iY wh).isSome):=by
 refine FC.KK ⟨true,false⟩ I6 (Nat.le_of_ble_eq_true rfl) fun n => ?_
 have e1:=Im a bs s iY wh ha hb hs
 cases hO:gK a bs s iY wh with
 |
  none =>
  rw[hO] at e1
  have e1:TC 107 [sV a,eG bs,sV s,VI iY,VB wh] (.dQ [.tree [] .op,.tree [] .op,VB false]):=e1
  obtain⟨f1,f2,f3⟩:=ahH (n:=n) (bK:=Aq a bs s iY wh) (BC (n:=n) (K:=[])) (Nat.le_refl _) (by unfold Aq Hj;rw[hO];rfl)
  simp only[xF,tR,e1,f1,f2,Bool.not_false,gW,Gx,List.length_replicate,eO,VX,Nat.reduceEqDiff,Nat.reduceAdd,Nat.reduceLeDiff,Nat.reduceLT,Nat.reduceSub]
  exact f3
 |
  some p =>
  have hQ:=Fy hO
  have DY:Aq a bs s iY wh=xS (nK (qZ p)):=by unfold Aq Hj;rw[hO];rfl
  rw[DY]
  rw[hO] at e1
  have e1:TC 107 [sV a,eG bs,sV s,VI iY,VB wh] (.dQ [aM (aM aY) (qZ p),aM aY ((gE bs).getD []),VB true]):=e1
  simp only[xF,tR,e1,Bool.not_true,gW,Gx,List.length_replicate,eO,VX,Nat.reduceEqDiff,Nat.reduceAdd,Nat.reduceLeDiff,Nat.reduceLT,Nat.reduceSub]
  refine iM rfl (N9 (H:=List.replicate n cB.dead++[apI]) (v:=aM (aM aY) (qZ p)) (qZ p) (n:=p.1) (B:=600000) (RdT.tree nD) (by simp) C6 (by have:=hQ.n;omega) (by decide) hQ.rows hQ.ayY) fun x L hx => ?_
  simp only[eO,VX,Nat.reduceEqDiff,Nat.reduceAdd,Nat.reduceLeDiff,Nat.reduceLT,Nat.reduceSub]
  refine R3 (Mq _ hQ.told.1 hQ.told.2) rfl (fz1 (hx.fz sS)) (cI (BC (n:=n) (K:=[]))) (Nat.le_refl _) fun v H2 H3 t1 t2 t3 => ?_
  simp only[t1,t2,eO,VX,Nat.reduceEqDiff,Nat.reduceAdd,Nat.reduceLeDiff,Nat.reduceLT,Nat.reduceSub]
  exact t3
end Go.PM
namespace Go.PM
theorem Hl (xs:List ByteArray) (left:Int) (hx:xs.length≤140737488355328) (hl:left<0 ∧ -1000000000000000≤left):TC 32 [eG xs,VI left] (VI (-1)):=by
 refine TC.walk ⟨true,false⟩ B8 rfl (Nat.le_of_ble_eq_true rfl) (GX (dG _) rfl) rfl ?_
 have w:IntKind.i64.wrap (left-(xs.length:Int))=left-(xs.length:Int):=wrap64 (by omega) (by omega)
 have h:left-(xs.length:Int)<0:=by omega
 simp only[uD,qN,w,h,VX,Nat.reduceEqDiff,Nat.reduceAdd]
 exact aE rfl
end Go.PM
namespace Go.PM
def iX:aD:=(LS [LO 10 (.mv LF)] (LS [LM 22 0,LO 23 (.slen (LT 22)),LO 24 (.bin .sub (LI 1000000) (LT 23)),LM 25 2,LO 26 (.slen (LT 25)),LO 27 (.bin .sub (LT 24) (LT 26)),LM 11 27] (LS [LM 28 1,LM 29 11,LO 30 (.call 32 [(LT 28),(LT 29)]),LM 11 30] (.seq (LS [LM 31 11,LO 32 (.bin .lss (LT 31) (LI 0))] (.cond (LT 32) (LS [LO 10 (.mv LG)] .ret) .skip)) (LS [LM 34 0,LM 35 1,LO 36 (.call 34 [(LT 35),LF]),LM 37 2,LM 38 3,LM 39 4,LO 40 (.call 42 [(LT 34),(LT 36),(LT 37),(LT 38),(LT 39)]),LM 33 40,LO 41 (LX 33 0),LO 42 (LX 33 1),LO 12 (.new [(.slice none 0 0)]),LN (.store 1 (LT 12) (LT 41)),LM 13 42] (LS [LM 43 1,LO 44 (.call 34 [(LT 43),LF]),LM 14 44] (LS [LM 46 0,LM 47 14,LM 48 2,LM 49 3,LM 50 4,LO 51 (.call 43 [(LT 46),(LT 47),(LT 48),(LT 49),(LT 50)]),LM 45 51,LO 52 (LX 45 0),LO 53 (LX 45 1),LO 15 (.new [(.slice none 0 0)]),LN (.store 1 (LT 15) (LT 52)),LM 16 53] (.seq (LS [LO 54 (.load true 1 (LT 15)),LO 55 (.load true 1 (LT 12)),LO 56 (.call 19 [(LT 54),(LT 55)]),LO 57 (.un .not (LT 56)),LM 58 57,LZ 58 59 (.mv (LT 16)),LZ 58 60 (.mv (LT 13)),LZ 58 61 (.eqb true (LT 59) (LT 60)),LO 62 (.pick (LT 58) LG (LT 61))] (.cond (LT 62) (LS [LO 10 (.mv LF)] .ret) .skip)) (.seq (LS [LM 63 14,LM 64 1,LO 65 (.call 34 [(LT 64),LF]),LO 66 (.call 36 [(LT 63),(LT 65)]),LO 67 (.un .not (LT 66))] (.cond (LT 67) (LS [LO 10 (.mv LF)] .ret) .skip)) (LS [LO 17 (.mv (LI 101))] (LS [LM 68 14,LM 69 17,LO 70 (.call 37 [(LT 68),(LT 69)]),LM 17 70] (.seq (LS [LM 71 17,LO 72 (.bin .lss (LT 71) (LI 0)),LM 73 72,LZ 73 74 (.load true 1 (LT 15)),LZ 73 75 (.load true 1 (LT 12)),LZ 73 76 (.call 19 [(LT 74),(LT 75)]),LZ 73 77 (.un .not (LT 76)),LO 78 (.pick (LT 73) LG (LT 77)),LM 79 78,LZ 79 80 (.mv (LT 16)),LZ 79 81 (.mv (LT 13)),LZ 79 82 (.eqb true (LT 80) (LT 81)),LO 83 (.pick (LT 79) LG (LT 82))] (.cond (LT 83) (LS [LO 10 (.mv LF)] .ret) .skip)) (LS [LO 18 (.mv (LI 101))] (LS [LO 84 (.load true 1 (LT 15)),LM 85 18,LO 86 (.call 22 [(LT 84),(LT 85)]),LM 18 86] (LS [LO 19 (.mv (LI 101))] (LS [LO 87 (.load true 1 (LT 15)),LM 88 19,LO 89 (.call 23 [(LT 87),(LT 88)]),LM 19 89] (.seq (LS [LM 90 19,LO 91 (.bin .lss (LT 90) (LI 0))] (.cond (LT 91) (LS [LO 10 (.mv LF)] .ret) .skip)) (.seq (LS [LM 92 19,LM 93 18,LO 94 (.bin .neq (LT 92) (LT 93))] (.cond (LT 94) (LS [LO 10 (.mv LF)] .ret) .skip)) (LS [LM 96 0,LM 97 1,LO 98 (.call 34 [(LT 97),LG]),LM 99 2,LM 100 3,LM 101 4,LO 102 (.call 43 [(LT 96),(LT 98),(LT 99),(LT 100),(LT 101)]),LM 95 102,LO 103 (LX 95 0),LO 104 (LX 95 1),LO 20 (.new [(.slice none 0 0)]),LN (.store 1 (LT 20) (LT 103)),LM 21 104] (.seq (LS [LO 105 (.load true 1 (LT 20)),LO 106 (.load true 1 (LT 12)),LO 107 (.call 19 [(LT 105),(LT 106)]),LO 108 (.un .not (LT 107)),LM 109 108,LZ 109 110 (.mv (LT 21)),LZ 109 111 (.mv (LT 13)),LZ 109 112 (.eqb true (LT 110) (LT 111)),LO 113 (.pick (LT 109) LG (LT 112))] (.cond (LT 113) (LS [LO 10 (.mv LF)] .ret) .skip)) (LS [LO 19 (.mv (LI 101))] (LS [LO 114 (.load true 1 (LT 15)),LM 115 19,LO 116 (.call 23 [(LT 114),(LT 115)]),LM 19 116] (.seq (LS [LM 117 19,LO 118 (.bin .lss (LT 117) (LI 0))] (.cond (LT 118) (LS [LO 10 (.mv LF)] .ret) .skip)) (.seq (LS [LM 119 19,LM 120 18,LO 121 (.bin .neq (LT 119) (LT 120))] (.cond (LT 121) (LS [LO 10 (.mv LF)] .ret) .skip)) (LS [LO 10 (.mv LG)] .ret)))))))))))))))))))))))))
def kG:aR:=⟨122,[(.tmp 10)],iX⟩
theorem Bj:fA 9=some kG:=by kernel_rfl
end Go.PM
namespace Go.PM
set_option maxHeartbeats 4000000 in
theorem Bg (s0:ByteArray) (s1:List ByteArray) (s2:ByteArray) (t3:Int) (t4:Bool) (hx0:s0.size≤140737488351232) (hx1:okS s1) (hx2:s2.size≤140737488351232) (hy1:s1.length≤140737488355328):TC 9 [sV s0,eG s1,sV s2,VI t3,VB t4] (.sc (.bool true)):=by
 refine TC.walk ⟨true,false⟩ Bj rfl (Nat.le_of_ble_eq_true rfl) (R2 rfl (dG _) rfl rfl rfl) rfl ?_
 have w0:IntKind.i64.wrap (1000000-(s0.size:Int))=1000000-(s0.size:Int):=wrap64 (by omega) (by omega)
 have w2:IntKind.i64.wrap (1000000-(s0.size:Int)-(s2.size:Int))=1000000-(s0.size:Int)-(s2.size:Int):=wrap64 (by omega) (by omega)
 by_cases lM:1000000-(s0.size:Int)-(s2.size:Int)<0
 ·have aCk:=Hl s1 (1000000-(s0.size:Int)-(s2.size:Int)) hy1 (by omega)
  simp only[kG,iX,w0,w2,xV,aCk,Int.reduceNeg,Int.reduceLT,eO,VX,Nat.reduceEqDiff,Nat.reduceAdd,Nat.reduceLeDiff,Nat.reduceLT,Nat.reduceSub]
  exact aE rfl
 have XE:s0.size≤1000000000:=by omega
 have hb2:s2.size≤1000000000:=by omega
 have arU:=J5 s1 (1000000-(s0.size:Int)-(s2.size:Int)) hx1 (by omega)
 by_cases ayD:szS s1 (1000000-(s0.size:Int)-(s2.size:Int))<0
 ·rw[arG ayD (by omega)] at arU
  simp only[kG,iX,w0,w2,xV,arU,Int.reduceNeg,Int.reduceLT,eO,VX,Nat.reduceEqDiff,Nat.reduceAdd,Nat.reduceLeDiff,Nat.reduceLT,Nat.reduceSub]
  exact aE rfl
 have awQ:=asQ (xs:=s1) (l:=1000000-(s0.size:Int)-(s2.size:Int)) (by omega)
 have aEs:=awQ.1
 obtain⟨_,hn1,OU⟩:=awQ
 have C2:s1.length≤1000000000∧∀s∈s1,s.size≤1000000000:=⟨by omega,fun s h=>by have:=OU s h;omega⟩
 have t1':=fun b=>Kf s1 b (by omega)
 have cs:=Jh s0 s1 s2 t3 t4 XE C2 hb2
 have ci:=HG s0 s1 s2 t3 t4 XE C2 hb2
 have SZ:=Sk s0 s1 s2 t3 t4
 have hsn:=SZ.n
 generalize DY:(Aq s0 s1 s2 t3 t4).getD []=val at *
 generalize (Aq s0 s1 s2 t3 t4).isSome=ok at *
 simp only[kG,iX,w0,w2,xV,arU,ayD,eO,VX,Nat.reduceEqDiff,Nat.reduceAdd,Nat.reduceLeDiff,Nat.reduceLT,Nat.reduceSub]
 refine aiT (t1' false) rfl Kq (fun _=>rfl) fun r1 H1 p1 s1' => ?_
 simp only[eO,VX,Nat.reduceEqDiff,Nat.reduceAdd,Nat.reduceLeDiff,Nat.reduceLT,Nat.reduceSub]
 refine NJ cs rfl (fz5 (aE rfl) (s1'.pre (List.prefix_refl _)).now (aE rfl) (aE rfl) (aE rfl)) CG.cJ fun v2 H2 p2 v2' => ?_
 simp only[eO,VX,Nat.reduceEqDiff,Nat.reduceAdd,Nat.reduceLeDiff,Nat.reduceLT,Nat.reduceSub]
 have w2:=W4 (lo:=0) (H:=H2) v2'.ag3 (Nat.zero_le _)
 simp only[w2,eO,VX,Nat.reduceEqDiff,Nat.reduceAdd,Nat.reduceLeDiff,Nat.reduceLT,Nat.reduceSub]
 have p3:=List.prefix_append H2 [.row 0 [v2] 1 true]
 have q2:aJ (H2++[.row 0 [v2] 1 true]) H2.length 0=some ([v2],1,true):=gI
 generalize eh3:H2++[.row 0 [v2] 1 true]=H3 at *
 refine ahW (t1' false) rfl Kq (fun _=>rfl) fun b4 H4 p4 lo4 r4 => ?_
 simp only[eO,VX,Nat.reduceEqDiff,Nat.reduceAdd,Nat.reduceLeDiff,Nat.reduceLT,Nat.reduceSub]
 refine NJ ci rfl (fz5 (aE rfl) (Q7 (fun _=>rfl) (cH (List.prefix_refl _) r4)) (aE rfl) (aE rfl) (aE rfl)) CG.cJ fun v5 H5 p5 v5' => ?_
 simp only[eO,VX,Nat.reduceEqDiff,Nat.reduceAdd,Nat.reduceLeDiff,Nat.reduceLT,Nat.reduceSub]
 have w5:=W4 (lo:=0) (H:=H5) v5'.ag3 (Nat.zero_le _)
 simp only[w5,eO,VX,Nat.reduceEqDiff,Nat.reduceAdd,Nat.reduceLeDiff,Nat.reduceLT,Nat.reduceSub]
 have p6:=List.prefix_append H5 [.row 0 [v5] 1 true]
 have q5:aJ (H5++[.row 0 [v5] 1 true]) H5.length 0=some ([v5],1,true):=gI
 generalize eh6:H5++[.row 0 [v5] 1 true]=H6 at *
 have W6:=v2'.cJ (dK.pre (((p3.trans p4).trans p5).trans p6))
 have G6:=v5'.cJ (dK.pre p6)
 have cW6:=cH ((p4.trans p5).trans p6) q2
 have cG6:=q5
 have aW:=v2'.ag3
 have aG:=v5'.ag3
 have le2:=p2.length_le
 have le3:=p3.length_le
 have le4:=p4.length_le
 have le5:=p5.length_le
 have le6:=p6.length_le
 have bW:=hJ q2
 have bG:=hJ q5
 have kb:Pv true (Value.bool ok) (Value.bool ok)=some (.bool false):=aiS ok
 simp only[Lx aG cG6,Lx aW cW6,afM SZ G6.fz W6.fz,kb,eO,VX,Nat.reduceEqDiff,Nat.reduceAdd,Nat.reduceLeDiff,Nat.reduceLT,Nat.reduceSub]
 refine ahW (t1' false) rfl Kq (fun _=>rfl) fun b7 H7 p7 lo7 r7 => ?_
 simp only[eO,VX,Nat.reduceEqDiff,Nat.reduceAdd,Nat.reduceLeDiff,Nat.reduceLT,Nat.reduceSub]
 refine Ew s1 (by omega) (cH ((p5.trans p6).trans p7) r4) r7 ?_
 simp only[eO,VX,Nat.reduceEqDiff,Nat.reduceAdd,Nat.reduceLeDiff,Nat.reduceLT,Nat.reduceSub]
 have W7:=W6.cJ (dK.pre p7)
 have G7:=G6.cJ (dK.pre p7)
 have cW7:=cH p7 cW6
 have cG7:=cH p7 cG6
 have bl4:=hJ r4
 refine ZI (cH ((p5.trans p6).trans p7) r4) (Nat.zero_le _) (by omega) (by omega) fun x1 => ?_
 have W8:=(W7.cJ (dK.set (x:=x1) (b:=b4) (by omega)))
 have G8:=(G7.cJ (dK.set (x:=x1) (b:=b4) (by omega)))
 have cW8:=(bX (x:=x1) (b':=b4) (by omega) cW7)
 have cG8:=(bX (x:=x1) (b':=b4) (by omega) cG7)
 have k8:¬(101+(s1.length:Int))<0:=by omega
 simp only[k8,Lx aG cG8,Lx aW cW8,afM SZ G8.fz W8.fz,kb,eO,VX,Nat.reduceEqDiff,Nat.reduceAdd,Nat.reduceLeDiff,Nat.reduceLT,Nat.reduceSub]
 refine alU G8 (Nat.zero_le _) (by omega) (by have:=SZ.g;omega) (by omega) fun M1 ml mG mk => ?_
 have k0:¬(101+(dD val:Int))<0:=by omega
 have k1:¬((101+(dD val:Int))≠(101+(dD val:Int))):=fun h=>h rfl
 have mW:=W8.cJ (H':=M1) fun b g x h1 h2 h3=>mk b g x (by omega) h3
 have mcW:=mk _ _ _ (by omega) cW8
 have mcG:=mk _ _ _ (by omega) cG8
 simp only[Lx aG mcG,YA SZ mG.fz,k0,ne_eq,not_true_eq_false,decide_false,eO,VX,Nat.reduceEqDiff,Nat.reduceAdd,Nat.reduceLeDiff,Nat.reduceLT,Nat.reduceSub]
 generalize M1=H9 at *
 refine aiT (t1' true) rfl Kq (fun _=>rfl) fun r10 H10 p10 aAP => ?_
 simp only[eO,VX,Nat.reduceEqDiff,Nat.reduceAdd,Nat.reduceLeDiff,Nat.reduceLT,Nat.reduceSub]
 refine NJ ci rfl (fz5 (aE rfl) (aAP.pre (List.prefix_refl _)).now (aE rfl) (aE rfl) (aE rfl)) CG.cJ fun v11 H11 p11 aqC => ?_
 simp only[eO,VX,Nat.reduceEqDiff,Nat.reduceAdd,Nat.reduceLeDiff,Nat.reduceLT,Nat.reduceSub]
 have w11:=W4 (lo:=0) (H:=H11) aqC.ag3 (Nat.zero_le _)
 simp only[w11,eO,VX,Nat.reduceEqDiff,Nat.reduceAdd,Nat.reduceLeDiff,Nat.reduceLT,Nat.reduceSub]
 have p12:=List.prefix_append H11 [.row 0 [v11] 1 true]
 have q11:aJ (H11++[.row 0 [v11] 1 true]) H11.length 0=some ([v11],1,true):=gI
 generalize aFL:H11++[.row 0 [v11] 1 true]=H12 at *
 have aX:=aqC.ag3
 have X1:=aqC.cJ (dK.pre p12)
 have cX:=q11
 have nW:=mW.cJ (dK.pre ((p10.trans p11).trans p12))
 have nG:=mG.cJ (dK.pre ((p10.trans p11).trans p12))
 have ncW:=cH ((p10.trans p11).trans p12) mcW
 have ncG:=cH ((p10.trans p11).trans p12) mcG
 simp only[Lx aX cX,Lx aW ncW,Lx aG ncG,afM SZ X1.fz nW.fz,kb,YA SZ nG.fz,k0,ne_eq,not_true_eq_false,decide_false,eO,VX,Nat.reduceEqDiff,Nat.reduceAdd,Nat.reduceLeDiff,Nat.reduceLT,Nat.reduceSub]
 exact aE rfl
end Go.PM
namespace Go.PM
open Go.Proofs
theorem Gb {P:Program} {w:World} {name:String} {d:DataW Unit}:∀ {l:List (String×DataW Unit)} {ps:List MemPlace},DataW.LaidVars P w l ps→(name,d)∈l →
  ∃g t cs fuel p,P.globalNamed name=some g∧(P.globals[g]?).map (·.type)=some t∧w.var? P name=some cs∧DataW.trod (fun _=>()) P w 0 (fun _=>true) false fuel t cs.toList=some (d,p)
 | [],_,_,hm=>by cases hm
 |
  (n,e)::r,ps,h,hm=>by
  obtain⟨g,t,cs,fuel,p,q,h1,h2,h3,h4,h5,_⟩:=h
  rcases List.mem_cons.1 hm with he | hm
  ·cases he
   exact⟨g,t,cs,fuel,p,h1,h2,h3,h4⟩
  ·exact Gb h5 hm
theorem NO {W:World} {l:List (String×DataW Unit)} (hl:laidMetH Tryz.prog l W) (hp:(l.all fun x=>x.2.handleName?.isNone)=true) (hm:("internal/strconv.uint64pow10",Lib.tabData .u64 Lib.pow10Tab)∈l)
  {t e:TypeId} {n:Nat} (hty:(Tryz.prog.globals[3]?).map (·.type)=some t) (ht:Tryz.prog.underlying t=some (.array n e)) (he:Tryz.prog.underlying e=some (.int .u64)) (hce:Tryz.prog.cellsOf e=1) (hct:Tryz.prog.cellsOf t=n):RF W:=by
 rw[MakeChecks.laidMetH_plain _ _ _ hp] at hl
 obtain⟨ps,h1,_⟩:=hl
 obtain⟨g',t',cs,fuel,p,hg',ht',ahM,hd⟩:=Gb h1 hm
 have hg:Tryz.prog.globalNamed "internal/strconv.uint64pow10"=some 3:=by kernel_rfl
 obtain rfl:=Option.some.inj (hg.symm.trans hg')
 obtain rfl:=Option.some.inj (hty.symm.trans ht')
 have O7:=Lib.cells_of_tab ht he hce hct hd
 intro x hx
 have SG:x=(3,(Lib.pow10Tab.map fun z=>Value.int .u64 z).toArray):=by simpa[alH] using hx
 subst SG
 unfold World.var? at ahM
 rw[hg,Option.bind_some] at ahM
 split at ahM
 ·rename_i Bt e' fz' hh
  cases ahM
  refine⟨e',fz',?_⟩
  rw[←O7]
  simpa using hh
 ·cases ahM
end Go.PM