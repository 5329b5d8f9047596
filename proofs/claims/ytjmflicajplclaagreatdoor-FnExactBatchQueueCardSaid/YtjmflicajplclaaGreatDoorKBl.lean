/- Texts of a claim, in one: part 12. -/
import Derived.KernelRfl
import Derived.Test.YtjmflicajplclaaGreatDoorKBk
set_option linter.unusedSimpArgs false
set_option linter.unusedVariables false
namespace Go.PM
open Go.Lib
section
variable {α:Type} {f:α→VV} {e:Nat}
def Q2 (f:α→VV) (e:Nat) (bK:List (List α)) (lo hi:Nat) (H:aA) (v:VV):Prop :=
 (v = .tree [] .nil∧bK=[])∨∃b g rs,lo≤b∧b<hi∧v = .ref b g 0 bK.length bK.length∧aJ H b g=some (rs.map oE,1,true)∧rs.map (·.xs)=bK∧Q3 f e lo hi b H rs
theorem Q2.rg {bK:List (List α)} {lo hi:Nat} {H:aA} {v:VV} (h:Q2 f e bK lo hi H v):RG f e bK lo hi H v:=by
 rcases h with h | ⟨b,g,rs,h1,h2,h3,h5,h6,h7⟩
 ·exact .inl h
 ·exact .inr ⟨b,g,_,rs,h1,h2,h3,Nat.le_refl _,h5,h6,h7⟩
theorem Q2.cJ {bK:List (List α)} {lo hi:Nat} {H H':aA} {v:VV} (h:Q2 f e bK lo hi H v) (hk:dK lo hi H H'):Q2 f e bK lo hi H' v:=by
 rcases h with h | ⟨b,g,rs,h1,h2,h3,h5,h6,h7⟩
 ·exact .inl h
 ·exact .inr ⟨b,g,rs,h1,h2,h3,hk _ _ _ h1 h2 h5,h6,h7.nd,fun r hr=>by
   obtain⟨k1,k2,k3,k4,k5⟩:=h7.row r hr
   exact⟨k1,k2,k3,k4,hk _ _ _ k1 k2 k5⟩⟩
theorem Q2.wide {bK:List (List α)} {lo hi iJ nH:Nat} {H:aA} {v:VV} (h:Q2 f e bK lo hi H v) (hl:iJ≤lo) (hh:hi≤nH):Q2 f e bK iJ nH H v:=by
 rcases h with h | ⟨b,g,rs,h1,h2,h3,h5,h6,h7⟩
 ·exact .inl h
 ·exact .inr ⟨b,g,rs,by omega,by omega,h3,h5,h6,h7.nd,fun r hr=>by
   obtain⟨k1,k2,k3,k4,k5⟩:=h7.row r hr
   exact⟨by omega,by omega,k3,k4,k5⟩⟩
theorem Q2.gM {bK:List (List α)} {lo hi:Nat} {H:aA} {v:VV} (h:Q2 f e bK lo hi H v):bS v=true∧aB v=[v]∧isAny v=false:=by
 rcases h with⟨rfl,rfl⟩ | ⟨b,g,rs,h1,h2,rfl,h3⟩<;>exact⟨rfl,rfl,rfl⟩
theorem Q2.apZ {bK:List (List α)} {lo hi:Nat} {H:aA} {v:VV} (h:Q2 f e bK lo hi H v):pW v H=some (VI bK.length):=by
 rcases h with⟨rfl,rfl⟩ | ⟨b,g,rs,h1,h2,rfl,h5,h6,h7⟩
 ·rfl
 ·exact eR h5
theorem Q2.snoc {bK:List (List α)} {lo iJ hi:Nat} {H:aA} {v:VV} (h:Q2 f e bK lo hi H v) (dV:iJ≤lo) (hn:bK.length≤1000000000) (r:xB α) (hhi:hi≤r.b) (yX:lo≤r.b) (hc:r.xs.length≤r.c) (hr:aJ H r.b r.g=some (r.xs.map f,e,true)) :
  ∃v' H3,eE iJ 1 24 v [.ref r.b r.g 0 r.xs.length r.c] H=some (v',H3)∧Q2 f e (bK++[r.xs]) lo H3.length H3 v'∧(∀b' g' x,b'<lo→aJ H b' g'=some x→aJ H3 b' g'=some x)∧H.length≤H3.length ∧
   (∀n,n≤lo→CJ n H→CJ n H3)∧(∀H0:aA,H0.length≤lo→H0 <+: H→H0 <+: H3)∧(∀b' g' x,aJ H b' g'=some x→(∀g0 n0 c0,v ≠ .ref b' g0 0 n0 c0)→aJ H3 b' g'=some x):=by
 have hb:=hJ hr
 rcases h with⟨rfl,rfl⟩ | ⟨b,g,rs,h1,h2,rfl,h5,h6,h7⟩
 ·refine⟨.ref H.length 0 0 1 1,H++[.row 0 [oE r] 1 true],by simp[eE,oE],.inr ⟨H.length,0,[r],by omega,by simp,rfl,gI,rfl,by simp,fun s hs => ?_⟩,fun _ _ _ _ h=>cI h,by simp,fun n hn hO=>hO.app (by simp[pJ,fO,oE];omega),fun H0 _ hp=>kZ hp,fun _ _ _ h _=>cI h⟩
  rw[List.mem_singleton] at hs
  subst hs
  exact⟨yX,by simp;omega,by omega,hc,cI hr⟩
 ·subst h6
  rw[List.length_map] at hn ⊢
  have tQ:=gG (f:=oE) (xs:=rs) (x:=r) (lo:=iJ) (bytes:=24) h5 rfl (by omega) (by decide) (by decide) (by omega)
  refine⟨_,_,tQ,.inr ⟨b,g+1,rs++[r],h1,by rw[List.length_set];exact hJ h5,by simp,cE h5,by simp,?_,fun s hs => ?_⟩,fun b' g' x vD h=>bX (by omega) h,by simp,fun n hn hO=>hO.set (by omega) ?_,fun H0 hl hp=>lY hp (by omega),fun b' g' x h fT=>bX (fun he=>fT g _ _ (by rw[he])) h⟩
  ·rw[List.map_append,List.nodup_append]
   refine⟨h7.nd,by simp,fun a ha c Vz => ?_⟩
   obtain⟨s,hs,rfl⟩:=List.mem_map.1 ha
   have:=h7.row s hs
   simp only[List.map_cons,List.map_nil,List.mem_singleton] at Vz
   omega
  ·rcases List.mem_append.1 hs with hs | hs
   ·obtain⟨k1,k2,k3,k4,k5⟩:=h7.row s hs
    exact⟨k1,by rw[List.length_set];exact hJ k5,k3,k4,bX (by omega) k5⟩
   ·rw[List.mem_singleton] at hs
    subst hs
    exact⟨yX,by rw[List.length_set];exact hb,by omega,hc,bX (by omega) hr⟩
  ·rw[Ey]
   intro x hx
   obtain⟨s,hs,rfl⟩:=List.mem_map.1 hx
   rcases List.mem_append.1 hs with hs | hs
   ·have:=h7.row s hs
    simp[oE,fO];omega
   ·rw[List.mem_singleton] at hs
    subst hs
    simp[oE,fO];omega
end
def LsO {α:Type} (f:α→VV) (e:Nat) (o:Option (List α)) (lo hi:Nat) (H:aA) (v:VV):Prop:=match o with
 | none=>v = .tree [] .nil
 | some ys=>K1 f e ys lo hi H v
theorem K1.cJ {α:Type} {f:α→VV} {e:Nat} {ys:List α}:∀ {lo hi H H' v},K1 f e ys lo hi H v→dK lo hi H H'→K1 f e ys lo hi H' v:=by
 rintro lo hi H H' v ⟨b,g,c,h1,h2,h3,h4,h5⟩ hk
 exact⟨b,g,c,h1,h2,h3,h4,hk _ _ _ h1 h2 h5⟩
theorem LsO.cJ {α:Type} {f:α→VV} {e:Nat} {o:Option (List α)}:∀ {lo hi H H' v},LsO f e o lo hi H v→dK lo hi H H'→LsO f e o lo hi H' v:=by
 intro lo hi H H' v h hk
 cases o with
 | none=>exact h
 | some ys=>exact K1.cJ h hk
theorem Jf {n n':Nat} {L:aA} (h:n≤n') (hL:eI n' L=true):eI n L=true:=by
 unfold eI at hL ⊢
 rw[List.all_eq_true] at hL ⊢
 intro x hx
 have:=hL x hx
 cases x with
 | dead=>rfl
 | row g es e w=>exact Ck h es this
theorem BJ {n:Nat} {H:aA} (h:n≤H.length):Ia H (List.replicate n .dead++List.replicate (H.length-n) .dead):=by
 refine⟨by simp;omega,fun b g es e w hb => ?_⟩
 rw[List.replicate_append_replicate] at hb
 have:=List.eq_of_mem_replicate (List.mem_of_getElem? hb)
 cases this
theorem BP {n k:Nat}:eI n (List.replicate k .dead)=true:=by
 unfold eI
 rw[List.all_eq_true]
 intro x hx
 rw[List.eq_of_mem_replicate hx]
def LD (q:Rat):ByteArray:=⟨(Gm q).toArray⟩
def Dg (qs:List Rat):Option (List ByteArray):=if qs.all xU=true then some (qs.map LD) else none
theorem UW {qs:List Rat} {q:Rat} (hq:q∈qs) (h:xU q=false):Dg qs=none:=if_neg (fun ha=>by
 rw[List.all_eq_true] at ha
 rw[ha q hq] at h
 cases h)
theorem Q1 {qs:List Rat} (h:∀q∈qs,xU q=true):Dg qs=some (qs.map LD):=if_pos (List.all_eq_true.2 h)
set_option maxHeartbeats 1000000 in
theorem L7 (qs:List Rat) (hn:qs.length≤1000000) (hb:∀q∈qs,aZ q≤1099511627776):FC 147 [aM aP qs] (Ym (LsO sV 1 (Dg qs)) (Dg qs).isSome):=by
 refine FC.KK ⟨true,false⟩ Mo (Nat.le_of_ble_eq_true rfl) fun n => ?_
 have e0:∀K,kD false [.string ⟨#[]⟩] 0 [] K=some (.ref K.length 0 0 0 0,K++[.row 0 [] 1 true]):=fun K=>gY rfl
 simp only[Gy,DF,e0,List.length_replicate,eO,VX,Nat.reduceEqDiff,Nat.reduceAdd,Nat.reduceLeDiff,Nat.reduceLT,Nat.reduceSub]
 refine IY (fun(i:Nat) ρ H=>i≤qs.length∧(∀q∈qs.take i,xU q=true)∧H=List.replicate n cB.dead++[cB.row i (((qs.take i).map LD).map sV) 1 true]∧ρ 4 = .ref n i 0 i i∧ρ 10=aM aP qs∧ρ 11=VI qs.length∧ρ 12=VI i) (fun i=>qs.length-i) 0 ⟨Nat.zero_le _,by simp,rfl,rfl,rfl,rfl,rfl⟩ ?_
 rintro i ρ H ⟨hi,sJ,rfl,g4,g10,g11,g12⟩
 have lF:aJ (List.replicate n cB.dead++[cB.row i (((qs.take i).map LD).map sV) 1 true]) n i=some (((qs.take i).map LD).map sV,1,true):=by rw[Dc,bB]
 by_cases cS:(i:Int)<(qs.length:Int)
 ·obtain⟨q,hq⟩:∃q,qs[i]? = some q:=⟨_,List.getElem?_eq_getElem (by omega)⟩
  have hqm:=List.mem_of_getElem? hq
  have a1:=fun H=>aK (f:=aP) (t := .op) (H:=H) (size:=3) (k := .i64) hq rfl
  have wi:IntKind.i64.wrap ((i:Int)+1)=((i+1:Nat):Int):=wrapN (i+1) (by omega) (by omega)
  have e2:=LH q (hb q hqm)
  have s1:=zP (lo:=n) (H:=List.replicate n cB.dead++[cB.row i (((qs.take i).map LD).map sV) 1 true]) (q:=q) (by simp)
  have s2:=Ik (H:=List.replicate n cB.dead++[cB.row i (((qs.take i).map LD).map sV) 1 true]) (K:=[]) (q:=q)
  cases hf:xU q with
  |
   false =>
   rw[hf] at e2
   rw[UW hqm hf]
   simp only[qF,g4,g10,g11,g12,cS,a1,e2,s1,s2,cZ,eO,VX,Nat.reduceEqDiff,Nat.reduceAdd,Nat.reduceLeDiff,Nat.reduceLT,Nat.reduceSub]
   exact⟨_,BJ (by simp),rfl,BP,.tree [] .nil,rfl,rfl⟩
  |
   true =>
   rw[hf] at e2
   have eL:∀H,kD false [.string ⟨#[]⟩] 1 [(0,bE (Gm q))] H=some (.tree [sV (LD q)] (.cl 1),H):=fun H=>fU rfl rfl rfl
   have eS:∀H,cT 1 (.tree [sV (LD q)] (.cl 1)) H=some [sV (LD q)]:=fun H=>dL rfl rfl
   have eP:eE n 1 16 (.ref n i 0 i i) [sV (LD q)] (List.replicate n cB.dead++[cB.row i (((qs.take i).map LD).map sV) 1 true]++[.row 0 [aP q] 3 true])=some (.ref n (i+1) 0 (i+1) (i+1),(List.replicate n cB.dead++[cB.row (i+1) (((qs.take (i+1)).map LD).map sV) 1 true])++[.row 0 [aP q] 3 true]):=by
    rw[gG (f:=sV) (xs:=(qs.take i).map LD) (cI lF) (by simp;omega) (Nat.le_refl _) (by decide) (by decide) (by omega),gH hq]
    simp only[List.map_append,List.append_assoc,CN]
    rfl
   simp only[qF,g4,g10,g11,g12,cS,a1,e2,s1,s2,eL,eS,eP,wi,cZ,eO,VX,Nat.reduceEqDiff,Nat.reduceAdd,Nat.reduceLeDiff,Nat.reduceLT,Nat.reduceSub]
   rw[List.take_left' (by simp)]
   refine⟨i+1,by omega,by rw[alL,yU (lZ _ (eW fun _=>rfl)),Fm],by omega,fun p hp => ?_,rfl,?_⟩
   ·rw[gH hq] at hp
    rcases List.mem_append.1 hp with h | h
    ·exact sJ p h
    ·rw[List.mem_singleton] at h;subst h;exact hf
   ·simp only[pO,g10,g11,wL (tA _),FM (show n<(List.replicate n cB.dead++[cB.row i (((qs.take i).map LD).map sV) 1 true]).length by simp),VX,Nat.reduceEqDiff,Nat.reduceAdd,List.take_zero,jK,List.all_nil,List.length_nil,pO,I1,wL]
 ·have mI:i=qs.length:=by omega
  subst mI
  rw[List.take_length] at sJ lF
  rw[Q1 sJ]
  simp only[qF,g4,g10,g11,g12,cS,List.take_length,eO,VX,Nat.reduceEqDiff,Nat.reduceAdd,Nat.reduceLeDiff,Nat.reduceLT,Nat.reduceSub]
  refine⟨_,⟨rfl,fun _ _ _ _ _ h=>h⟩,by simp[fO,pJ,lG],by simp only[eI,List.all_cons,List.all_nil,Bool.and_true];exact IG (fun _=>rfl) _,.ref n qs.length 0 qs.length qs.length,rfl,⟨n,qs.length,qs.length,Nat.le_refl _,by simp,by simp,by simp,lF⟩⟩
def xS (m:List (List Rat)):Option (List (List ByteArray)):=m.mapM Dg
theorem Qf {n lo:Nat} {args jC:List VV} {F:Nat} {P:Nat→Nat→aA→VV→Prop} {ok:Bool} {H:aA} {K:VV→aA→Prop} (h:FC F jC (Ym P ok)) (vO:Cf.contains F=true) (hf:args.mapM (PM.fz depth H)=some jC) (hO:CJ n H)
  (hP:∀ {lo hi H H' v},P lo hi H v→dK lo hi H H'→P lo hi H' v) (hk:∀v H',H <+: H'→CJ n H'→fO n v=true→P H.length H'.length H' v→K (.dQ [v,.sc (.bool ok)]) H'):cO F args lo H K:=by
 refine h.aeV vO hf ?_
 rintro r L ⟨v,rfl,hv⟩ hr hL
 have hvo:fO H.length v=true:=by
  simp only[fO,pJ,Bool.and_eq_true] at hr
  exact hr.1
 refine hk v _ (List.prefix_append _ _) (hO.pre ?_) (Qj hO.len v hvo) ?_
 ·exact Jf hO.len hL
 ·rw[List.length_append]
  exact hP hv dK.move
set_option maxHeartbeats 2000000 in
theorem JV (m:List (List Rat)) (hn:m.length≤1000000) (hb:∀r∈m,r.length≤1000000∧∀q∈r,aZ q≤1099511627776):FC 71 [aM (aM aP) m] (Ym (CG ((xS m).getD [])) (xS m).isSome):=by
 refine FC.KK ⟨true,false⟩ Jq (Nat.le_of_ble_eq_true rfl) fun n => ?_
 have s0:bQ n 1 (.ptr (n+1) 0 0 0) (.agg [.tree [] .nil]) (List.replicate n cB.dead++[cB.row 0 [.tree [] .nil] 1 true,.row 0 [.tree [] .nil] 1 true])=some (List.replicate n cB.dead++[cB.row 0 [.tree [] .nil] 1 true,.row 0 [.agg [.tree [] .nil]] 1 true]):=by
  rw[bZ (e:=1) (g:=0) (j:=0) (by rw[FN,nB,bB]) (by exact Nat.zero_lt_one) (by omega) rfl rfl,WK]
  rfl
 simp only[E6,B7,s0,Gx,List.length_replicate,List.length_cons,List.length_nil,List.append_assoc,List.cons_append,List.nil_append,gW,eO,VX,Nat.reduceEqDiff,Nat.reduceAdd,Nat.reduceLeDiff,Nat.reduceLT,Nat.reduceSub]
 refine aV (fun(i:Nat) ρ H=>i≤m.length∧CJ n H∧(∃x v bK,aJ H n 0=some ([.tree [] .nil],1,true)∧aJ H (n+1) 0=some ([x],1,true)∧aB x=[v]∧xS (m.take i)=some bK∧Q2 sV 1 bK (n+2) H.length H v)∧ρ 2 = .ptr n 0 0 0∧ρ 4 = .ptr (n+1) 0 0 0∧ρ 10=aM (aM aP) m∧ρ 11=VI m.length∧ρ 12=VI i) (fun i=>m.length-i) 0
  ⟨Nat.zero_le _,⟨[.row 0 [.tree [] .nil] 1 true,.row 0 [.agg [.tree [] .nil]] 1 true],rfl,rfl⟩,⟨.agg [.tree [] .nil],.tree [] .nil,[],by rw[Dc,bB],by rw[FN,nB,bB],rfl,rfl,.inl ⟨rfl,rfl⟩⟩,rfl,rfl,rfl,rfl,rfl⟩ ?_
 rintro i ρ H ⟨hi,hO,⟨x,v,bK,DR,HC,hx,HO,hv⟩,g2,g4,g10,g11,g12⟩
 have CC:=hJ HC
 by_cases cS:(i:Int)<(m.length:Int)
 ·obtain⟨r,hr⟩:∃r,m[i]? = some r:=⟨_,List.getElem?_eq_getElem (by omega)⟩
  have D1:=hb r (List.mem_of_getElem? hr)
  have a1:=fun H=>aK (f:=aM aP) (t := .op) (H:=H) (size:=1) (k := .i64) hr rfl
  have wi:IntKind.i64.wrap ((i:Int)+1)=((i+1:Nat):Int):=wrapN (i+1) (by omega) (by omega)
  simp only[uW,g2,g4,g10,g11,g12,cS,a1,eO,VX,Nat.reduceEqDiff,Nat.reduceAdd,Nat.reduceLeDiff,Nat.reduceLT,Nat.reduceSub]
  refine Qf (n:=n) (L7 r D1.1 D1.2) rfl (fz1 (aE (tA _))) hO LsO.cJ fun u H2 p2 hO2 _ hu => ?_
  cases ht:Dg r with
  |
   none =>
   rw[ht] at hu
   have hu:u = .tree [] .nil:=hu
   subst hu
   have atW:xS m=none:=mapM_none ht (List.mem_of_getElem? hr)
   rw[atW]
   have s1:bQ n 1 (.ptr n 0 0 0) (.agg [.tree [] .nil]) H2=some (H2.set n (.row 0 [.agg [.tree [] .nil]] 1 true)):=by
    rw[bZ (cH p2 DR) (by exact Nat.zero_lt_one) (Nat.le_refl _) rfl rfl]
    rfl
   have s2:cC true 1 (.ptr n 0 0 0) (H2.set n (.row 0 [.agg [.tree [] .nil]] 1 true))=some (.agg [.tree [] .nil]):=by
    rw[bP,cE (cH p2 DR)]
    rfl
   simp only[g2,g4,s1,s2,Option.isSome_none,eO,VX,Nat.reduceEqDiff,Nat.reduceAdd,Nat.reduceLeDiff,Nat.reduceLT,Nat.reduceSub]
   exact⟨_,BJ (by rw[List.length_set];have:=p2.length_le;omega),rfl,BP,.agg [.tree [] .nil],rfl,_,rfl,.inl ⟨rfl,rfl⟩⟩
  |
   some ys =>
   rw[ht] at hu
   obtain⟨b,g,c,k1,k2,rfl,k3,k4⟩:=hu
   ·have eL:∀K,kD false [.slice none 0 0] 1 [(0,.ref b g 0 ys.length c)] K=some (.tree [.ref b g 0 ys.length c] (.cl 1),K):=fun K=>fU rfl rfl rfl
    have eS:∀K,cT 1 (.tree [.ref b g 0 ys.length c] (.cl 1)) K=some [.ref b g 0 ys.length c]:=fun K=>dL rfl rfl
    obtain⟨v',H3,ap,Sf,cJ,hlen,Pb,AK,_⟩:=(hv.cJ (dK.pre p2)).snoc (iJ:=n) (by omega) (by rw[pY HO,List.length_take];omega) ⟨b,g,c,ys⟩ k1 (by simp only;omega) k3 k4
    have Wy:=cJ _ _ _ (by omega) (cH p2 HC)
    have l1:cC false 1 (.ptr (n+1) 0 0 0) H2=some v:=by
     rw[bP,cH p2 HC]
     simp[dM,hx]
    have l2:aJ H2 (n+1) 0=some ([x],1,true):=cH p2 HC
    have wZ:=Sf.gM
    have s1:bQ n 1 (.ptr (n+1) 0 0 0) v' H3=some (H3.set (n+1) (.row 0 [v'] 1 true)):=by
     rw[bZ Wy (by exact Nat.zero_lt_one) (by omega) (by rw[wZ.2.1];rfl) (by rw[wZ.2.1];simp[wZ.1])]
     rfl
    have hO3:=(Pb n (by omega) hO2).set (b:=n+1) (g:=0) (e:=1) (es:=[v']) (w:=true) (by omega) (by
     rcases Sf with⟨rfl,_⟩ | ⟨b',g',X2,q1,q2,rfl,_⟩
     ·rfl
     ·simp[pJ,fO];omega)
    simp only[g4,g12,wi,eL,eS,l1,ap,s1,Wy,l2,AO,Nat.add_zero,Option.isSome_some,eO,VX,Nat.reduceEqDiff,Nat.reduceAdd,Nat.reduceLeDiff,Nat.reduceLT,Nat.reduceSub]
    refine⟨i+1,by omega,by omega,hO3,⟨v',v',bK++[ys],bX (by omega) (cJ _ _ _ (by omega) (cH p2 DR)),cE Wy,wZ.2.1,?_,?_⟩,by (repeat' apply And.intro)<;>first | rfl | trivial | assumption⟩
    ·rw[gH hr]
     exact Ch HO ht
    ·rw[List.length_set]
     exact Sf.cJ (dK.set (by omega))
 ·have mI:i=m.length:=by omega
  subst mI
  rw[List.take_length] at HO
  rw[HO]
  have wZ:=hv.gM
  have l1:cC true 1 (.ptr (n+1) 0 0 0) H=some (.agg [v]):=by
   rw[bP,HC]
   simp[dM,hx]
  have s1:bQ n 1 (.ptr n 0 0 0) (.agg [v]) H=some (H.set n (.row 0 [.agg [v]] 1 true)):=by
   rw[bZ DR (by exact Nat.zero_lt_one) (Nat.le_refl _) rfl (by simp[aB,wZ.1])]
   rfl
  have s2:cC true 1 (.ptr n 0 0 0) (H.set n (.row 0 [.agg [v]] 1 true))=some (.agg [v]):=by
   rw[bP,cE DR]
   rfl
  simp only[uW,g2,g4,g10,g11,g12,cS,l1,s1,s2,Option.isSome_some,eO,VX,Nat.reduceEqDiff,Nat.reduceAdd,Nat.reduceLeDiff,Nat.reduceLT,Nat.reduceSub]
  have Pb:fO n v=true:=by
   rcases hv with⟨rfl,_⟩ | ⟨b',g',X2,q1,q2,rfl,_⟩
   ·rfl
   ·simp[fO];omega
  obtain⟨L,rfl,hL⟩:=hO
  refine⟨L.set 0 (.row 0 [.agg [v]] 1 true),⟨by simp,fun _ _ _ _ _ h=>by rw[CN];exact h⟩,by simp[fO,pJ,Pb,lG],?_,.agg [v],rfl,v,rfl,?_⟩
  ·have:=(CJ.set (n:=n) (b:=n) (g:=0) (e:=1) (es:=[.agg [v]]) (w:=true) ⟨L,rfl,hL⟩ (Nat.le_refl _) (by simp[pJ,fO,Pb]))
   rw[CN] at this
   obtain⟨L',h1,h2⟩:=this
   rw[List.append_cancel_left h1]
   exact h2
  ·rw[←CN,List.length_set]
   have:=hv.rg.cJ (H':=(List.replicate n cB.dead++L).set n (.row 0 [.agg [v]] 1 true)) (dK.set (by omega))
   rw[Gx] at this
   exact this.wide (by omega) (Nat.le_refl _)
end Go.PM
namespace Go.PM
open Go.Lib
section
variable {g:List (List Rat)} {e row:List Rat} {n i:Nat} {st:List Bool}
end
end Go.PM
namespace Go.PM
def sE:aD:=(LS [LO 2 (.new [(.bool false),(.slice none 0 0),(.slice none 0 0)]),LO 3 (.mv LF)] (LS [LM 7 0,LO 8 (.call 115 [(LT 7)]),LM 6 8,LO 9 (LX 6 0),LO 10 (LX 6 1),LO 4 (.new [(.bool false),(.slice none 0 0),(.slice none 0 0)]),LN (.store 3 (LT 4) (LT 9)),LM 5 10] (LS [LO 11 (LK 4),LM 12 5,LM 13 12,LY 13 14 (LK 4),⟨(some 15),(.call 68 [(LT 14)]),(some (13,true)),true,[]⟩,LY 13 16 (.bin .gtr (LT 15) (LI 0)),LO 17 (.pick (LT 13) (LT 16) LF),LN (.store 3 (LT 2) (LT 11)),LM 3 17] .ret)))
def wH:aR:=⟨18,[(.cell 2 true 3),(.tmp 3)],sE⟩
theorem Mn:fA 159=some wH:=by kernel_rfl
end Go.PM
namespace Go.PM
def lU:aD:=(LS [LO 13 (.bin .lss (LT 12) (LT 11))] (.seq (.cond (LT 13) .skip (.exit 0)) (.seq (.block 1 (LS [LO 14 (.iaddr 1 (LT 10) (LT 12)),LO 15 (LL 14),LM 6 15] (LS [LM 17 6,LO 18 (.call 159 [(LT 17)]),LM 16 18,LO 19 (LX 16 0),LO 20 (LX 16 1),LO 7 (.new [(.bool false),(.slice none 0 0),(.slice none 0 0)]),LN (.store 3 (LT 7) (LT 19)),LM 8 20] (.seq (LS [LM 21 8,LO 22 (.un .not (LT 21))] (.cond (LT 22) (LS [LO 2 (.mv (.const (.slice none 0 0))),LO 3 (.mv LF)] .ret) .skip)) (.dE [LM 23 4,LO 24 (LK 7),LO 25 (.lit [(.bool false),(.slice none 0 0),(.slice none 0 0)] 1 [(0,(LT 24))]),LO 26 (.app 3 56 (LT 23) (LT 25)),LM 4 26]))))) (.dE [LO 27 (.bin .add (LT 12) (LI 1)),LM 12 27]))))
def BB:aD:=(LS [LO 2 (.mv (.const (.slice none 0 0))),LO 3 (.mv LF)] (LS [LO 9 (.lit [(.bool false),(.slice none 0 0),(.slice none 0 0)] 0 []),LM 4 9] (.seq (LS [LM 10 0,LO 11 (.len (LT 10)),LO 12 (.mv (LI 0))] (.block 0 (.loop lU))) (LS [LM 28 4,LM 2 28,LO 3 (.mv LG)] .ret))))
def Fc:aR:=⟨29,[(.tmp 2),(.tmp 3)],BB⟩
theorem Ki:fA 92=some Fc:=by kernel_rfl
def Da:aD:=(LS [LO 15 (.bin .lss (LT 14) (LT 13))] (.seq (.cond (LT 15) .skip (.exit 0)) (.seq (.block 1 (LS [LO 16 (.iaddr 1 (LT 12) (LT 14)),LO 17 (LL 16),LM 5 17] (LS [LM 18 5,LO 19 (.call 70 [(LT 18)]),LO 6 (.new [(.bool false),(.slice none 0 0),(.slice none 0 0)]),LN (.store 3 (LT 6) (LT 19))] (LS [LO 20 (LK 6),LO 21 (LK 3),LO 22 (.call 148 [(LT 20),(LT 21)]),LO 23 (.bin .gtr (LT 22) (LI 0))] (.cond (LT 23) (.dE [LO 24 (LK 6),LN (.store 3 (LT 3) (LT 24))]) .skip))))) (.dE [LO 25 (.bin .add (LT 14) (LI 1)),LM 14 25]))))
def CQ:aD:=(LS [LO 30 (.bin .lss (LT 29) (LT 28))] (.seq (.cond (LT 30) .skip (.exit 2)) (.seq (.block 3 (LS [LM 31 29,LO 32 (.iaddr 1 (LT 27) (LT 29)),LO 33 (LL 32),LM 8 31,LM 9 33] (LS [LM 34 9,LO 35 (LK 3),LO 36 (.call 149 [(LT 34),(LT 35)]),LM 10 36] (LS [LM 37 10,LM 38 8,LO 39 (.call 64 [(LI 1)]),LM 40 10,LO 41 (.call 70 [(LT 40)]),LO 42 (.call 128 [(LT 39),(LT 41)]),LO 43 (.iaddr 3 (LT 37) (LT 38)),LN (.store 3 (LT 43) (LT 42))] (.dE [LM 44 7,LM 45 10,LO 46 (.lit [(.slice none 0 0)] 1 [(0,(LT 45))]),LO 47 (.app 1 24 (LT 44) (LT 46)),LM 7 47]))))) (.dE [LO 48 (.bin .add (LT 29) (LI 1)),LM 29 48]))))
def K3:aD:=(LS [LO 2 (.mv (.const (.slice none 0 0)))] (LS [LO 11 (.call 64 [(LI 0)]),LO 3 (.new [(.bool false),(.slice none 0 0),(.slice none 0 0)]),LN (.store 3 (LT 3) (LT 11))] (.seq (LS [LM 12 0,LO 13 (.len (LT 12)),LO 14 (.mv (LI 0))] (.block 0 (.loop Da))) (LS [LO 26 (.lit [(.slice none 0 0)] 0 []),LM 7 26] (.seq (LS [LM 27 0,LO 28 (.len (LT 27)),LO 29 (.mv (LI 0))] (.block 2 (.loop CQ))) (LS [LM 49 7,LM 2 49] .ret))))))
def Rl:aR:=⟨50,[(.tmp 2)],K3⟩
theorem Ut:fA 72=some Rl:=by kernel_rfl
def A0:aD:=(LS [LO 10 (.new [(.slice none 0 0)]),LO 11 (.mv LF)] (LS [LM 16 0,LM 17 1,LM 18 2,LM 19 3,LM 20 4,LO 21 (.call 108 [(LT 16),(LT 17),(LT 18),(LT 19),(LT 20)]),LM 15 21,LO 22 (LX 15 0),LO 23 (LX 15 1),LO 24 (LX 15 2),LM 12 22,LM 13 23,LM 14 24] (LS [LM 25 12,LM 26 14,LO 27 (.call 103 [(LT 25),(LT 26)]),LO 28 (LX 27 0),LO 29 (LX 27 1),LN (.store 1 (LT 10) (LT 28)),LM 11 29] .ret)))
def Dj:aR:=⟨30,[(.cell 10 true 1),(.tmp 11)],A0⟩
theorem HP:fA 43=some Dj:=by kernel_rfl
def BQ:aD:=(LS [LO 2 (.mv (.const (.slice none 0 0)))] (LS [LM 3 0,LO 4 (.call 99 [(LT 3)]),LM 2 4] .ret))
def EA:aR:=⟨5,[(.tmp 2)],BQ⟩
theorem JX:fA 94=some EA:=by kernel_rfl
def pP:aD:=(LS [LO 7 (.box (LT 3))] (LS [LM 8 1,LM 9 2,LO 10 (.bin .neq (LT 8) (LT 9))] (.cond (LT 10) (.dE [LM 11 0,LM 12 1,LO 13 (.iaddr 1 (LT 11) (LT 12)),LO 14 (LL 13),LM 15 2,LM 16 0,LM 17 1,LO 18 (.iaddr 1 (LT 16) (LT 17)),LO 19 (LL 18),LM 20 2,LO 21 (.iaddr 3 (LT 19) (LT 20)),LO 22 (LK 21),LO 23 (LK 7),LQ 24 (.call 69 [(LT 22),(LT 23)]),LO 25 (.iaddr 3 (LT 14) (LT 15)),LN (.store 3 (LT 25) (LT 24))]) .skip)))
def sP:aR:=⟨26,[],pP⟩
theorem Eu:fA 95=some sP:=by kernel_rfl
def uG:aD:=(LS [LO 4 (.new [(.slice none 0 0)]),LO 5 (.mv LF)] (.seq (LS [LM 6 1,LO 7 (.un .not (LT 6))] (.cond (LT 7) (LS [LO 8 (.build [(.slice none 0 0)] [(0,1)] []),LN (.store 1 (LT 4) (LT 8)),LO 5 (.mv LF)] .ret) .skip)) (LS [LM 9 0,LO 10 (.call 71 [(LT 9)]),LO 11 (LX 10 0),LO 12 (LX 10 1),LN (.store 1 (LT 4) (LT 11)),LM 5 12] .ret)))
def xI:aR:=⟨13,[(.cell 4 true 1),(.tmp 5)],uG⟩
theorem Ja:fA 103=some xI:=by kernel_rfl
def sO:aD:=(LS [LO 62 (.bin .lss (LT 61) (LT 60))] (.seq (.cond (LT 62) .skip (.exit 2)) (.seq (.block 3 (LS [LM 63 61,LO 64 (.iaddr 3 (LT 59) (LT 61)),LO 65 (LK 64),LO 20 (.new [(.bool false),(.slice none 0 0),(.slice none 0 0)]),LM 19 63,LN (.store 3 (LT 20) (LT 65))] (LS [LM 67 18,LM 68 19,LM 69 3,LM 70 4,LO 71 (.call 165 [(LT 67),(LT 68),(LT 69),(LT 70)]),LM 66 71,LO 72 (LX 66 0),LO 73 (LX 66 1),LM 21 72,LM 22 73] (.dE [LM 74 17,LM 75 18,LM 76 21,LM 77 13,LO 78 (.iaddr 3 (LT 77) (LI 0)),LO 79 (LK 78),LO 80 (LK 20),LQ 81 (.call 132 [(LT 79),(LT 80)]),LO 82 (.call 95 [(LT 74),(LT 75),(LT 76),(LT 81)])])))) (.dE [LO 83 (.bin .add (LT 61) (LI 1)),LM 61 83]))))
def sR:aD:=(LS [LO 57 (.bin .lss (LT 56) (LT 55))] (.seq (.cond (LT 57) .skip (.exit 0)) (.seq (.block 1 (LS [LM 58 56,LM 18 58] (.seq (LS [LM 59 15,LO 60 (.len (LT 59)),LO 61 (.mv (LI 0))] (.block 2 (.loop sO))) (.dE [LM 84 17,LM 85 18,LM 86 18,LO 87 (.bin .sub (LT 86) (LI 1)),LO 88 (.max (LT 87) (LI 0)),LM 89 13,LO 90 (.iaddr 3 (LT 89) (LI 1)),LO 91 (LK 90),LO 92 (.call 95 [(LT 84),(LT 85),(LT 88),(LT 91)])])))) (.dE [LO 93 (.bin .add (LT 56) (LI 1)),LM 56 93]))))
def gT:aD:=(LS [LO 10 (.mv (.const (.slice none 0 0))),LO 11 (.mv (.const (.slice none 0 0))),LO 12 (.mv LF)] (LS [LM 24 0,LM 25 2,LO 26 (.lit [(.string ⟨#[]⟩)] 2 [(0,(LT 24)),(1,(LT 25))]),LO 27 (.call 92 [(LT 26)]),LM 23 27,LO 28 (LX 23 0),LO 29 (LX 23 1),LM 13 28,LM 14 29] (LS [LM 31 1,LO 32 (.call 98 [(LT 31)]),LM 30 32,LO 33 (LX 30 0),LO 34 (LX 30 1),LM 15 33,LM 16 34] (.seq (LS [LM 35 14,LO 36 (.un .not (LT 35)),LM 37 36,LZ 37 38 (.mv (LT 16)),LZ 37 39 (.un .not (LT 38)),LO 40 (.pick (LT 37) LG (LT 39)),LM 41 40,LZ 41 42 (.mv (LT 15)),LZ 41 43 (.len (LT 42)),LZ 41 44 (.bin .gtr (LT 43) (LI 12)),LO 45 (.pick (LT 41) LG (LT 44)),LM 46 45,LZ 46 47 (.mv (LT 3)),LZ 46 48 (.call 93 [(LT 47),(LI 1),(LI 11)]),LZ 46 49 (.un .not (LT 48)),LO 50 (.pick (LT 46) LG (LT 49))] (.cond (LT 50) (LS [LO 10 (.mv (.const (.slice none 0 0))),LO 11 (.mv (.const (.slice none 0 0))),LO 12 (.mv LF)] .ret) .skip)) (LS [LM 51 3,LO 52 (.bin .add (LT 51) (LI 1)),LO 53 (.call 94 [(LT 52)]),LM 17 53] (.seq (LS [LM 54 3,LO 55 (.bin .add (LT 54) (LI 1)),LO 56 (.mv (LI 0))] (.block 0 (.loop sR))) (LS [LM 94 17,LO 95 (.call 72 [(LT 94)]),LM 96 15,LM 10 95,LM 11 96,LO 12 (.mv LG)] .ret)))))))
def jR:aR:=⟨97,[(.tmp 10),(.tmp 11),(.tmp 12)],gT⟩
theorem HU:fA 108=some jR:=by kernel_rfl
def yM:aD:=(LS [LO 8 (.mv (LI 0)),LO 9 (.mv (LI 0))] (.seq (.block 0 (LS [LM 11 0,LM 12 1,LO 13 (.bin .add (LT 11) (LT 12)),LM 14 2,LO 15 (.bin .leq (LT 13) (LT 14)),LM 10 15] (.cond (LT 10) (LS [LM 16 0,LM 17 1,LO 18 (.bin .add (LT 16) (LT 17)),LM 8 18,LO 9 (.mv (LI 0))] .ret) (LS [LM 20 3,LM 19 20] (.cond (LT 19) (LS [LM 21 0,LM 22 1,LM 8 21,LM 9 22] .ret) .skip))))) (LS [LM 23 2,LM 24 0,LM 25 1,LO 26 (.bin .add (LT 24) (LT 25)),LM 27 2,LO 28 (.bin .sub (LT 26) (LT 27)),LM 8 23,LM 9 28] .ret)))
def CU:aR:=⟨29,[(.tmp 8),(.tmp 9)],yM⟩
theorem Cw:fA 165=some CU:=by kernel_rfl
end Go.PM
namespace Go.PM
open Go.Lib
theorem atQ {n k lo hi:Nat} {H:aA} {P:Nat→Nat→aA→VV→Prop} {v:VV} {ok:Bool} (hk:n≤k) (hl:k≤H.length) (hT:C9 n k H) (hv:fO n v=true)
  (KI:∀ {lo hi H H' v},P lo hi H v→dK lo hi H H'→P lo hi H' v) (axH:∀ {lo hi iJ nH:Nat} {H:aA} {v:VV},P lo hi H v→iJ≤lo→hi≤nH→P iJ nH H v) (hp:P lo hi H v) (dV:k≤lo) (hhi:hi≤H.length) :
  ∃L,Ia H (List.replicate n .dead++L)∧fO n (.dQ [v,.sc (.bool ok)])=true∧eI n L=true∧Ym P ok n (.dQ [v,.sc (.bool ok)]) L:=by
 obtain⟨L,k1,k2,k3⟩:=S3 hk hl hT
 refine⟨L,k1,by simp[fO,pJ,hv,lG],k2,v,rfl,?_⟩
 have hl3:=k1.1
 rw[List.length_append,List.length_replicate] at hl3
 exact axH (KI hp (H':=List.replicate n cB.dead++L) fun b g x h1 h2 h3=>k3 b g x (by omega) h3) (by omega) (by omega)
theorem CG.wide {bK:List (List ByteArray)}:∀ {lo hi iJ nH:Nat} {H:aA} {v:VV},CG bK lo hi H v→iJ≤lo→hi≤nH→CG bK iJ nH H v:=by
 rintro lo hi iJ nH H v ⟨c,h1,h2⟩ hl hh
 exact⟨c,h1,h2.wide hl hh⟩
theorem CG.own {n lo hi:Nat} {H:aA} {v:VV} {bK:List (List ByteArray)} (h:CG bK lo hi H v) (hn:n≤lo):∃c,v = .agg [c]∧bS c=true∧aB c=[c]∧fO n c=true:=by
 obtain⟨c,rfl,h | ⟨b,g,cc,rs,h1,h2,rfl,h3⟩⟩:=h
 ·obtain⟨rfl,_⟩:=h
  exact⟨_,rfl,rfl,rfl,rfl⟩
 ·exact⟨_,rfl,rfl,rfl,by simp[fO];omega⟩
theorem XS.wide {s:MF}:∀ {lo hi iJ nH:Nat} {H:aA} {v:VV},XS s lo hi H v→iJ≤lo→hi≤nH→XS s iJ nH H v:=by
 rintro lo hi iJ nH H v ⟨a,b,c,m1,m2,h1,k1,k2,k3,h2,h3,h4⟩ hl hh
 exact⟨a,b,c,m1,m2,h1,by omega,k2,by omega,h2.wide hl (Nat.le_refl _),h3,h4.wide (Nat.le_refl _) hh⟩
theorem C9.ayN {n k:Nat} {H L:aA} (h:C9 n k H) (hL:eI n L=true):C9 n k (H++L):=by
 intro b g es e w hb hr
 rcases Nat.lt_or_ge b H.length with bH | DV
 ·rw[List.getElem?_append_left bH] at hr
  exact h b g es e w hb hr
 ·rw[List.getElem?_append_right DV] at hr
  exact List.all_eq_true.1 hL _ (List.mem_of_getElem? hr)
theorem C9.start {n:Nat} {H:aA}:C9 n H.length H:=fun b g es e w hb hr=>by
 rw[List.getElem?_eq_none hb] at hr
 cases hr
def RP (o:Option Rat):VV:=match o with
 | none => .dQ [Hk,VB false]
 | some q => .dQ [aP q,VB (decide (0<q))]
theorem adN (o:Option Rat):fX (RP o)=true:=by
 unfold RP
 split<;>simp[fX,rE,rG,Iy,lG]
theorem LC (x:ByteArray) (hx:x.size≤1000000000):TC 159 [sV x] (RP (pQ x)):=by
 refine TC.walk ⟨true,false⟩ Mn rfl (Nat.le_of_ble_eq_true rfl) rfl (adN _) ?_
 have e2:=EN x.data.toList (by rw[Array.length_toList];show x.size≤_;omega)
 rw[←Rv] at e2
 cases hp:pQ x with
 |
  none =>
  rw[Lh hp] at e2
  simp only[wH,sE,e2,RP,wQ,zR,Fa,aS,aT,aN,iB,Nat.reduceLeDiff,Nat.reduceLT,Nat.reduceSub,rN,dH,dY,kA,oS,sF,bne_iff_ne,ne_eq,not_false_eq_true,not_true_eq_false,eO,VX,Nat.reduceEqDiff,Nat.reduceAdd,Nat.reduceLeDiff,Nat.reduceLT,Nat.reduceSub]
  exact aE (mZ QV rfl)
 |
  some q =>
  rw[KW hp] at e2
  have e1:=iE q
  by_cases h:0<q
  ·have h':=P0.2 h
   simp only[wH,sE,e1,e2,RP,h',h,decide_true,aH,cM,cZ,aS,aT,aN,iB,Nat.reduceLeDiff,Nat.reduceLT,Nat.reduceSub,rN,dH,dY,kA,oS,sF,bne_iff_ne,ne_eq,not_false_eq_true,not_true_eq_false,eO,VX,Nat.reduceEqDiff,Nat.reduceAdd,Nat.reduceLeDiff,Nat.reduceLT,Nat.reduceSub]
   exact aE (mZ (fN _) rfl)
  ·have h':¬0<kS q:=fun k=>h (P0.1 k)
   simp only[wH,sE,e1,e2,RP,h',h,decide_false,aH,cM,cZ,aS,aT,aN,iB,Nat.reduceLeDiff,Nat.reduceLT,Nat.reduceSub,rN,dH,dY,kA,oS,sF,bne_iff_ne,ne_eq,not_false_eq_true,not_true_eq_false,eO,VX,Nat.reduceEqDiff,Nat.reduceAdd,Nat.reduceLeDiff,Nat.reduceLT,Nat.reduceSub]
   exact aE (mZ (fN _) rfl)
def yI (x:ByteArray):Option Rat:=match pQ x with
 | some q=>if 0<q then some q else none
 | none=>none
def Z7 (xs:List ByteArray):Option (List Rat):=xs.mapM yI
theorem Jy {x:ByteArray} {q:Rat} (h:yI x=some q):pQ x=some q∧0<q:=by
 unfold yI at h
 split at h
 ·rename_i p hp
  split at h
  ·rename_i h0
   cases h
   exact⟨hp,h0⟩
  ·cases h
 ·cases h
theorem alB {x:ByteArray} {q:Rat} (h:pQ x=some q):aZ q≤665:=by
 have h1:yC [x]=some [q]:=by
  unfold yC
  rw[if_pos (by simp),List.mapM_cons,h]
  rfl
 exact(CA h1).1 q List.mem_cons_self
set_option maxHeartbeats 1000000 in
theorem JH (xs:List ByteArray) (hn:xs.length≤1000000000) (hs:∀s∈xs,s.size≤1000000000):TC 92 [eG xs] (Jd (Z7 xs)):=by
 refine TC.walk ⟨true,false⟩ Ki rfl (Nat.le_of_ble_eq_true rfl) (by simp[aO,dG]) (Kn _) ?_
 unfold Z7
 have e0:=fun H=>gY (H:=H) (lr:=false) (z:=[.bool false,.slice none 0 0,.slice none 0 0]) rfl
 simp only[Fc,BB,e0,eO,VX,Nat.reduceEqDiff,Nat.reduceAdd,Nat.reduceLeDiff,Nat.reduceLT,Nat.reduceSub]
 refine IY (fun(s:Nat×List Rat) ρ H=>s.1≤xs.length∧(xs.take s.1).mapM yI=some s.2∧H=[.row s.1 (s.2.map aP) 3 true]∧ρ 4 = .ref 0 s.1 0 s.1 s.1∧ρ 10=eG xs∧ρ 11=VI xs.length∧ρ 12=VI s.1) (fun s=>xs.length-s.1) (0,[]) ⟨Nat.zero_le _,rfl,rfl,rfl,rfl,rfl,rfl⟩ ?_
 rintro⟨i,out⟩ ρ H ⟨hi,EK,rfl,g4,g10,g11,g12⟩
 simp only at hi EK g4 g12
 have jT:out.length=i:=by rw[pY EK,List.length_take];omega
 by_cases cS:(i:Int)<(xs.length:Int)
 ·obtain⟨x,hx⟩:∃x,xs[i]? = some x:=⟨_,List.getElem?_eq_getElem (by omega)⟩
  have hxm:=List.mem_of_getElem? hx
  have e1:=fun H=>aK (f:=sV) (t := .op) (H:=H) (size:=1) (k := .i64) hx rfl
  have wi:IntKind.i64.wrap ((i:Int)+1)=((i+1:Nat):Int):=wrapN (i+1) (by omega) (by omega)
  have e2:=LC x (hs x hxm)
  cases hp:pQ x with
  |
   none =>
   rw[hp] at e2
   have hq:yI x=none:=by unfold yI;rw[hp]
   rw[mapM_none hq hxm]
   simp only[RP] at e2
   simp only[lU,g4,g10,g11,g12,cS,e1,e2,wQ,zR,Fa,aS,aT,aN,iB,Nat.reduceLeDiff,Nat.reduceLT,Nat.reduceSub,rN,dH,dY,kA,oS,sF,bne_iff_ne,ne_eq,not_false_eq_true,not_true_eq_false,eO,VX,Nat.reduceEqDiff,Nat.reduceAdd,Nat.reduceLeDiff,Nat.reduceLT,Nat.reduceSub]
   exact C1
  |
   some q =>
   rw[hp] at e2
   by_cases h0:0<q
   ·simp only[RP,decide_eq_true h0] at e2
    have hq:yI x=some q:=by unfold yI;rw[hp];exact if_pos h0
    have eL:∀H,kD false [.bool false,.slice none 0 0,.slice none 0 0] 1 [(0,aP q)] H=some (.tree [aP q] (.cl 3),H):=fun H=>fU rfl rfl rfl
    have eS:∀H,cT 3 (.tree [aP q] (.cl 3)) H=some [aP q]:=fun H=>dL rfl rfl
    have eP:eE 0 3 56 (.ref 0 i 0 i i) [aP q] [.row i (out.map aP) 3 true,.row 0 [aP q] 3 true]=some (.ref 0 (i+1) 0 (i+1) (i+1),[.row (i+1) ((out++[q]).map aP) 3 true,.row 0 [aP q] 3 true]):=by
     rw[gG (f:=aP) (xs:=out) (by rw[bB]) jT.symm (Nat.le_refl _) (by decide) (by decide) (by omega),List.set_cons_zero]
    simp only[lU,g4,g10,g11,g12,cS,e1,e2,eL,eS,eP,wi,aH,cM,cZ,aS,aT,aN,iB,Nat.reduceLeDiff,Nat.reduceLT,Nat.reduceSub,rN,dH,dY,kA,oS,sF,bne_iff_ne,ne_eq,not_false_eq_true,not_true_eq_false,eO,VX,Nat.reduceEqDiff,Nat.reduceAdd,Nat.reduceLeDiff,Nat.reduceLT,Nat.reduceSub]
    refine⟨(i+1,out++[q]),by simp only;omega,?_,by simp only;omega,by simp only[gH hx];exact Ch EK hq,rfl,?_⟩
    ·rw[yU (lZ _ (eW fN)),Fm]
    ·simp only[pO,g10,g11,wL (dG _),FM (Nat.lt_succ_self 0),VX,Nat.reduceEqDiff,Nat.reduceAdd,List.take_zero,jK,List.all_nil,List.length_nil,pO,I1,wL]
   ·simp only[RP,decide_eq_false h0] at e2
    have hq:yI x=none:=by unfold yI;rw[hp];exact if_neg h0
    rw[mapM_none hq hxm]
    simp only[lU,g4,g10,g11,g12,cS,e1,e2,aH,cM,cZ,aS,aT,aN,iB,Nat.reduceLeDiff,Nat.reduceLT,Nat.reduceSub,rN,dH,dY,kA,oS,sF,bne_iff_ne,ne_eq,not_false_eq_true,not_true_eq_false,eO,VX,Nat.reduceEqDiff,Nat.reduceAdd,Nat.reduceLeDiff,Nat.reduceLT,Nat.reduceSub]
    exact C1
 ·have mI:i=xs.length:=by omega
  subst mI
  rw[List.take_length] at EK
  rw[EK]
  simp only[lU,g4,g10,g11,g12,cS,eO,VX,Nat.reduceEqDiff,Nat.reduceAdd,Nat.reduceLeDiff,Nat.reduceLT,Nat.reduceSub]
  refine bR (d:=6) ?_ (aI (v:=VB true) rfl)
  have:=Nq (d:=5) (w:=true) (f:=aP) (e:=3) (b:=0) (g:=xs.length) (c:=xs.length) (xs:=out) (H:=[.row xs.length (out.map aP) 3 true]) fN (by rw[bB]) (by omega)
  rw[jT] at this
  exact this
end Go.PM
namespace Go.PM
section
variable {α:Type}
def vec (n:Nat) (f:Nat→α):List α:=(List.range n).map f
def Pd (n m:Nat) (F:Nat→Nat→α):List (List α):=vec n fun a=>vec m (F a)
theorem wC (n:Nat) (f:Nat→α):(vec n f).length=n:=by simp[vec]
theorem I5 (n m:Nat) (F:Nat→Nat→α):(Pd n m F).length=n:=wC ..
theorem CZ {n i:Nat} {f:Nat→α} (h:i<n):(vec n f)[i]? = some (f i):=by simp[vec,h]
theorem Nn {n i:Nat} {f:Nat→α} (h:n≤i):(vec n f)[i]? = none:=by rw[List.getElem?_eq_none];rw[wC];exact h
theorem BO {n:Nat} {f g:Nat→α} (h:∀i,i<n→f i=g i):vec n f=vec n g:=List.map_congr_left fun i hi=>h i (List.mem_range.1 hi)
theorem P6 {n m:Nat} {F G:Nat→Nat→α} (h:∀a b,a<n→b<m→F a b=G a b):Pd n m F=Pd n m G:=BO fun a ha=>BO fun b hb=>h a b ha hb
theorem YJ {n m i:Nat} {F:Nat→Nat→α} (h:i<n):(Pd n m F)[i]? = some (vec m (F i)):=CZ h
theorem Y4 {n j:Nat} {f:Nat→α} {y:α}:(vec n f).set j y=vec n fun b=>if b=j then y else f b:=by
 apply List.ext_getElem?
 intro b
 rw[List.getElem?_set,wC]
 by_cases hb:b<n
 ·rw[CZ hb,CZ hb]
  by_cases hj:j=b
  ·subst hj;simp[hb]
  ·simp[hj,Ne.symm hj]
 ·rw[Nn (by omega),Nn (by omega)]
  split
  ·rw[if_neg (by omega)]
  ·rfl
theorem amJ {n m i:Nat} {F:Nat→Nat→α} {g:Nat→α}:(Pd n m F).set i (vec m g)=Pd n m fun a b=>if a=i then g b else F a b:=by
 rw[Pd,Y4]
 refine BO fun a _ => ?_
 split
 ·rename_i h
  exact BO fun b _=>(if_pos h).symm
 ·rename_i h
  exact BO fun b _=>(if_neg h).symm
theorem QT {n:Nat} {x:α}:List.replicate n x=vec n fun _=>x:=by
 apply List.ext_getElem?
 intro i
 by_cases h:i<n
 ·rw[CZ h,List.getElem?_replicate,if_pos h]
 ·rw[Nn (by omega),List.getElem?_replicate,if_neg h]
theorem aaX {n m:Nat} {x:α}:List.replicate n (List.replicate m x)=Pd n m fun _ _=>x:=by rw[QT,QT];rfl
theorem HY {n:Nat} {f:Nat→α} {x:α}:x∈vec n f↔∃i,i<n∧f i=x:=by simp[vec]
theorem Yn {n m:Nat} {F:Nat→Nat→α} {r:List α} (h:r∈Pd n m F):∃i,i<n∧r=vec m (F i):=by
 obtain⟨i,hi,rfl⟩:=HY.1 h
 exact⟨i,hi,rfl⟩
end
end Go.PM
namespace Go.PM
open Go.Lib
theorem adZ {qs:List Rat} {B i:Nat} {y:Rat} (h:∀q∈qs,aZ q≤B) (hy:aZ y≤B):∀q∈qs.set i y,aZ q≤B:=fun q hq=>by
 rcases List.mem_or_eq_of_mem_set hq with h1 | rfl
 ·exact h q h1
 ·exact hy
theorem XS.own {n lo hi:Nat} {s:MF} {H:aA} {v:VV} (h:XS s lo hi H v) (hn:n≤lo):∃a b c,v = .agg [a,b,c]∧bS a=true∧bS b=true∧bS c=true∧fO n a=true∧fO n b=true∧fO n c=true:=by
 obtain⟨a,b,c,m1,m2,rfl,l1,l2,l3,ha,hb,hc⟩:=h
 refine⟨a,b,c,rfl,ha.cell,hb.cell,hc.cell,?_,?_,?_⟩
 ·rcases ha with⟨rfl,_⟩ | ⟨b,g,c,h1,h2,rfl,h3⟩
  ·rfl
  ·simp[fO];omega
 ·rcases hb with⟨rfl,_⟩ | ⟨b,g,c,rs,h1,h2,rfl,h3⟩
  ·rfl
  ·simp[fO];omega
 ·rcases hc with⟨rfl,_⟩ | ⟨b,g,c,h1,h2,rfl,h3⟩
  ·rfl
  ·simp[fO];omega
end Go.PM
namespace Go.PM
open Go.Lib
section
variable {α:Type} {f:α→VV} {e:Nat}
structure RdT (f:α→VV) (e:Nat) (m:List (List α)) (H:aA) (v:VV):Prop where
 len:∀H',H <+: H'→pW v H'=some (VI m.length)
 get:∀H',H <+: H'→∀(i:Nat) r,m[i]? = some r→∃p w,bL 1 v (VI i) H'=some p∧cC false 1 p H'=some w∧Rd f e r H' w
theorem RdT.pre {m:List (List α)} {H H':aA} {v:VV} (h:RdT f e m H v) (hh:H <+: H'):RdT f e m H' v:=⟨fun H2 h2=>h.len H2 (hh.trans h2),fun H2 h2=>h.get H2 (hh.trans h2)⟩
theorem RdT.tree {m:List (List α)} {H:aA} {t:TK} (hs:∀x,(aB (f x)).length=e):RdT f e m H (.tree (m.map (aM f)) t) :=
 ⟨fun _ _=>eX,fun _ _ i x hx=>⟨_,_,aK hx rfl,by rw[ME];rfl,Rd.tree hs⟩⟩
theorem RdT.row {m:List (List α)} {H:aA} {b g n c:Nat} {w:Bool} (h:aJ H b g=some (m.map (aM f),1,w)) (hn:n=m.length) (hs:∀x,(aB (f x)).length=e):RdT f e m H (.ref b g 0 n c):=by
 subst hn
 refine⟨fun H' hh=>eR (cH hh h),fun H' hh i x hx => ?_⟩
 have hi:=(List.getElem?_eq_some_iff.1 hx).1
 have e1:=bC (o:=0) (n:=m.length) (c:=c) (i:=i) (k := .i64) (cH hh h) hi
 rw[Nat.zero_add] at e1
 exact⟨_,_,e1,by rw[qU (f:=aM f) (cH hh h) hx];rfl,Rd.tree hs⟩
theorem MG.rdT {lo hi b g n c:Nat} {H:aA} {rs:List (xB α)} (h:MG f e lo hi b g H rs) (hn:n=rs.length):RdT f e (rs.map (·.xs)) H (.ref b g 0 n c):=by
 subst hn
 refine⟨fun H' hh=>by rw[List.length_map];exact(h.pre hh).len,fun H' hh i x hx => ?_⟩
 rw[List.getElem?_map] at hx
 obtain⟨r,hr,rfl⟩:=Option.map_eq_some_iff.1 hx
 have hi:=(List.getElem?_eq_some_iff.1 hr).1
 exact⟨_,_,(h.pre hh).addr hi,(h.pre hh).cell hr,Rd.row ((h.pre hh).row hr) rfl⟩
theorem MG.snoc {lo hi iJ b g:Nat} {H:aA} {rs:List (xB α)} (h:MG f e lo hi b g H rs) (hg:g=rs.length) (dV:iJ≤lo) (hn:g≤1000000000) (r:xB α) (hhi:hi≤r.b) (hc:r.xs.length≤r.c) (hr:aJ H r.b r.g=some (r.xs.map f,e,true)) :
  eE iJ 1 24 (.ref b g 0 g g) [.ref r.b r.g 0 r.xs.length r.c] H=some (.ref b (g+1) 0 (g+1) (g+1),H.set b (.row (g+1) ((rs++[r]).map oE) 1 true))∧MG f e lo H.length b (g+1) (H.set b (.row (g+1) ((rs++[r]).map oE) 1 true)) (rs++[r]):=by
 have aFZ:=h.blo
 have aEg:=h.bhi
 have yX:=hJ hr
 have tQ:=gG (f:=oE) (xs:=rs) (x:=r) (lo:=iJ) (bytes:=24) h.out hg (by omega) (by decide) (by decide) (by omega)
 refine⟨tQ,cE h.out,h.blo,hJ h.out,?_,fun s hs => ?_⟩
 ·rw[List.map_append,List.nodup_append]
  refine⟨h.rows.nd,by simp,fun a ha c Vz => ?_⟩
  obtain⟨s,hs,rfl⟩:=List.mem_map.1 ha
  have:=h.rows.row s hs
  simp only[List.map_cons,List.map_nil,List.mem_singleton] at Vz
  omega
 ·rcases List.mem_append.1 hs with hs | hs
  ·obtain⟨k1,k2,k3,k4,k5⟩:=h.rows.row s hs
   exact⟨k1,by omega,k3,k4,bX (by omega) k5⟩
  ·rw[List.mem_singleton] at hs
   subst hs
   exact⟨by omega,yX,by omega,hc,bX (by omega) hr⟩
end
def jQ (m:List (List Rat)) (i:Nat):Rat:=(m.take i).foldl (fun a r=>if a<eH r then eH r else a) 0
def cR (m:List (List Rat)):Rat:=jQ m m.length
theorem A1 {m:List (List Rat)} {i:Nat} {r:List Rat} (h:m[i]? = some r):jQ m (i+1)=if jQ m i<eH r then eH r else jQ m i:=by
 unfold jQ
 rw[gH h,List.foldl_append]
 rfl
def lD (d:Rat) (i:Nat) (r:List Rat):List Rat:=(r.map (· / d)).set i (1-eH (r.map (· / d)))
def nK (m:List (List Rat)):List (List Rat):=vec m.length fun i=>lD (cR m) i (m.getD i [])
theorem vG {qs:List Rat} {B n:Nat} (h:∀q∈qs,aZ q≤B) (hn:qs.length≤n):aZ (eH qs)≤n*(B+1)+1:=by
 have h1:=zY h qs.length
 rw[List.take_length] at h1
 have h2:qs.length*(B+1)≤n*(B+1):=Nat.mul_le_mul_right _ hn
 omega
theorem vZ {m:List (List Rat)} {B n:Nat} (h:∀r∈m,r.length≤n∧∀q∈r,aZ q≤B):∀i,aZ (jQ m i)≤n*(B+1)+1
 |
  0=>by
  show aZ 0≤_
  rw[CR]
  omega
 |
  i+1=>by
  cases hr:m[i]? with
  |
   none =>
   have:jQ m (i+1)=jQ m i:=by
    unfold jQ
    rw[List.take_add_one,hr]
    simp
   rw[this]
   exact vZ h i
  |
   some r =>
   rw[A1 hr]
   have:=h r (List.mem_of_getElem? hr)
   split
   ·exact vG this.2 this.1
   ·exact vZ h i
theorem Ku {qs:List Rat} {d:Rat} {B D:Nat} (h:∀q∈qs,aZ q≤B) (hd:aZ d≤D):∀q∈qs.map (· / d),aZ q≤B+D+1:=fun q hq=>by
 obtain⟨p,hp,rfl⟩:=List.mem_map.1 hq
 have h1:=h p hp
 have h2:=Zv p d
 omega
set_option maxHeartbeats 4000000 in
theorem Uj {lo:Nat} {H:aA} {v:VV} (m:List (List Rat)) {n B:Nat} (hv:RdT aP 3 m H v) (dV:lo≤H.length) (hm:m.length=n) (hn:n≤100) (hB:B≤1000000) (hb:∀r∈m,r.length=n∧∀q∈r,aZ q≤B) (hd:cR m≠0) :
  iI 72 [v] lo H (IZ (TabIs aP 3 (nK m)) H):=by
 have hmul:n*(B+1)≤100*(B+1):=Nat.mul_le_mul_right _ hn
 have vD:∀r∈m,r.length≤n∧∀q∈r,aZ q≤B:=fun r hr=>⟨Nat.le_of_eq (hb r hr).1,(hb r hr).2⟩
 refine iI.walk ⟨true,false⟩ Ut (Nat.le_of_ble_eq_true rfl) ?_
 have e1:TC 64 [VI 0] (aP 0):=qP 0 (by decide) (by decide)
 have s0:=zP (lo:=lo) (H:=H) (q:=0) dV
 have e2:=hv.len _ (List.prefix_append H [.row 0 [aP 0] 3 true])
 simp only[Rl,K3,e1,s0,e2,eO,VX,Nat.reduceEqDiff,Nat.reduceAdd,Nat.reduceLeDiff,Nat.reduceLT,Nat.reduceSub]
 refine aV (fun(i:Nat) ρ H1=>i≤m.length∧H <+: H1∧aJ H1 H.length 0=some ([aP (jQ m i)],3,true)∧ρ 0=v∧ρ 3 = .ptr H.length 0 0 0∧ρ 12=v∧ρ 13=VI m.length∧ρ 14=VI i) (fun i=>m.length-i) 0 ⟨Nat.zero_le _,List.prefix_append _ _,gI,rfl,rfl,rfl,rfl,rfl⟩ ?_
 rintro i ρ H1 ⟨hi,hp,Yc,g0,g3,g12,g13,g14⟩
 have CC:=hJ Yc
 by_cases cS:(i:Int)<(m.length:Int)
 ·obtain⟨r,hr⟩:∃r,m[i]? = some r:=⟨_,List.getElem?_eq_getElem (by omega)⟩
  have D1:=hb r (List.mem_of_getElem? hr)
  obtain⟨p,w,a1,a2,hw⟩:=hv.get H1 hp i r hr
  have wi:IntKind.i64.wrap ((i:Int)+1)=((i+1:Nat):Int):=wrapN (i+1) (by omega) (by omega)
  have yX:r.length*(B+1)≤100*(B+1):=Nat.mul_le_mul_right _ (by omega)
  simp only[Da,g0,g3,g12,g13,g14,cS,a1,a2,eO,VX,Nat.reduceEqDiff,Nat.reduceAdd,Nat.reduceLeDiff,Nat.reduceLT,Nat.reduceSub]
  refine iM rfl (GI (H:=H1) r hw (by omega) D1.2 (by omega) (by omega) (by omega)) fun x L hx => ?_
  subst hx
  have Ht:=cI (L:=L) Yc
  have MH:=kZ (L:=L) hp
  have Hz:H1.length≤(H1++L).length:=by rw[List.length_append];omega
  generalize H1++L=H2 at *
  have s1:=zP (lo:=lo) (H:=H2) (q:=eH r) (by omega)
  have s2:=Ik (H:=H2) (K:=[]) (q:=eH r)
  have s3:cC true 3 (.ptr H.length 0 0 0) (H2++[cB.row 0 [aP (eH r)] 3 true])=some (aP (jQ m i)):=by
   rw[bP,cI Ht]
   exact cZ _
  have b1:=vG D1.2 (Nat.le_of_eq D1.1)
  have b2:=vZ vD i
  have e3:=EO (eH r) (jQ m i) (by omega) (by omega)
  have DZ:=A1 hr
  by_cases hc:jQ m i<eH r
  ·have Vz:=Rw.2 hc
   rw[if_pos hc] at DZ
   have s4:=bZ (lo:=lo) (v:=aP (eH r)) (j:=0) (cI (L:=[.row 0 [aP (eH r)] 3 true]) Ht) (by exact Nat.zero_lt_one) dV rfl rfl
   rw[List.set_cons_zero] at s4
   simp only[g0,g3,g12,g13,g14,s1,s2,s3,s4,e3,Vz,wi,eO,VX,Nat.reduceEqDiff,Nat.reduceAdd,Nat.reduceLeDiff,Nat.reduceLT,Nat.reduceSub]
   exact⟨i+1,by omega,by omega,lY (kZ MH) (Nat.le_refl _),by rw[DZ];exact cE (cI Ht),by (repeat' apply And.intro)<;>first | rfl | trivial | assumption⟩
  ·have Vz:=mt Rw.1 hc
   rw[if_neg hc] at DZ
   simp only[g0,g3,g12,g13,g14,s1,s2,s3,e3,Vz,wi,eO,VX,Nat.reduceEqDiff,Nat.reduceAdd,Nat.reduceLeDiff,Nat.reduceLT,Nat.reduceSub]
   exact⟨i+1,by omega,by omega,kZ MH,by rw[DZ];exact cI Ht,by (repeat' apply And.intro)<;>first | rfl | trivial | assumption⟩
 ·have mI:i=m.length:=by omega
  subst mI
  have e0:∀K,kD false [.slice none 0 0] 0 [] K=some (.ref K.length 0 0 0 0,K++[.row 0 [] 1 true]):=fun K=>gY rfl
  have e3:=hv.len _ (kZ (L:=[.row 0 [] 1 true]) hp)
  simp only[Da,g0,g3,g12,g13,g14,cS,e0,e3,eO,VX,Nat.reduceEqDiff,Nat.reduceAdd,Nat.reduceLeDiff,Nat.reduceLT,Nat.reduceSub]
  have Yc:aJ H1 H.length 0=some ([aP (cR m)],3,true):=Yc
  have bm:=vZ vD m.length
  rw[←cR] at bm
  refine aV (fun(i:Nat) ρ H2=>i≤m.length∧H <+: H2∧aJ H2 H.length 0=some ([aP (cR m)],3,true)∧(∃rs,rs.length=i∧rs.map (·.xs)=(nK m).take i∧MG aP 3 H1.length H2.length H1.length i H2 rs)∧ρ 3 = .ptr H.length 0 0 0∧ρ 7 = .ref H1.length i 0 i i∧ρ 27=v∧ρ 28=VI m.length∧ρ 29=VI i) (fun i=>m.length-i) 0
   ⟨Nat.zero_le _,kZ hp,cI Yc,⟨[],rfl,rfl,gI,Nat.le_refl _,by simp,by simp,by simp⟩,by (repeat' apply And.intro)<;>first | rfl | trivial | assumption⟩ ?_
  clear g0 g3 g12 g13 g14 cS
  rintro i ρ H2 ⟨hi,MH,Ht,⟨rs,yX,N8,hM⟩,g3,g7,g27,g28,g29⟩
  by_cases cS:(i:Int)<(m.length:Int)
  ·obtain⟨r,hr⟩:∃r,m[i]? = some r:=⟨_,List.getElem?_eq_getElem (by omega)⟩
   have D1:=hb r (List.mem_of_getElem? hr)
   obtain⟨p,w,a1,a2,hw⟩:=hv.get H2 MH i r hr
   have wi:IntKind.i64.wrap ((i:Int)+1)=((i+1:Nat):Int):=wrapN (i+1) (by omega) (by omega)
   have hbh:=hM.bhi
   have s3:cC true 3 (.ptr H.length 0 0 0) H2=some (aP (cR m)):=by
    rw[bP,Ht]
    exact cZ _
   simp only[CQ,g3,g7,g27,g28,g29,cS,a1,a2,s3,eO,VX,Nat.reduceEqDiff,Nat.reduceAdd,Nat.reduceLeDiff,Nat.reduceLT,Nat.reduceSub]
   refine iM rfl (Pt (H:=H2) r (cR m) hd hw (by omega) (by omega) (fun q hq=>by have:=D1.2 q hq;omega) (by omega)) fun x L3 hx => ?_
   obtain⟨bp,gp,cp,k1,k2,rfl,k3,k4⟩:=hx
   have hM3:=hM.pre (List.prefix_append H2 L3)
   have aBW:=cI (L:=L3) Ht
   have hp3:=kZ (L:=L3) MH
   have hl3:H2.length≤(H2++L3).length:=by rw[List.length_append];omega
   generalize H2++L3=H3 at *
   have e4:TC 64 [VI 1] (aP 1):=qP 1 (by decide) (by decide)
   have qb:=Ku D1.2 bm
   have aeQ:(r.map (· / cR m)).length*(B+(n*(B+1)+1)+1+1)≤100*(B+(n*(B+1)+1)+1+1):=Nat.mul_le_mul_right _ (by rw[List.length_map];omega)
   simp only[e4,eO,VX,Nat.reduceEqDiff,Nat.reduceAdd,Nat.reduceLeDiff,Nat.reduceLT,Nat.reduceSub]
   refine iM rfl (GI (H:=H3) (v := .ref bp gp 0 r.length cp) (r.map (· / cR m)) (Rd.row k4 (List.length_map ..).symm) (by omega) qb (by omega) (by omega) (by rw[List.length_map];omega)) fun x L4 hx => ?_
   subst hx
   have hM4:=hM3.pre (List.prefix_append H3 L4)
   have asS:=cI (L:=L4) aBW
   have hp4:=kZ (L:=L4) hp3
   have hl4:H3.length≤(H3++L4).length:=by rw[List.length_append];omega
   have k5:=cI (L:=L4) k4
   generalize H3++L4=H4 at *
   have b3:=vG (n:=n) qb (Nat.le_of_eq (by rw[List.length_map];exact D1.1))
   have ayW:n*(B+(n*(B+1)+1)+1+1)≤100*(B+(n*(B+1)+1)+1+1):=Nat.mul_le_mul_right _ hn
   have e5:=Nx 1 (eH (r.map (· / cR m))) (by rw[Cn];omega) (by omega)
   have a3:=bC (o:=0) (n:=r.length) (c:=cp) (i:=i) (k := .i64) k5 (by omega)
   rw[Nat.zero_add] at a3
   have s5:=eV (lo:=lo) (f:=aP) (x:=1-eH (r.map (· / cR m))) (j:=i) k5 (by rw[List.length_map];omega) (by omega) rfl rfl
   have hM5:=hM4.cJ (H':=H4.set bp (.row gp ((lD (cR m) i r).map aP) 3 true)) (dK.set (by omega))
   have k6:=cE (g:=gp) (e:=3) (w:=true) (es:=(lD (cR m) i r).map aP) k5
   have Ye:(lD (cR m) i r).length=r.length:=by rw[lD,List.length_set,List.length_map]
   have hk6:=hJ k6
   obtain⟨ap,hM6⟩:=hM5.snoc (iJ:=lo) yX.symm (by omega) (by omega) ⟨bp,gp,cp,lD (cR m) i r⟩ k1 (by simp only[Ye];rw[List.length_map] at k3;exact k3) k6
   simp only[Ye] at ap
   have eL:∀K,kD false [.slice none 0 0] 1 [(0,.ref bp gp 0 r.length cp)] K=some (.tree [.ref bp gp 0 r.length cp] (.cl 1),K):=fun K=>fU rfl rfl rfl
   have eS:∀K,cT 1 (.tree [.ref bp gp 0 r.length cp] (.cl 1)) K=some [.ref bp gp 0 r.length cp]:=fun K=>dL rfl rfl
   have s5':bQ lo 3 (.ptr bp gp i 0) (aP (1-eH (r.map (· / cR m)))) H4=some (H4.set bp (.row gp ((lD (cR m) i r).map aP) 3 true)):=s5
   simp only[g7,e5,a3,s5',eL,eS,ap,wi,g29,eO,VX,Nat.reduceEqDiff,Nat.reduceAdd,Nat.reduceLeDiff,Nat.reduceLT,Nat.reduceSub]
   refine⟨i+1,by omega,by omega,lY (lY hp4 (by omega)) (by omega),bX (by omega) (bX (by omega) asS),⟨rs++[⟨bp,gp,cp,lD (cR m) i r⟩],by rw[List.length_append,yX];rfl,?_,?_⟩,by (repeat' apply And.intro)<;>first | rfl | trivial | assumption⟩
   ·have tF:(nK m)[i]? = some (lD (cR m) i r):=by
     rw[nK,CZ (by omega),List.getD_eq_getElem?_getD,hr]
     rfl
    rw[gH tF,List.map_append,N8]
    rfl
   ·exact hM6.wide (Nat.le_refl _) (by simp)
  ·have mI:i=m.length:=by omega
   subst mI
   rw[List.take_of_length_le (by rw[nK,wC];exact Nat.le_refl _)] at N8
   simp only[CQ,g3,g7,g27,g28,g29,cS,eO,VX,Nat.reduceEqDiff,Nat.reduceAdd,Nat.reduceLeDiff,Nat.reduceLT,Nat.reduceSub]
   have Ye:(nK m).length=m.length:=by rw[nK,wC]
   exact⟨MH,H1.length,m.length,m.length,rs,by rw[Ye],by rw[Ye];exact Nat.le_refl _,hM.wide hp.length_le (Nat.le_refl _),N8⟩
end Go.PM
namespace Go.PM
open Go.Lib
theorem amD {lo hi:Nat} {H:aA}:CG [] lo hi H (.agg [.tree [] .nil]):=⟨_,rfl,.inl ⟨rfl,rfl⟩⟩
abbrev apI:cB := .row 0 [.tree [] .nil] 1 true
theorem BC {n:Nat} {K:aA}:aJ (List.replicate n cB.dead++apI::K) n 0=some ([.tree [] .nil],1,true):=by rw[Dc,bB]
theorem R3 {n t:Nat} {F:Nat} {args jC:List VV} {bK:List (List ByteArray)} {ok:Bool} {H:aA} {K:VV→aA→Prop} (h:FC F jC (Ym (CG bK) ok)) (vO:Cf.contains F=true) (hf:args.mapM (PM.fz depth H)=some jC) (hr:aJ H t 0=some ([.tree [] .nil],1,true)) (hnt:n≤t)
  (hk:∀v H2 H3,bQ n 1 (.ptr t 0 0 0) v H2=some H3→cC true 1 (.ptr t 0 0 0) H3=some v→(∃L',Ia H3 (List.replicate n .dead++L')∧fO n (.dQ [v,.sc (.bool ok)])=true∧eI n L'=true∧Ym (CG bK) ok n (.dQ [v,.sc (.bool ok)]) L')→K (.dQ [v,.sc (.bool ok)]) H2) :
  cO F args n H K:=by
 refine h.aeV vO hf ?_
 rintro r L ⟨v,rfl,hv⟩ Gs hL
 have hv:=hv.cJ dK.move
 rw[←List.length_append] at hv
 have ht:=hJ hr
 obtain⟨c,rfl,h1,h2,h3⟩:=hv.own (n:=n) (by omega)
 have hL':eI n L=true:=Jf (by omega) hL
 refine hk (.agg [c]) _ ((H++L).set t (.row 0 [.agg [c]] 1 true)) ?_ ?_ ?_
 ·rw[bZ (cI hr) (by exact Nat.zero_lt_one) hnt rfl (by simp[aB,h1])]
  rfl
 ·rw[bP,cE (cI hr)]
  rfl
 ·exact atQ (k:=H.length) (lo:=H.length) (hi:=(H++L).length) (by omega) (by rw[List.length_set,List.length_append];omega) ((C9.start.ayN hL').set (by omega)) (by simp[fO,pJ,h3]) CG.cJ CG.wide (hv.cJ (dK.set (by omega))) (Nat.le_refl _) (by rw[List.length_set];exact Nat.le_refl _)
theorem ahH {n t:Nat} {H:aA} {bK:Option (List (List ByteArray))} (hr:aJ H t 0=some ([.tree [] .nil],1,true)) (hnt:n≤t) (hv:bK=none) :
  bQ n 1 (.ptr t 0 0 0) (.agg [.tree [] .nil]) H=some (H.set t (.row 0 [.agg [.tree [] .nil]] 1 true))∧cC true 1 (.ptr t 0 0 0) (H.set t (.row 0 [.agg [.tree [] .nil]] 1 true))=some (.agg [.tree [] .nil]) ∧
  ∃L,Ia (H.set t (.row 0 [.agg [.tree [] .nil]] 1 true)) (List.replicate n .dead++L)∧fO n (.dQ [.agg [.tree [] .nil],.sc (.bool false)])=true∧eI n L=true∧Ym (CG (bK.getD [])) bK.isSome n (.dQ [.agg [.tree [] .nil],.sc (.bool false)]) L:=by
 subst hv
 refine⟨?_,?_,_,BJ (by rw[List.length_set];have:=hJ hr;omega),rfl,BP,_,rfl,amD⟩
 ·rw[bZ hr (by exact Nat.zero_lt_one) hnt rfl rfl]
  rfl
 ·rw[bP,cE hr]
  rfl
theorem J6 {a:Nat} (h:a≤12):a*(665+1)+1≤7993:=by omega
theorem T3 {qs:List Rat} (h:∀q∈qs,0≤q):0≤eH qs:=by
 have key:∀i,i≤qs.length→0≤eH (qs.take i):=by
  intro i
  induction i with
  | zero=>intro _;show (0:Rat)≤0;exact Rat.le_refl
  |
   succ i ih =>
   intro hi
   have hq:qs[i]? = some qs[i]:=List.getElem?_eq_getElem (by omega)
   rw[Cl hq]
   have h1:=ih (by omega)
   have h2:=h _ (List.getElem_mem (by omega:i<qs.length))
   grind
 have:=key qs.length (Nat.le_refl _)
 rwa [List.take_length] at this
theorem NC {m:List (List Rat)} (h:∀r∈m,0≤eH r):∀i,0≤jQ m i∧0≤eH ((m.map eH).take i)∧(eH ((m.map eH).take i)=0↔jQ m i=0)∧(((m.take i).any fun r => !decide (eH r=0)) = !decide (jQ m i=0))
 | 0=>⟨Rat.le_refl,Rat.le_refl,⟨fun _=>rfl,fun _=>rfl⟩,rfl⟩
 |
  i+1=>by
  obtain⟨h1,h2,h3,h4⟩:=NC h i
  cases hr:m[i]? with
  |
   none =>
   have e1:jQ m (i+1)=jQ m i:=by unfold jQ;rw[List.take_add_one,hr];simp
   have e2:(m.map eH).take (i+1)=(m.map eH).take i:=by rw[List.take_add_one,List.getElem?_map,hr];simp
   have e3:m.take (i+1)=m.take i:=by rw[List.take_add_one,hr];simp
   rw[e1,e2,e3]
   exact⟨h1,h2,h3,h4⟩
  |
   some r =>
   have h0:=h r (List.mem_of_getElem? hr)
   have Gs:(m.map eH)[i]? = some (eH r):=by rw[List.getElem?_map,hr];rfl
   rw[A1 hr,Cl Gs,gH hr,List.any_append,h4]
   simp only[List.any_cons,List.any_nil,Bool.or_false]
   by_cases hc:jQ m i<eH r
   ·rw[if_pos hc]
    have hp:¬eH r=0:=by grind
    have hs:¬eH ((m.map eH).take i)+eH r=0:=by grind
    refine⟨h0,by grind,⟨fun h=>absurd h hs,fun h=>absurd h hp⟩,by simp[hp]⟩
   ·rw[if_neg hc]
    refine⟨h1,by grind,?_,?_⟩
    ·constructor
     ·intro h;exact h3.1 (by grind)
     ·intro h;have:=h3.2 h;grind
    ·by_cases hz:jQ m i=0
     ·have:eH r=0:=by grind
      simp[hz,this]
     ·simp[hz]
theorem Qd {m:List (List Rat)} {n B:Nat} (hm:m.length=n) (hb:∀r∈m,r.length=n∧∀q∈r,aZ q≤B) (hn:n≤100) (hB:B≤1000000):(nK m).length=n∧∀r∈nK m,r.length=n∧∀q∈r,aZ q≤100000000000:=by
 refine⟨by rw[nK,wC,hm],fun r hr => ?_⟩
 obtain⟨i,hi,rfl⟩:=HY.1 hr
 have hgi:m[i]? = some m[i]:=List.getElem?_eq_getElem hi
 have D1:=hb _ (List.getElem_mem hi)
 rw[List.getD_eq_getElem?_getD,hgi,Option.getD_some]
 have bm:=vZ (n:=n) (B:=B) (fun r hr=>⟨Nat.le_of_eq (hb r hr).1,(hb r hr).2⟩) m.length
 rw[←cR] at bm
 have qb:=Ku D1.2 bm
 have hl:(m[i].map (· / cR m)).length=n:=by rw[List.length_map];exact D1.1
 have b3:=vG qb (Nat.le_of_eq hl)
 have m1:n*(B+1)≤100*(B+1):=Nat.mul_le_mul_right _ hn
 have m2:n*(B+(n*(B+1)+1)+1+1)≤100*(B+(n*(B+1)+1)+1+1):=Nat.mul_le_mul_right _ hn
 have b4:=ZE 1 (eH (m[i].map (· / cR m)))
 rw[Cn] at b4
 refine⟨by rw[lD,List.length_set,hl],adZ (fun q hq => ?_) (by omega)⟩
 have:=qb q hq
 omega
end Go.PM
namespace Go.PM
abbrev Dp:=Nat×Nat×Rat
def ID (F:Nat→Nat→Rat) (i j:Nat) (q:Rat) (a b:Nat):Rat:=if i≠j∧a=i∧b=j then F a b+q else F a b
theorem abI {F:Nat→Nat→Rat} {i:Nat} {q:Rat}:ID F i i q=F:=by
 funext a b
 exact if_neg fun h=>h.1 rfl
def IU (F:Nat→Nat→Rat) (L:List Dp):Nat→Nat→Rat:=L.foldl (fun F t=>ID F t.1 t.2.1 t.2.2) F
def fY (L:List Dp):Nat→Nat→Rat:=IU (fun _ _=>0) L
theorem HA {F:Nat→Nat→Rat} {t:Dp} {L:List Dp}:IU F (t::L)=IU (ID F t.1 t.2.1 t.2.2) L:=rfl
theorem Il {F:Nat→Nat→Rat} {L M:List Dp}:IU F (L++M)=IU (IU F L) M:=List.foldl_append
theorem Hc {L:List Dp} {i j:Nat} {q:Rat}:fY (L++[(i,j,q)])=ID (fY L) i j q:=Il
theorem Hy {L:List Dp} {i:Nat} {q:Rat}:fY (L++[(i,i,q)])=fY L:=by rw[Hc,abI]
theorem Oy {Q:Nat}:∀(L:List Dp) (F:Nat→Nat→Rat) (B:Nat),(∀t∈L,aZ t.2.2≤Q)→(∀a b,aZ (F a b)≤B)→∀a b,aZ (IU F L a b)≤B+L.length*(Q+1)
 |
  [],F,B,_,hF,a,b=>by
  have:=hF a b
  show aZ (F a b)≤_
  omega
 |
  t::L,F,B,hL,hF,a,b=>by
  rw[HA]
  have ht:=hL t List.mem_cons_self
  have:=Oy L (ID F t.1 t.2.1 t.2.2) (B+(Q+1)) (fun s hs=>hL s (List.mem_cons_of_mem _ hs)) (fun a b=>by
   unfold ID
   have h1:=hF a b
   have h2:=J1 (F a b) t.2.2
   split<;>omega) a b
  rw[List.length_cons,Nat.succ_mul]
  omega
theorem OF {Q:Nat} {L:List Dp} (h:∀t∈L,aZ t.2.2≤Q) (a b:Nat):aZ (fY L a b)≤1+L.length*(Q+1) :=
 Oy L _ 1 h (fun _ _=>by show aZ 0≤1;rw[CR];exact Nat.le_refl _) a b
theorem OW:∀(L:List Dp) (F:Nat→Nat→Rat),(∀t∈L,0≤t.2.2)→∀a b,F a b≤IU F L a b
 | [],F,_,a,b=>Rat.le_refl
 |
  t::L,F,hL,a,b=>by
  rw[HA]
  have ht:=hL t List.mem_cons_self
  have h1:=OW L (ID F t.1 t.2.1 t.2.2) (fun s hs=>hL s (List.mem_cons_of_mem _ hs)) a b
  have h2:F a b≤ID F t.1 t.2.1 t.2.2 a b:=by
   unfold ID
   split<;>grind
  exact Rat.le_trans h2 h1
theorem Ix {L:List Dp} (h:∀t∈L,0≤t.2.2) (a b:Nat):0≤fY L a b:=OW L _ h a b
theorem aaC {L:List Dp} {i j:Nat} {q:Rat} (h:∀t∈L,0≤t.2.2) (ht:(i,j,q)∈L) (SL:i≠j) (hq:0<q):0<fY L i j:=by
 obtain⟨s,r,rfl⟩:=List.append_of_mem ht
 have hs:∀t∈s,0≤t.2.2:=fun t ht=>h t (List.mem_append_left _ ht)
 have hr:∀t∈r,0≤t.2.2:=fun t ht=>h t (List.mem_append_right _ (List.mem_cons_of_mem _ ht))
 have h1:=OW r (ID (fY s) i j q) hr i j
 have h2:fY (s++(i,j,q)::r)=IU (ID (fY s) i j q) r:=by
  unfold fY
  rw[Il,HA]
 rw[h2]
 have h3:=Ix hs i j
 have h4:ID (fY s) i j q i j=fY s i j+q:=if_pos ⟨SL,rfl,rfl⟩
 rw[h4] at h1
 grind
theorem anU {qs:List Rat} (h:∀q∈qs,0≤q) {q:Rat} (hq:q∈qs):q≤eH qs:=by
 have key:∀i,i≤qs.length→0≤eH (qs.take i)∧∀p∈qs.take i,p≤eH (qs.take i):=by
  intro i
  induction i with
  | zero=>intro _;exact⟨by show (0:Rat)≤0;exact Rat.le_refl,by simp⟩
  |
   succ i ih =>
   intro hi
   have hq:qs[i]? = some qs[i]:=List.getElem?_eq_getElem (by omega)
   obtain⟨h1,h2⟩:=ih (by omega)
   have h3:=h _ (List.getElem_mem (by omega:i<qs.length))
   rw[Cl hq]
   refine⟨by grind,fun p hp => ?_⟩
   rw[gH hq] at hp
   rcases List.mem_append.1 hp with hp | hp
   ·have:=h2 p hp
    grind
   ·rw[List.mem_singleton] at hp
    subst hp
    grind
 have:=(key qs.length (Nat.le_refl _)).2
 rw[List.take_length] at this
 exact this q hq
theorem VY {N:Nat} {L:List Dp} {i j:Nat} {q:Rat} (h:∀t∈L,0≤t.2.2) (ht:(i,j,q)∈L) (SL:i≠j) (hq:0<q) (hi:i<N) (hj:j<N):cR (Pd N N (fY L))≠0:=by
 have hnn:∀r∈Pd N N (fY L),∀q∈r,0≤q:=fun r hr q hq=>by
  obtain⟨a,_,rfl⟩:=Yn hr
  obtain⟨b,_,rfl⟩:=HY.1 hq
  exact Ix h a b
 obtain⟨_,_,_,h4⟩:=NC (fun r hr=>T3 (hnn r hr)) (Pd N N (fY L)).length
 rw[List.take_length] at h4
 intro h0
 rw[←cR,h0,decide_eq_true rfl,Bool.not_true] at h4
 have lF:=List.mem_of_getElem? (YJ (m:=N) (F:=fY L) hi)
 have h5:=List.any_eq_false.1 h4 _ lF
 have h6:=anU (hnn _ lF) (q:=fY L i j) (HY.2 ⟨j,hj,rfl⟩)
 have h7:=aaC h ht SL hq
 simp only[Bool.not_eq_true',decide_eq_false_iff_not,not_true_eq_false,Classical.not_not] at h5
 rw[h5] at h6
 grind
theorem VU {Q N:Nat} {L:List Dp} (h:∀t∈L,aZ t.2.2≤Q):∀r∈Pd N N (fY L),r.length=N∧∀q∈r,aZ q≤1+L.length*(Q+1):=fun r hr=>by
 obtain⟨a,_,rfl⟩:=Yn hr
 refine⟨wC ..,fun q hq => ?_⟩
 obtain⟨b,_,rfl⟩:=HY.1 hq
 exact OF h a b
def atV (N:Nat) (L:List Dp):Option (List (List ByteArray)):=xS (nK (Pd N N (fY L)))
end Go.PM
namespace Go.PM
theorem OJ {a b:ByteArray}:Z7 [a,b]=match yI a,yI b with
  | some x,some y=>some [x,y]
  | _,_=>none:=by
 unfold Z7
 cases ha:yI a<;>cases hb:yI b<;>simp[List.mapM_cons,ha,hb]
def Hj (o:Option (Nat×List Dp)):Option (List (List ByteArray)):=o.bind fun p=>atV p.1 p.2
def qZ (p:Nat×List Dp):List (List Rat):=Pd p.1 p.1 (fY p.2)
structure QOk (p:Nat×List Dp):Prop where
 n:p.1≤12
 l:p.2.length≤400
 t:∀t∈p.2,aZ t.2.2≤1331∧0≤t.2.2
 s:∃i j q,(i,j,q)∈p.2∧i≠j∧0<q∧i<p.1∧j<p.1
theorem QOk.ayY {p:Nat×List Dp} (h:QOk p):cR (qZ p)≠0:=by
 obtain⟨i,j,q,h1,h2,h3,h4,h5⟩:=h.s
 exact VY (fun t ht=>(h.t t ht).2) h1 h2 h3 h4 h5
theorem QOk.rows {p:Nat×List Dp} (h:QOk p):∀r∈qZ p,r.length=p.1∧∀q∈r,aZ q≤600000:=fun r hr=>by
 obtain⟨h1,h2⟩:=VU (Q:=1331) (fun t ht=>(h.t t ht).1) r hr
 have h3:p.2.length*(1331+1)≤400*(1331+1):=Nat.mul_le_mul_right _ h.l
 exact⟨h1,fun q hq=>by have:=h2 q hq;omega⟩
theorem C6 {p:Nat×List Dp}:(qZ p).length=p.1:=I5 ..
theorem zB {x:ByteArray} {q:Rat} (h:yI x=some q):aZ q≤665∧0<q:=⟨alB (Jy h).1,(Jy h).2⟩
theorem Sr {x:ByteArray} {q:Rat} (h:yI x=some q):aZ q≤1331∧0≤q:=⟨by have:=(zB h).1;omega,Rat.le_of_lt (zB h).2⟩
def oW (n k iY:Nat) (w:Bool):Nat:=if n+k≤iY then n+k else if w then n else iY
def sZ (x:Rat) (ws:List Rat) (iY:Nat) (w:Bool) (n:Nat):Nat→List Dp
 | 0=>[]
 | k+1=>sZ x ws iY w n k++[(n,oW n k iY w,x*ws.getD k 0)]
def lK (x y:Rat) (ws:List Rat) (iY:Nat) (w:Bool):Nat→List Dp
 | 0=>[]
 | n+1=>lK x y ws iY w n++(sZ x ws iY w n ws.length++[(n,n-1,y)])
def gK (a:ByteArray) (bs:List ByteArray) (s:ByteArray) (iY:Int) (w:Bool):Option (Nat×List Dp):=match yI a,yI s,gE bs with
 | some x,some y,some ws=>if ws.length≤12∧1≤iY∧iY≤11 then some (iY.toNat+1,lK x y ws iY.toNat w (iY.toNat+1)) else none
 | _,_,_=>none
theorem M9 {P:Dp→Prop} {x:Rat} {ws:List Rat} {iY:Nat} {w:Bool} {n:Nat} (h:∀k,P (n,oW n k iY w,x*ws.getD k 0)):∀k,∀t∈sZ x ws iY w n k,P t
 | 0,t,ht=>by cases ht
 |
  k+1,t,ht=>by
  rcases List.mem_append.1 ht with ht | ht
  ·exact M9 h k t ht
  ·rw[List.mem_singleton] at ht
   subst ht
   exact h k
theorem Oi {P:Dp→Prop} {x y:Rat} {ws:List Rat} {iY:Nat} {w:Bool} (h:∀n k,P (n,oW n k iY w,x*ws.getD k 0)) (h':∀n,P (n,n-1,y)):∀n,∀t∈lK x y ws iY w n,P t
 | 0,t,ht=>by cases ht
 |
  n+1,t,ht=>by
  rcases List.mem_append.1 ht with ht | ht
  ·exact Oi h h' n t ht
  rcases List.mem_append.1 ht with ht | ht
  ·exact M9 (h n) _ t ht
  ·rw[List.mem_singleton] at ht
   subst ht
   exact h' n
theorem CE {x:Rat} {ws:List Rat} {iY:Nat} {w:Bool} {n:Nat}:∀k,(sZ x ws iY w n k).length=k
 | 0=>rfl
 | k+1=>by rw[sZ,List.length_append,CE k];rfl
theorem CH {x y:Rat} {ws:List Rat} {iY:Nat} {w:Bool}:∀n,(lK x y ws iY w n).length=(ws.length+1)*n
 | 0=>rfl
 | n+1=>by rw[lK,List.length_append,List.length_append,CH n,CE,Nat.mul_succ];rfl
theorem Oo {x y:Rat} {ws:List Rat} {iY:Nat} {w:Bool}:∀n,2≤n→(1,0,y)∈lK x y ws iY w n
 |
  n+1,_=>by
  by_cases hn:n=1
  ·subst hn
   rw[lK]
   exact List.mem_append_right _ (List.mem_append_right _ (List.mem_singleton.2 rfl))
  ·rw[lK]
   exact List.mem_append_left _ (Oo n (by omega))
theorem alX {ws:List Rat} {Q:Nat} (hw:∀q∈ws,aZ q≤Q) (hQ:1≤Q) (k:Nat):aZ (ws.getD k 0)≤Q:=by
 rw[List.getD_eq_getElem?_getD]
 cases h:ws[k]? with
 | none=>show aZ 0≤Q;rw[CR];exact hQ
 | some q=>exact hw q (List.mem_of_getElem? h)
theorem ahG {x:Rat} {ws:List Rat} (hx:aZ x≤665∧0<x) (hw:∀q∈ws,aZ q≤665∧0≤q) (k:Nat):aZ (x*ws.getD k 0)≤1331∧0≤x*ws.getD k 0:=by
 have h1:=Fo x (ws.getD k 0)
 have h2:=alX (fun q hq=>(hw q hq).1) (by decide) k
 refine⟨by omega,Rat.mul_nonneg (Rat.le_of_lt hx.2) ?_⟩
 rw[List.getD_eq_getElem?_getD]
 cases h:ws[k]? with
 | none=>exact Rat.le_refl
 | some q=>exact(hw q (List.mem_of_getElem? h)).2
theorem JJ {qs:List Rat} (h:jN qs=true) {q:Rat} (hq:q∈qs):0≤q:=by
 unfold jN at h
 rw[Bool.and_eq_true] at h
 have h1:=List.any_eq_false.1 (by simpa using h.1:(qs.any fun q=>decide (q<0))=false) q hq
 exact Rat.not_lt.1 (by simpa using h1)
theorem GK {bs:List ByteArray} {ws:List Rat} (h:gE bs=some ws):∀q∈ws,aZ q≤665∧0≤q:=fun q hq=>by
 obtain⟨h1,h2⟩:=Pz h
 exact⟨(CA h1).1 q hq,JJ h2 hq⟩
theorem Fy {a:ByteArray} {bs:List ByteArray} {s:ByteArray} {iY:Int} {w:Bool} {p:Nat×List Dp} (h:gK a bs s iY w=some p):QOk p:=by
 unfold gK at h
 split at h
 ·rename_i x y ws hx hy hw
  split at h
  ·rename_i hc
   cases h
   have h3:(ws.length+1)*(iY.toNat+1)≤13*12:=Nat.mul_le_mul (by omega) (by omega)
   exact⟨by simp only[];omega,by simp only[];rw[CH];omega,Oi (P:=fun t=>aZ t.2.2≤1331∧0≤t.2.2) (fun n k=>ahG (zB hx) (GK hw) k) (fun n=>Sr hy) _,1,0,y,Oo _ (by omega),by decide,(zB hy).2,by simp only[];omega,by simp only[];omega⟩
  ·cases h
 ·cases h
end Go.PM
namespace Go.PM
theorem NP (q:Rat):(aB (aP q)).all bS=true:=rfl
def amV (F:Nat→Nat→Rat) (i j:Nat) (y:Rat) (a b:Nat):Rat:=if a=i∧b=j then y else F a b
theorem TF {F:Nat→Nat→Rat} {i j:Nat} {q:Rat} (h:i≠j):ID F i j q=amV F i j (F i j+q):=by
 funext a b
 unfold ID amV
 by_cases hc:a=i∧b=j
 ·obtain⟨rfl,rfl⟩:=hc
  rw[if_pos ⟨h,rfl,rfl⟩,if_pos ⟨rfl,rfl⟩]
 ·rw[if_neg hc,if_neg fun k=>hc k.2]
def Tb (f:Rat→VV) (lo hi N M b g:Nat) (F:Nat→Nat→Rat) (H:aA):Prop:=∃rs,MG f 3 lo hi b g H rs∧rs.map (·.xs)=Pd N M F
def Pw (lo hi:Nat) (H H':aA):Prop:=H'.length=H.length∧∀b g x,b<lo∨hi≤b→aJ H b g=some x→aJ H' b g=some x
theorem Pw.refl {lo hi:Nat} {H:aA}:Pw lo hi H H:=⟨rfl,fun _ _ _ _ h=>h⟩
section
variable {f:Rat→VV} {lo hi N M b g:Nat} {F:Nat→Nat→Rat} {H H':aA}
theorem Tb.cJ (h:Tb f lo hi N M b g F H) (hk:dK lo hi H H'):Tb f lo hi N M b g F H':=by
 obtain⟨rs,h1,h2⟩:=h
 exact⟨rs,h1.cJ hk,h2⟩
theorem Tb.pre (h:Tb f lo hi N M b g F H) (hh:H <+: H'):Tb f lo hi N M b g F H':=h.cJ (dK.pre hh)
theorem Tb.congr {G:Nat→Nat→Rat} (h:Tb f lo hi N M b g F H) (hF:∀a c,a<N→c<M→F a c=G a c):Tb f lo hi N M b g G H:=by
 obtain⟨rs,h1,h2⟩:=h
 exact⟨rs,h1,h2.trans (P6 hF)⟩
theorem Tb.lt (h:Tb f lo hi N M b g F H):lo≤b∧b<hi∧b<H.length:=by
 obtain⟨rs,h1,_⟩:=h
 exact⟨h1.blo,h1.bhi,hJ h1.out⟩
theorem Tb.addr {c i:Nat} (h:Tb f lo hi N M b g F H) (nH:i<N):bL 1 (.ref b g 0 N c) (VI i) H=some (.ptr b g i 0):=by
 obtain⟨rs,h1,_⟩:=h
 exact h1.addr nH
theorem Tb.len {c:Nat} (h:Tb f lo hi N M b g F H):pW (.ref b g 0 N c) H=some (VI N):=by
 obtain⟨rs,h1,_⟩:=h
 exact h1.len
theorem Tb.rdT {c:Nat} (h:Tb f lo hi N M b g F H):RdT f 3 (Pd N M F) H (.ref b g 0 N c):=by
 obtain⟨rs,h1,h2⟩:=h
 have hl:=congrArg List.length h2
 rw[List.length_map,I5] at hl
 rw[←h2]
 exact h1.rdT hl.symm
theorem Tb.fz {d c:Nat} (h:Tb f lo hi N M b g F H) (hc:N≤c) (hp:∀x,aQ (f x)=true):PM.fz (d+3) H (.ref b g 0 N c)=some (aM (aM f) (Pd N M F)):=by
 obtain⟨rs,h1,h2⟩:=h
 have hl:=congrArg List.length h2
 rw[List.length_map,I5] at hl
 rw[←h2,←hl]
 exact h1.fz (by omega) hp
theorem TabIs.tb {v:VV} (h:TabIs f 3 (Pd N M F) lo hi H v):∃b g c,v = .ref b g 0 N c∧N≤c∧Tb f lo hi N M b g F H:=by
 obtain⟨b,g,c,rs,h1,h2,h3,h4⟩:=h
 rw[I5] at h1 h2
 exact⟨b,g,c,h1,h2,rs,h3,h4⟩
theorem Tb.spot {i j:Nat} (h:Tb f lo hi N M b g F H) (nH:i<N) (hj:j<M) (hfs:∀x,(aB (f x)).length=3) (hfa:∀x,(aB (f x)).all bS=true) :
  ∃rb rg rc,cC false 1 (.ptr b g i 0) H=some (.ref rb rg 0 M rc)∧bL 3 (.ref rb rg 0 M rc) (VI j) H=some (.ptr rb rg j 0)∧(∀ag,cC ag 3 (.ptr rb rg j 0) H=dM ag 3 (f (F i j)) 0) ∧
  ∀iJ y,iJ≤lo→∃H',bQ iJ 3 (.ptr rb rg j 0) (f y) H=some H'∧Pw lo hi H H'∧Tb f lo hi N M b g (amV F i j y) H'∧∀k,cC false 1 (.ptr b g k 0) H'=cC false 1 (.ptr b g k 0) H:=by
 obtain⟨rs,hM,hx⟩:=h
 have hl:=congrArg List.length hx
 rw[List.length_map,I5] at hl
 obtain⟨r,hr⟩:∃r,rs[i]? = some r:=⟨_,List.getElem?_eq_getElem (by omega)⟩
 have Pa:r.xs=vec M (F i):=by
  have h1:(rs.map (·.xs))[i]? = some r.xs:=by rw[List.getElem?_map,hr];rfl
  rw[hx,YJ nH] at h1
  exact(Option.some.inj h1).symm
 have yX:r.xs.length=M:=by rw[Pa,wC]
 have hgj:r.xs[j]? = some (F i j):=by rw[Pa,CZ hj]
 refine⟨r.b,r.g,r.c,?_,hM.at hr hj,fun ag=>hM.get hr hgj,fun iJ y dV => ?_⟩
 ·have:=hM.cell hr
  rw[yX] at this
  exact this
 ·have h1:=hM.put (j:=j) (iJ:=iJ) (y:=y) hr (by omega) dV (hfs y) (hfa y)
  have h2:=hM.set (ys:=r.xs.set j y) hr (by rw[List.length_set])
  have D1:=hM.rows.row r (List.mem_of_getElem? hr)
  refine⟨_,h1,⟨by rw[List.length_set],fun b' g' x vD SG=>bX (by have h7:=D1.1;have h8:=D1.2.1;omega) SG⟩,⟨_,h2,?_⟩,fun k => ?_⟩
  ·have e:(rs.set i { r with xs:=r.xs.set j y }).map (fun r:xB Rat=>r.xs)=(rs.map (fun r:xB Rat=>r.xs)).set i (r.xs.set j y):=List.map_set
   rw[e,hx,Pa,Y4,amJ]
   exact P6 fun a c _ _=>by unfold amV;by_cases ha:a=i<;>by_cases hc:c=j<;>simp[ha,hc]
  ·rw[bP,bP,bX D1.2.2.1 hM.out,hM.out]
end
theorem UR {N:Nat}:List.replicate N (List.replicate N (0:Rat))=Pd N N fun _ _=>0:=aaX
end Go.PM
namespace Go.PM
open Go.Lib
end Go.PM
namespace Go.PM
end Go.PM
namespace Go.PM
open Go.Lib
theorem aiO (d:Nat) (h:d≤9223372036854775807):TC 219 [VI (d:Int)] (bE (decDigits d)):=by
 have:=PJ (d:Int) (by omega) (by omega)
 rw[if_neg (by omega),List.nil_append,Int.natAbs_natCast] at this
 exact this
theorem ajI {n i:Nat} (hi:i+1=(aC 1000000000 n).length):n / 1000000000^i=n / 1000000000^i % 1000000000:=by
 have h1:=aaK (b:=1000000000) (by decide) n (i+1)
 rw[List.drop_of_length_le (by omega)] at h1
 have h2:=(nA (b:=1000000000) (by decide)).1 h1.symm
 rw[tU] at h2
 rcases Nat.div_eq_zero_iff.1 h2 with h | h
 ·exact absurd h (by decide)
 ·exact(Nat.mod_eq_of_lt h).symm
theorem Le (l:List UInt8) (a b:Nat):(⟨l.toArray⟩:ByteArray).extract a b=⟨((l.drop a).take (b-a)).toArray⟩:=by
 rw[ByteArray.ext_iff,ByteArray.data_extract]
 simp[List.extract_toArray,List.extract_eq_take_drop]
theorem adL (l:List UInt8) {a b:Nat} (h:a≤b) (hb:b≤l.length):wV (bE l) (some (VI (a:Int))) (some (VI (b:Int)))=some (bE ((l.drop a).take (b-a))):=by
 have hs:(⟨l.toArray⟩:ByteArray).size=l.length:=by simp[ByteArray.size]
 have e1:(0:Int)≤b∧(b:Int)≤(l.length:Int):=by omega
 have e2:(0:Int)≤a∧(a:Int)≤(b:Int):=by omega
 simp only[wV,GV,Bd,hs,fG,e1,e2,and_self,if_true,Int.toNat_natCast,Le]
theorem Rj (l:List UInt8) {a:Nat} (h:a≤l.length):wV (bE l) (some (VI (a:Int))) none=some (bE (l.drop a)):=by
 have hs:(⟨l.toArray⟩:ByteArray).size=l.length:=by simp[ByteArray.size]
 have e2:(0:Int)≤a∧(a:Int)≤(l.length:Int):=by omega
 simp only[wV,GV,Bd,hs,fG,e2,and_self,if_true,Int.toNat_natCast,Le]
 rw[List.take_of_length_le (by simp)]
theorem axZ (l:List UInt8) (h:1≤l.length):wV (bE l) (some (VI 1)) none=some (bE (l.drop 1)):=Rj l h
theorem Zy {a:Nat} (h:a<1000000000):IntKind.i64.wrap ((a:Int)+1000000000)=((a+1000000000:Nat):Int):=wrapN _ (by omega) (by omega)
theorem oZ (n:Nat) (hn:bl n≤2199023255552):TC 208 [cA n] (bE (decDigits n)):=by
 refine TC.walk ⟨true,false⟩ IJ rfl (Nat.le_of_ble_eq_true rfl) (by simp[aO,cL]) rfl ?_
 by_cases h0:n=0
 ·subst h0
  have hl:(((aC 1000000000 0).length:Nat):Int)=0:=by rw[cF];rfl
  simp only[xL,uI,cQ,hl,VX,Nat.reduceEqDiff,Nat.reduceAdd]
  rw[jL (by decide)]
  exact aE rfl
 have hl:¬(((aC 1000000000 n).length:Nat):Int)=0:=by have:=(rL (n:=n)).2 h0;omega
 obtain⟨L,hL⟩:∃L,(aC 1000000000 n).length=L+1:=⟨(aC 1000000000 n).length-1,by omega⟩
 have EB:=lI (n:=n) (by omega)
 have hlT:=aoL n
 have hdl:=Ce n
 have w1:IntKind.i64.wrap (((L+1:Nat):Int)-1)=(L:Int):=wrapN _ (by omega) (by omega)
 have w2:IntKind.i64.wrap (((L+1:Nat):Int)-2)=(L:Int)-1:=by rw[wrap64 (by omega) (by omega)];omega
 have at':∀i,i≤L→bL 1 (cA n) (VI (i:Int)) []=some (.dA (tV (n / 1000000000^i % 1000000000)) 0):=fun i hi=>aK (f:=tV) (t := .op) (H:=[]) (size:=1) (k := .i64) (Om (b:=1000000000) (by decide) (n:=n) (i:=i) (by omega)) rfl
 have eL:=at' L (Nat.le_refl _)
 have adH:=ajI (n:=n) (i:=L) (by omega)
 rw[←adH] at eL
 have SW:n / 1000000000^L≠0:=(Fq (b:=1000000000) (by decide)).1 (by omega)
 have hqT:n / 1000000000^L<1000000000:=by rw[adH];exact Nat.mod_lt _ (by decide)
 have c1:=aiO (n / 1000000000^L) (by omega)
 rw[hL] at hl
 simp only[xL,uI,cQ,hL,hl,w1,w2,eL,c1,VX,Nat.reduceEqDiff,Nat.reduceAdd]
 refine aV (fun(j:Nat) ρ H=>j≤L∧H=[]∧ρ 0=cA n∧ρ 3=bE (decDigits (n / 1000000000^j))∧ρ 4=VI ((j:Int)-1)) (fun j=>j) L ⟨Nat.le_refl _,rfl,rfl,rfl,rfl⟩ ?_
 rintro j ρ H ⟨hj,rfl,g0,g3,g4⟩
 by_cases hz:(0:Int)≤(j:Int)-1
 ·obtain⟨i,rfl⟩:∃i,j=i+1:=⟨j-1,by omega⟩
  have FU:((i+1:Nat):Int)-1=(i:Int):=by omega
  rw[FU] at g4 hz
  have e1:=at' i (by omega)
  have hm:=Nat.mod_lt (n / 1000000000^i) (show 0<1000000000 by decide)
  have hq1:n / 1000000000^(i+1)≠0:=(Fq (b:=1000000000) (by decide)).1 (by omega)
  have hdm:=Nat.mod_add_div (n / 1000000000^i) 1000000000
  rw[←tU] at hdm
  have hch:=Kc (Nat.pos_of_ne_zero hq1) hm
  have hle:n / 1000000000^i≤n:=Nat.div_le_self _ _
  have hdi:=Ce (n / 1000000000^i)
  have hbi:=lE hle
  rw[show n / 1000000000^(i+1)*1000000000+n / 1000000000^i % 1000000000=n / 1000000000^i by omega] at hch
  generalize hAA:n / 1000000000^i=A at *
  generalize n / 1000000000^(i+1)=B at *
  have w4:IntKind.i64.wrap ((i:Int)-1)=(i:Int)-1:=wrap64 (by omega) (by omega)
  have c2:=aiO (A % 1000000000+1000000000) (by omega)
  rw[anP hm] at c2
  have e2:=axZ (d10 1::DU 9 (A % 1000000000)) (by simp)
  rw[List.drop_succ_cons,List.drop_zero] at e2
  have hlen:=congrArg List.length hch
  rw[List.length_append] at hlen
  have a1:=sB (decDigits B) (DU 9 (A % 1000000000)) (by omega)
  rw[←hch] at a1
  have aAZ:i≤L:=by omega
  have hmu:i<i+1:=by omega
  have w3:=Zy hm
  simp only[sH,g0,g3,g4,hz,e1,w3,w4,c2,e2,a1,VX,Nat.reduceEqDiff,Nat.reduceAdd]
  refine⟨i,hmu,aAZ,?_⟩
  rw[hAA]
  exact⟨rfl,rfl⟩
 ·have Xc:j=0:=by omega
  subst Xc
  rw[Nat.pow_zero,Nat.div_one] at g3
  simp only[sH,g0,g3,g4,hz,VX,Nat.reduceEqDiff,Nat.reduceAdd]
  exact aE rfl
theorem Nr (q:Rat) (hk:aZ q≤1099511627776):TC 188 [aY q] (VB (xU q)):=by
 refine TC.walk ⟨true,false⟩ N4 rfl (Nat.le_of_ble_eq_true rfl) (by simp[aO,jE]) rfl ?_
 have la:=sK hk
 have lb:=sU hk
 have t1:=oZ q.num.natAbs (by omega)
 have t2:=oZ q.den (by omega)
 have hf:xU q=(decide (((decDigits q.num.natAbs).length:Int)≤200)&&decide (((decDigits q.den).length:Int)≤200)):=by
  unfold xU
  congr 1<;>exact decide_eq_decide.2 (by omega)
 rw[hf]
 by_cases hl:((decDigits q.num.natAbs).length:Int)≤200
 ·simp only[CV,An,t1,t2,hl,bO,bJ,dS,eT,eY,aL,iB,Nat.reduceLeDiff,Nat.reduceLT,Nat.reduceSub,VX,Nat.reduceEqDiff,Nat.reduceAdd]
  exact aE rfl
 ·simp only[CV,An,t1,t2,hl,bO,bJ,dS,eT,eY,aL,iB,Nat.reduceLeDiff,Nat.reduceLT,Nat.reduceSub,VX,Nat.reduceEqDiff,Nat.reduceAdd]
  exact aE rfl
theorem Oc (q:Rat) (hk:aZ q≤1099511627776):TC 189 [aY q] (bE (Gm q)):=by
 refine TC.walk ⟨true,false⟩ M0 rfl (Nat.le_of_ble_eq_true rfl) (by simp[aO,jE]) rfl ?_
 have la:=sK hk
 have lb:=sU hk
 have t1:=oZ q.num.natAbs (by omega)
 have t2:=oZ q.den (by omega)
 have d1:=Ce q.num.natAbs
 have d2:=Ce q.den
 have c1:∀lo H K,_:=fun lo H K=>MI (n:=q.den) (lo:=lo) (H:=H) (K:=K) (Nat.le_of_lt (lI (by omega)))
 have a1:dN .add (.string ⟨#[45]⟩) (.string ⟨(decDigits q.num.natAbs).toArray⟩)=some (.string ⟨(45::decDigits q.num.natAbs).toArray⟩):=sB [45] _ (by simp only[List.length_cons,List.length_nil];omega)
 have a2:dN .add (.string ⟨#[47]⟩) (.string ⟨(decDigits q.den).toArray⟩)=some (.string ⟨(47::decDigits q.den).toArray⟩):=sB [47] (decDigits q.den) (by simp only[List.length_cons,List.length_nil];omega)
 have a3:=sB (45::decDigits q.num.natAbs) (47::decDigits q.den) (by simp only[List.length_cons];omega)
 have a4:=sB (decDigits q.num.natAbs) (47::decDigits q.den) (by simp only[List.length_cons];omega)
 have hs:Gm q=(if q.num<0 then (45::decDigits q.num.natAbs) else decDigits q.num.natAbs)++(if q.den=1 then [] else 47::decDigits q.den):=by
  unfold Gm
  by_cases hn:q.num<0
  ·rw[if_pos hn,if_pos hn];rfl
  ·rw[if_neg hn,if_neg hn];rfl
 rw[hs]
 by_cases hd:fK q.den 1=0
 ·rw[if_pos (yZ.1 hd),List.append_nil]
  by_cases hn:q.num<0
  all_goals
   simp only[CM,zU,t1,t2,a1,a2,a3,a4,c1,hd,hn,eQ,bJ,dS,eT,eY,aL,iB,Nat.reduceLeDiff,Nat.reduceLT,Nat.reduceSub,VX,Nat.reduceEqDiff,Nat.reduceAdd]
   exact aE rfl
 ·rw[if_neg (mt yZ.2 hd)]
  by_cases hn:q.num<0
  all_goals
   simp only[CM,zU,t1,t2,a1,a2,a3,a4,c1,hd,hn,eQ,bJ,dS,eT,eY,aL,iB,Nat.reduceLeDiff,Nat.reduceLT,Nat.reduceSub,VX,Nat.reduceEqDiff,Nat.reduceAdd]
   exact aE rfl
theorem M7 (q:Rat) (hk:aZ q≤1099511627776):TC 171 [aY q] (UZ q):=by
 refine TC.walk ⟨true,false⟩ Ot rfl (Nat.le_of_ble_eq_true rfl) (by simp[aO,jE]) (aaO q) ?_
 have t1:=Nr q hk
 have t2:=Oc q hk
 unfold UZ
 by_cases h:xU q=true
 ·rw[h] at t1
  rw[if_pos h]
  simp only[CD,Ap,t1,t2,bJ,dJ,iP,aL,iB,Nat.reduceLeDiff,Nat.reduceLT,Nat.reduceSub,VX,Nat.reduceEqDiff,Nat.reduceAdd]
  exact aE rfl
 ·have h':xU q=false:=by simpa using h
  rw[h'] at t1
  rw[if_neg h]
  simp only[CD,Ap,t1,bJ,dJ,iP,aL,iB,Nat.reduceLeDiff,Nat.reduceLT,Nat.reduceSub,VX,Nat.reduceEqDiff,Nat.reduceAdd]
  exact aE rfl
end Go.PM
namespace Go.PM
open Go.Lib
def iK (c:UInt8):List UInt8→List (List UInt8)
 | []=>[[]]
 |
  x::r=>if x=c then []::iK c r else match iK c r with
  | []=>[[x]]
  | a::t=>(x::a)::t
theorem OL {c:UInt8} {r:List UInt8}:∀ {a:List UInt8},c∉a→iK c (a++c::r)=a::iK c r:=by
 intro a
 induction a with
 | nil=>intro _;rw[List.nil_append,iK,if_pos rfl]
 |
  cons x a ih =>
  intro h
  rw[List.mem_cons,not_or] at h
  rw[List.cons_append,iK,if_neg (fun he=>h.1 he.symm),ih h.2]
theorem GL {c:UInt8}:∀ {a:List UInt8},c∉a→iK c a=[a]:=by
 intro a
 induction a with
 | nil=>intro _;rfl
 |
  cons x a ih =>
  intro h
  rw[List.mem_cons,not_or] at h
  rw[iK,if_neg (fun he=>h.1 he.symm),ih h.2]
theorem Wc {c:UInt8} (l:List UInt8):iK c l≠[]:=by
 cases l with
 | nil=>simp[iK]
 |
  cons x r =>
  rw[iK]
  split
  ·simp
  ·split<;>simp
theorem TL {c:UInt8} {l:List UInt8} (h:(nE c l).2=none):iK c l=[l]:=GL (Cj h).2.2
theorem KN {c:UInt8} {l r:List UInt8} (h:(nE c l).2=some r):iK c l=(nE c l).1::iK c r:=by
 obtain⟨_,h2,h3⟩:=JT h
 have:=OL (r:=r) h3
 rw[←h2] at this
 exact this
theorem Uv {c:UInt8} {l:List UInt8} (h:c∈l):2≤(iK c l).length:=by
 cases hc:(nE c l).2 with
 | none=>exact absurd h (Cj hc).2.2
 |
  some r =>
  rw[KN hc,List.length_cons]
  have:=List.length_pos_iff.2 (Wc (c:=c) r)
  omega
theorem aaQ {l:List UInt8} {i:Nat} (h:i<l.length):(l.take (i+1)).all iZ=((l.take i).all iZ&&iZ (l.getD i 0)):=by
 rw[List.take_add_one,List.all_append]
 have:l[i]? = some (l.getD i 0):=by rw[List.getElem?_eq_getElem h,List.getD_eq_getElem?_getD,List.getElem?_eq_getElem h];rfl
 rw[this]
 simp
set_option maxHeartbeats 1000000 in
theorem qE (l:List UInt8) (hl:l.length≤1000000000000):TC 168 [bE l] (VB (iR l)):=by
 refine TC.walk ⟨true,false⟩ JG rfl (Nat.le_of_ble_eq_true rfl) rfl rfl ?_
 simp only[E1,By,VX,Nat.reduceEqDiff,Nat.reduceAdd]
 refine aV (fun(i:Nat) ρ H=>i≤l.length∧H=[]∧(l.take i).all iZ=true∧ρ 0=bE l∧ρ 3=VI i) (fun i=>l.length-i) 0 ⟨Nat.zero_le _,rfl,rfl,rfl,rfl⟩ ?_
 rintro i ρ H ⟨hi,rfl,hd,g0,g3⟩
 by_cases cS:(i:Int)<(l.length:Int)
 ·have Wm:i<l.length:=by omega
  have e1:=ED l Wm
  have wi:IntKind.i64.wrap ((i:Int)+1)=((i+1:Nat):Int):=wrapN (i+1) (by omega) (by omega)
  have ht:=aaQ Wm
  rw[hd,Bool.true_and] at ht
  have WJ:iZ (l.getD i 0)=(decide (48≤(l.getD i 0).toNat)&&decide ((l.getD i 0).toNat≤57)):=rfl
  have kB:iZ (l.getD i 0)=false→iR l=false:=by
   intro h
   rw[h] at ht
   have:l.all iZ=false:=by rw[←List.take_append_drop (i+1) l,List.all_append,ht,Bool.false_and]
   unfold iR
   rw[this]
   rfl
  generalize (l.getD i 0).toNat=c at *
  by_cases q1:(c:Int)<48
  ·rw[kB (by rw[WJ,decide_eq_false (by omega)];rfl)]
   simp only[eJ,g0,g3,bO,cS,e1,q1,VX,Nat.reduceEqDiff,Nat.reduceAdd]
   exact aE rfl
  ·by_cases q2:(57:Int)<(c:Int)
   ·rw[kB (by rw[WJ,decide_eq_false (show ¬c≤57 by omega),Bool.and_false])]
    simp only[eJ,g0,g3,bO,cS,e1,q1,q2,VX,Nat.reduceEqDiff,Nat.reduceAdd]
    exact aE rfl
   ·rw[WJ,decide_eq_true (by omega),decide_eq_true (by omega),Bool.and_self] at ht
    simp only[eJ,g0,g3,bO,cS,e1,q1,q2,wi,VX,Nat.reduceEqDiff,Nat.reduceAdd]
    exact⟨i+1,by omega,by omega,ht,rfl⟩
 ·have mI:i=l.length:=by omega
  subst mI
  rw[List.take_length] at hd
  by_cases h1:(1:Int)≤(l.length:Int)
  ·by_cases h2:(l.length:Int)≤200
   ·by_cases h3:(l.length:Int)=1
    ·rw[kM.2 ⟨hd,by omega,by omega,.inl (by omega)⟩]
     simp only[eJ,g0,g3,bO,cS,ge_iff_le,h1,h2,h3,Int.reduceLE,Int.reduceLT,VX,Nat.reduceEqDiff,Nat.reduceAdd]
     exact aE rfl
    ·have e1:=J3 l (by omega)
     by_cases h4:(((l.getD 0 0).toNat:Int)=48)
     ·have hk:iR l=false:=by
       cases h:iR l with
       | false=>rfl
       |
        true =>
        rcases(kM.1 h).2.2.2 with h5 | h5
        ·omega
        ·exact absurd (UInt8.toNat_inj.1 (by rw[show (48:UInt8).toNat=48 from rfl];omega)) h5
      rw[hk]
      simp only[eJ,g0,g3,bO,cS,ge_iff_le,h1,h2,h3,h4,e1,VX,Nat.reduceEqDiff,Nat.reduceAdd]
      exact aE rfl
     ·have h5:l.getD 0 0≠48:=fun h=>h4 (by rw[h];rfl)
      rw[kM.2 ⟨hd,by omega,by omega,.inr h5⟩]
      simp only[eJ,g0,g3,bO,cS,ge_iff_le,h1,h2,h3,h4,e1,VX,Nat.reduceEqDiff,Nat.reduceAdd]
      exact aE rfl
   ·have hk:iR l=false:=by
     cases h:iR l with
     | false=>rfl
     | true=>have:=(kM.1 h).2.2.1;omega
    rw[hk]
    simp only[eJ,g0,g3,bO,cS,ge_iff_le,h1,h2,VX,Nat.reduceEqDiff,Nat.reduceAdd]
    exact aE rfl
  ·have hk:iR l=false:=by
    cases h:iR l with
    | false=>rfl
    | true=>have:=(kM.1 h).2.1;omega
   rw[hk]
   simp only[eJ,g0,g3,bO,cS,ge_iff_le,h1,VX,Nat.reduceEqDiff,Nat.reduceAdd]
   exact aE rfl
set_option maxHeartbeats 1000000 in
theorem F3 (l:List UInt8) (c:UInt8) (hl:l.length≤1000000000000):TC 167 [bE l,.sc (.int .u8 (c.toNat:Int))] (aM bE (iK c l)):=by
 refine TC.walk ⟨true,false⟩ Px rfl (Nat.le_of_ble_eq_true rfl) rfl (zN (size:=1) (fun _=>rfl) (fun _=>rfl) fun _=>rfl) ?_
 have e3:∀lr,kD lr [.string ⟨#[]⟩] 0 [] []=some (.ref 0 0 0 0 0,[.row 0 (([]:List (List UInt8)).map bE) 1 true]):=fun lr=>gY (H:=[]) (lr:=lr) (z:=[.string ⟨#[]⟩]) rfl
 have e4:∀(x:List UInt8) (H:aA),kD false [.string ⟨#[]⟩] 1 [(0,bE x)] H=some (.tree [bE x] (.cl 1),H):=fun x H=>fU (z:=[.string ⟨#[]⟩]) rfl rfl rfl
 have e5:∀(x:List UInt8) (H:aA),cT 1 (.tree [bE x] (.cl 1)) H=some [bE x]:=fun x H=>dL rfl rfl
 simp only[KF,Gw,e3,VX,Nat.reduceEqDiff,Nat.reduceAdd]
 refine aV (fun(s:List (List UInt8)×Nat×Nat) ρ H=>H=[.row s.1.length (s.1.map bE) 1 true]∧s.2.1≤s.2.2∧s.2.2≤l.length+1∧s.1.length≤s.2.1 ∧
  ((s.2.2≤l.length∧iK c l=s.1++iK c (l.drop s.2.1)∧c∉(l.drop s.2.1).take (s.2.2-s.2.1))∨(s.2.2=l.length+1∧iK c l=s.1)) ∧
  ρ 0=bE l∧ρ 1 = .sc (.int .u8 (c.toNat:Int))∧ρ 5 = .ref 0 s.1.length 0 s.1.length s.1.length∧ρ 6=VI s.2.1∧ρ 7=VI s.2.2) (fun s=>l.length+1-s.2.2) ([],0,0) ⟨rfl,Nat.zero_le _,Nat.zero_le _,Nat.zero_le _,.inl ⟨Nat.zero_le _,rfl,by simp⟩,rfl,rfl,rfl,rfl,rfl⟩ ?_
 rintro⟨out,fr,i⟩ ρ H ⟨rfl,hfi,hi,jT,DZ,g0,g1,g5,g6,g7⟩
 simp only at hfi hi jT DZ g5 g6 g7
 by_cases cS:(i:Int)≤(l.length:Int)
 ·have Wm:i≤l.length:=by omega
  obtain⟨hp,hc⟩:iK c l=out++iK c (l.drop fr)∧c∉(l.drop fr).take (i-fr):=by
   rcases DZ with⟨_,h1,h2⟩ | ⟨h,_⟩
   ·exact⟨h1,h2⟩
   ·omega
  have wi:IntKind.i64.wrap ((i:Int)+1)=((i+1:Nat):Int):=wrapN (i+1) (by omega) (by omega)
  have e2:=adL l hfi Wm
  have eP:=gG (f:=bE) (xs:=out) (x:=(l.drop fr).take (i-fr)) (lo:=0) (b:=0) (g:=out.length) (n:=out.length) (e:=1) (bytes:=16) (H:=[.row out.length (out.map bE) 1 true]) bB rfl (Nat.zero_le _) (by decide) (by decide) (by omega)
  have Jt:([.row out.length (out.map bE) 1 true]:aA).set 0 (.row (out.length+1) ((out++[(l.drop fr).take (i-fr)]).map bE) 1 true)=[.row (out.length+1) ((out++[(l.drop fr).take (i-fr)]).map bE) 1 true]:=rfl
  rw[Jt] at eP
  by_cases q1:i=l.length
  ·subst q1
   have ajM:iK c l=out++[(l.drop fr).take (l.length-fr)]:=by
    rw[hp]
    have:(l.drop fr).take (l.length-fr)=l.drop fr:=List.take_of_length_le (by rw[List.length_drop];omega)
    rw[this] at hc ⊢
    rw[GL hc]
   simp only[pS,g0,g1,g5,g6,g7,bO,cS,eq_self,e2,e4,e5,eP,wi,VX,Nat.reduceEqDiff,Nat.reduceAdd]
   refine⟨(out++[(l.drop fr).take (l.length-fr)],l.length+1,l.length+1),by simp only;omega,?_,by simp only;omega,by simp only;omega,?_,.inr ⟨rfl,ajM⟩,?_⟩
   ·simp
   ·simp only[List.length_append,List.length_cons,List.length_nil];omega
   ·simp
  ·have amT:i<l.length:=by omega
   have q1':¬(i:Int)=(l.length:Int):=by omega
   have e1:=ED l amT
   have hgd:l.drop i=l.getD i 0::l.drop (i+1):=by rw[List.drop_eq_getElem_cons amT,List.getD_eq_getElem?_getD,List.getElem?_eq_getElem amT];rfl
   by_cases q2:l.getD i 0=c
   ·have q2':((l.getD i 0).toNat:Int)=(c.toNat:Int):=by rw[q2]
    have ajM:iK c l=(out++[(l.drop fr).take (i-fr)])++iK c (l.drop (i+1)):=by
     have Vl:l.drop fr=(l.drop fr).take (i-fr)++c::l.drop (i+1):=by
      have h1:(l.drop fr).drop (i-fr)=l.drop i:=by rw[List.drop_drop];congr 1;omega
      conv=>lhs;rw[←List.take_append_drop (i-fr) (l.drop fr),h1,hgd,q2]
     rw[hp]
     conv=>lhs;rw[Vl]
     rw[OL hc,List.append_assoc]
     rfl
    simp only[pS,g0,g1,g5,g6,g7,bO,cS,q1',e1,q2',eq_self,e2,e4,e5,eP,wi,VX,Nat.reduceEqDiff,Nat.reduceAdd]
    refine⟨(out++[(l.drop fr).take (i-fr)],i+1,i+1),by simp only;omega,?_,by simp only;omega,by simp only;omega,?_,.inl ⟨by simp only;omega,ajM,by simp⟩,?_⟩
    ·simp
    ·simp only[List.length_append,List.length_cons,List.length_nil];omega
    ·simp
   ·have q2':¬((l.getD i 0).toNat:Int)=(c.toNat:Int):=fun h=>q2 (UInt8.toNat_inj.1 (by omega))
    simp only[pS,g0,g1,g5,g6,g7,bO,cS,q1',e1,q2',wi,VX,Nat.reduceEqDiff,Nat.reduceAdd]
    refine⟨(out,fr,i+1),by simp only;omega,rfl,by simp only;omega,by simp only;omega,jT,.inl ⟨by simp only;omega,hp,?_⟩,rfl,rfl,rfl⟩
    simp only
    rw[show i+1-fr=(i-fr)+1 by omega,List.take_add_one,List.mem_append,not_or]
    refine⟨hc,?_⟩
    have:(l.drop fr)[i-fr]? = some (l.getD i 0):=by
     rw[List.getElem?_drop,show fr+(i-fr)=i by omega,List.getD_eq_getElem?_getD,List.getElem?_eq_getElem amT]
     rfl
    rw[this]
    simp
    exact fun h=>q2 h.symm
 ·have ajM:iK c l=out:=by
   rcases DZ with⟨h,_⟩ | ⟨_,h⟩
   ·omega
   ·exact h
  rw[ajM]
  simp only[pS,g0,g5,g7,bO,cS,VX,Nat.reduceEqDiff,Nat.reduceAdd]
  exact Hf (es:=out.map bE) bB (by simp) (Nat.le_refl _) (eW fun _=>rfl)
theorem afZ {l:List UInt8} (h:l.all iZ=true) {i:Nat} (hi:i<l.length):48≤(l.getD i 0).toNat∧(l.getD i 0).toNat≤57:=by
 have:=List.all_eq_true.1 h (l.getD i 0) (by rw[List.getD_eq_getElem?_getD,List.getElem?_eq_getElem hi];exact List.getElem_mem hi)
 simpa[iZ] using this
theorem M8 {l:List UInt8} (hd:l.all iZ=true) (hl:l.length≤1000000000000) {fr tq:Nat} (hft:fr≤tq) (h9:tq-fr≤9) (htl:tq≤l.length) {H:aA} {lo:Nat} {ρ:dU} {Q:VQ} (h0:ρ 0=bE l) (h4:ρ 4=VI tq) (h6:ρ 6=VI 0) (h7:ρ 7=VI fr)
  (hQ:∀bI,(∀t,t<6→bI t=ρ t)→bI 6=VI (bY ((l.drop fr).take (tq-fr)))→Q .normal bI H):VW ⟨true,false⟩ lo (.loop nR) (Bh 2 Q) ρ H:=by
 refine aV (fun(i:Nat) bI H'=>fr≤i∧i≤tq∧H'=H∧(∀t,t<6→bI t=ρ t)∧bI 6=VI (bY ((l.drop fr).take (i-fr)))∧bI 7=VI i) (fun i=>tq-i) fr ⟨Nat.le_refl _,hft,rfl,fun _ _=>rfl,by rw[h6,Nat.sub_self];rfl,h7⟩ ?_
 rintro i bI H' ⟨hfi,hi,rfl,hk,g6,g7⟩
 have g0:=(hk 0 (by decide)).trans h0
 have g4:=(hk 4 (by decide)).trans h4
 by_cases cS:(i:Int)<(tq:Int)
 ·have Wm:i<l.length:=by omega
  have e1:=ED l Wm
  obtain⟨c1,c2⟩:=afZ hd Wm
  have wi:IntKind.i64.wrap ((i:Int)+1)=((i+1:Nat):Int):=wrapN (i+1) (by omega) (by omega)
  have hcd:((l.drop fr).take (i-fr)).all iZ=true:=by
   rw[List.all_eq_true] at hd ⊢
   exact fun x hx=>hd x (List.mem_of_mem_drop (List.mem_of_mem_take hx))
  have bH:=Ib hcd
  rw[List.length_take,List.length_drop,Nat.min_eq_left (by omega)] at bH
  have hp9:10^(i-fr)≤10^8:=Nat.pow_le_pow_right (by decide) (by omega)
  have e8:(10:Nat)^8=100000000:=by decide
  have tS:bY ((l.drop fr).take (i+1-fr))=bY ((l.drop fr).take (i-fr))*10+dv (l.getD i 0):=by
   have:(l.drop fr)[i-fr]? = some (l.getD i 0):=by
    rw[List.getElem?_drop,show fr+(i-fr)=i by omega,List.getD_eq_getElem?_getD,List.getElem?_eq_getElem Wm]
    rfl
   rw[show i+1-fr=(i-fr)+1 by omega,List.take_add_one,this]
   exact Z1 _ _
  have hdv:dv (l.getD i 0)=(l.getD i 0).toNat-48:=rfl
  rw[hdv] at tS
  generalize (l.getD i 0).toNat=c at *
  generalize bY ((l.drop fr).take (i-fr))=D at *
  have w1:IntKind.i64.wrap (10*(D:Int))=((10*D:Nat):Int):=wrapN _ (by omega) (by omega)
  have w2:IntKind.u8.wrap ((c:Int)-48)=((c-48:Nat):Int):=by
   simp[IntKind.wrap,IntKind.bits,IntKind.signed]
   omega
  have w3:IntKind.i64.wrap ((c-48:Nat):Int)=((c-48:Nat):Int):=wrapN _ rfl (by omega)
  have w4:IntKind.i64.wrap (((10*D:Nat):Int)+((c-48:Nat):Int))=((D*10+(c-48):Nat):Int):=wrapN _ (by omega) (by omega)
  simp only[nR,g0,g4,g6,g7,cS,e1,w1,w2,w3,w4,wi,VX,Nat.reduceEqDiff,Nat.reduceAdd]
  refine⟨i+1,by omega,by omega,by omega,fun t ht => ?_,by rw[tS],rfl⟩
  try simp only[wS]
  repeat rw[if_neg (by omega)]
  exact hk t ht
 ·have mI:i=tq:=by omega
  subst mI
  simp only[nR,g4,g7,cS,VX,Nat.reduceEqDiff,Nat.reduceAdd]
  refine hQ _ (fun t ht => ?_) ?_
  ·try simp only[wS]
   repeat rw[if_neg (by omega)]
   exact hk t ht
  ·simp only[g6,VX,Nat.reduceEqDiff,Nat.reduceAdd]
set_option maxHeartbeats 1000000 in
theorem tZ (l:List UInt8) (hd:l.all iZ=true) (hl:l.length≤1000000000):TC 169 [bE l] (cA (bY l)):=by
 refine TC.walk ⟨true,false⟩ Ij rfl (Nat.le_of_ble_eq_true rfl) rfl (oH _) ?_
 have e3:∀lr,kD lr [.int .i64 0] 0 [] []=some (.ref 0 0 0 0 0,[.row 0 (([]:List Nat).map tV) 1 true]):=fun lr=>gY (H:=[]) (lr:=lr) (z:=[.int .i64 0]) rfl
 have e4:∀(x:Nat) (H:aA),kD false [.int .i64 0] 1 [(0,tV x)] H=some (.tree [tV x] (.cl 1),H):=fun x H=>fU (z:=[.int .i64 0]) rfl rfl rfl
 have e5:∀(x:Nat) (H:aA),cT 1 (.tree [tV x] (.cl 1)) H=some [tV x]:=fun x H=>dL rfl rfl
 simp only[DA,Ba,e3,bO,VX,Nat.reduceEqDiff,Nat.reduceAdd]
 refine aV (fun(s:List Nat×Int) ρ H=>H=[.row s.1.length (s.1.map tV) 1 true]∧s.2≤l.length ∧ -9≤s.2∧s.1.length+s.2.toNat≤l.length∧(∀d∈s.1,d<1000000000)∧bY l=val 1000000000 s.1+1000000000^s.1.length*bY (l.take s.2.toNat) ∧
  ρ 0=bE l∧ρ 3 = .ref 0 s.1.length 0 s.1.length s.1.length∧ρ 4=VI s.2) (fun s=>s.2.toNat) ([],(l.length:Int)) ⟨rfl,Int.le_refl _,by simp only;omega,by simp,by simp,?_,rfl,rfl,rfl⟩ ?_
 ·simp only[Int.toNat_natCast,List.take_length,List.length_nil,Nat.pow_zero,Nat.one_mul,val,Nat.zero_add]
 rintro⟨out,z⟩ ρ H ⟨rfl,hz,hz9,jT,hds,hv,g0,g3,g4⟩
 simp only at hz hz9 jT hds hv g3 g4
 by_cases mC:0<z
 ·obtain⟨tq,rfl⟩:∃tq:Nat,z=tq:=⟨z.toNat,by omega⟩
  rw[Int.toNat_natCast] at jT hv
  have hto:0<tq:=by omega
  have key:∀fr:Nat,fr≤tq→tq-fr≤9→bY (l.take tq)=bY (l.take fr)*10^(tq-fr)+bY ((l.drop fr).take (tq-fr))∧bY ((l.drop fr).take (tq-fr))<1000000000:=by
   intro fr h1 h2
   have hcd:((l.drop fr).take (tq-fr)).all iZ=true:=by
    rw[List.all_eq_true] at hd ⊢
    exact fun x hx=>hd x (List.mem_of_mem_drop (List.mem_of_mem_take hx))
   have hlen:((l.drop fr).take (tq-fr)).length=tq-fr:=by rw[List.length_take,List.length_drop];omega
   constructor
   ·have:=List.take_add (l:=l) (i:=fr) (j:=tq-fr)
    rw[show fr+(tq-fr)=tq by omega] at this
    rw[this,O3,hlen]
   ·have:=Ib hcd
    rw[hlen] at this
    exact Nat.lt_of_lt_of_le this (Nat.le_trans (Nat.pow_le_pow_right (by decide) h2) (by decide))
  have eP:=fun X=>gG (f:=tV) (xs:=out) (x:=X) (lo:=0) (b:=0) (g:=out.length) (n:=out.length) (e:=1) (bytes:=8) (H:=[.row out.length (out.map tV) 1 true]) bB rfl (Nat.zero_le _) (by decide) (by decide) (by omega)
  have Jt:∀X,([.row out.length (out.map tV) 1 true]:aA).set 0 (.row (out.length+1) ((out++[X]).map tV) 1 true)=[.row (out.length+1) ((out++[X]).map tV) 1 true]:=fun _=>rfl
  simp only[Jt] at eP
  by_cases h9:(9:Int)<(tq:Int)
  ·obtain⟨k1,k2⟩:=key (tq-9) (by omega) (by omega)
   have wz:IntKind.i64.wrap ((tq:Int)-9)=((tq-9:Nat):Int):=wrapN _ (by omega) (by omega)
   rw[show tq-(tq-9)=9 by omega] at k1 k2
   rw[show (10:Nat)^9=1000000000 by decide] at k1
   simp only[oB,g0,g3,g4,mC,h9,wz,VX,Nat.reduceEqDiff,Nat.reduceAdd]
   refine M8 (l:=l) hd (by omega) (fr:=tq-9) (tq:=tq) (by omega) (by omega) (by omega) ?_ ?_ ?_ ?_ fun yY q q6 => ?_
   all_goals first | (simp only[g0,g4,VX,Nat.reduceEqDiff,Nat.reduceAdd];done) | skip
   rw[show tq-(tq-9)=9 by omega] at q6
   have u3:yY 3 = .ref 0 out.length 0 out.length out.length:=by rw[q 3 (by decide)];simp only[g3,VX,Nat.reduceEqDiff,Nat.reduceAdd]
   have u0:yY 0=bE l:=by rw[q 0 (by decide)];simp only[g0,VX,Nat.reduceEqDiff,Nat.reduceAdd]
   have u4:yY 4=VI tq:=by rw[q 4 (by decide)];simp only[g4,VX,Nat.reduceEqDiff,Nat.reduceAdd]
   generalize bY ((l.drop (tq-9)).take 9)=X at *
   have e4:=e4 X
   have e5:=e5 X
   have eP:=eP X
   simp only[u0,u3,u4,q6,e4,e5,eP,wz,VX,Nat.reduceEqDiff,Nat.reduceAdd]
   refine⟨(out++[X],((tq-9:Nat):Int)),by simp only;omega,?_,by simp only;omega,by simp only;omega,?_,?_,?_,?_⟩
   ·simp
   ·simp only[List.length_append,List.length_cons,List.length_nil];omega
   ·intro d hdm
    rcases List.mem_append.1 hdm with h | h
    ·exact hds d h
    ·rw[List.mem_singleton] at h;omega
   ·simp only[Int.toNat_natCast]
    rw[hv,k1,tT,List.length_append,List.length_singleton,Nat.pow_succ]
    grind
   ·simp
  ·obtain⟨k1,k2⟩:=key 0 (by omega) (by omega)
   rw[List.take_zero,Nc,Nat.zero_mul,Nat.zero_add,Nat.sub_zero] at k1
   rw[Nat.sub_zero] at k2
   have wz:IntKind.i64.wrap ((tq:Int)-9)=(tq:Int)-9:=wrap64 (by omega) (by omega)
   simp only[oB,g0,g3,g4,mC,h9,VX,Nat.reduceEqDiff,Nat.reduceAdd]
   refine M8 (l:=l) hd (by omega) (fr:=0) (tq:=tq) (by omega) (by omega) (by omega) ?_ ?_ ?_ ?_ fun yY q q6 => ?_
   all_goals first | (simp only[g0,g4,VX,Nat.reduceEqDiff,Nat.reduceAdd];done) | (simp only[VX,Nat.reduceEqDiff,Nat.reduceAdd];rfl) | skip
   rw[Nat.sub_zero] at q6
   have u3:yY 3 = .ref 0 out.length 0 out.length out.length:=by rw[q 3 (by decide)];simp only[g3,VX,Nat.reduceEqDiff,Nat.reduceAdd]
   have u0:yY 0=bE l:=by rw[q 0 (by decide)];simp only[g0,VX,Nat.reduceEqDiff,Nat.reduceAdd]
   have u4:yY 4=VI tq:=by rw[q 4 (by decide)];simp only[g4,VX,Nat.reduceEqDiff,Nat.reduceAdd]
   generalize bY ((l.drop 0).take tq)=X at *
   have e4:=e4 X
   have e5:=e5 X
   have eP:=eP X
   simp only[u0,u3,u4,q6,e4,e5,eP,wz,VX,Nat.reduceEqDiff,Nat.reduceAdd]
   refine⟨(out++[X],(tq:Int)-9),by simp only;omega,?_,by simp only;omega,by simp only;omega,?_,?_,?_,?_⟩
   ·simp
   ·simp only[List.length_append,List.length_cons,List.length_nil];omega
   ·intro d hdm
    rcases List.mem_append.1 hdm with h | h
    ·exact hds d h
    ·rw[List.mem_singleton] at h;omega
   ·simp only
    rw[show ((tq:Int)-9).toNat=0 by omega,List.take_zero,Nc,Nat.mul_zero,Nat.add_zero,hv,k1,tT]
   ·simp
 ·have h0:z.toNat=0:=by omega
  rw[h0,List.take_zero,Nc,Nat.mul_zero,Nat.add_zero] at hv
  rw[hv]
  have ct:=TC.alR (f:=tV) (xs:=out) (size:=1) (e:=1) (w:=true) (H:=[.row out.length (out.map tV) 1 true]) (b:=0) (gn:=out.length) (n:=out.length) (c:=out.length) (uQ out hds (by show out.length≤70368744177664;omega)) bB rfl (Nat.le_refl _) G4 (fun _=>rfl) rfl rfl
  simp only[oB,g0,g3,g4,mC,ct,VX,Nat.reduceEqDiff,Nat.reduceAdd]
  exact aE (cL _)
end Go.PM