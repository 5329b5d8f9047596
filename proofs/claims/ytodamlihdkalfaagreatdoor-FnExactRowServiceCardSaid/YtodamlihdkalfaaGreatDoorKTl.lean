/- Texts of a claim, in one: part 12. -/
import Derived.KernelRfl
import Derived.Lib.LaidTab
import Derived.LaidLaws
import Derived.LaidMore
import Derived.MakeChecks
import Derived.Handed
import Derived.Test.YtodamlihdkalfaaGreatDoorKTk
set_option linter.unusedSimpArgs false
set_option linter.unusedVariables false
namespace Go.PM
open Go.Lib
def IE (qs:List Rat) (i:Nat):List (List Rat):=Zp qs.length qs.length fun a b=>if a<i∧b=a+1 then qs.getD a 0 else 0
theorem Ok {qs:List Rat} {i:Nat}:(IE qs i).set i ((vec qs.length fun b=>if i<i∧b=i+1 then qs.getD i 0 else 0).set (i+1) (qs.getD i 0))=IE qs (i+1):=by
 rw[Tp,IE,aaN]
 refine Gv fun a b ha hb => ?_
 by_cases h1:a=i
 ·subst h1
  rw[if_pos rfl]
  by_cases h2:b=a+1
  ·rw[if_pos h2,if_pos ⟨by omega,h2⟩]
  ·rw[if_neg h2,if_neg (fun h=>h2 h.2),if_neg (fun h=>h2 h.2)]
 ·rw[if_neg h1]
  by_cases h2:a<i∧b=a+1
  ·rw[if_pos h2,if_pos ⟨by omega,h2.2⟩]
  ·rw[if_neg h2,if_neg (fun h=>h2 ⟨by omega,h.2⟩)]
def Jo (n:Nat):List Rat:=(List.replicate n (0:Rat)).set 0 1
def HO (qs:List Rat):List Rat:=(List.replicate qs.length (0:Rat)).set (qs.length-1) (qs.getD (qs.length-1) 0)
def pL (rs:List ByteArray):Option CE:=match Gu rs with
 | some qs=>if 1≤qs.length∧qs.length≤6 then iD (Jo qs.length) (IE qs (qs.length-1)) (HO qs) else none
 | none=>none
theorem Gr {qs:List Rat} {B:Nat} (h:∀q∈qs,fS q≤B) (hB:1≤B) (i:Nat):fS (qs.getD i 0)≤B:=by
 rw[List.getD_eq_getElem?_getD]
 cases hi:qs[i]? with
 | none=>rw[Option.getD_none,DG];exact hB
 | some q=>exact h q (List.mem_of_getElem? hi)
theorem Fj {qs:List Rat} {B i:Nat} {y:Rat} (h:∀q∈qs,fS q≤B) (hy:fS y≤B):∀q∈qs.set i y,fS q≤B:=fun q hq=>by
 rcases List.mem_or_eq_of_mem_set hq with h1 | rfl
 ·exact h q h1
 ·exact hy
theorem AH {n B:Nat} (hB:1≤B):∀q∈List.replicate n (0:Rat),fS q≤B:=fun q hq=>by
 rw[List.eq_of_mem_replicate hq,DG]
 exact hB
theorem O5 {qs:List Rat} {B i:Nat} (h:∀q∈qs,fS q≤B) (hB:1≤B):∀r∈IE qs i,r.length=qs.length∧∀q∈r,fS q≤B:=fun r hr=>by
 obtain⟨a,ha,rfl⟩:=Ss hr
 refine⟨Af ..,fun q hq => ?_⟩
 obtain⟨b,hb,rfl⟩:=T1.1 hq
 split
 ·exact Gr h hB a
 ·rw[DG];exact hB
theorem Hm.own {n lo hi:Nat} {s:CE} {H:aA} {v:VV} (h:Hm s lo hi H v) (hn:n≤lo):∃a b c,v = .agg [a,b,c]∧aZ a=true∧aZ b=true∧aZ c=true∧dB n a=true∧dB n b=true∧dB n c=true:=by
 obtain⟨a,b,c,m1,m2,rfl,l1,l2,l3,ha,hb,hc⟩:=h
 refine⟨a,b,c,rfl,ha.cell,hb.cell,hc.cell,?_,?_,?_⟩
 ·rcases ha with⟨rfl,_⟩ | ⟨b,g,c,h1,h2,rfl,h3⟩
  ·rfl
  ·simp[dB];omega
 ·rcases hb with⟨rfl,_⟩ | ⟨b,g,c,rs,h1,h2,rfl,h3⟩
  ·rfl
  ·simp[dB];omega
 ·rcases hc with⟨rfl,_⟩ | ⟨b,g,c,h1,h2,rfl,h3⟩
  ·rfl
  ·simp[dB];omega
theorem aaY {H:aA} {b1 g1 c1 b2 g2 c2 b3 g3 c3 lo hi:Nat} {xs zs:List Rat} {rs:List (wU Rat)} {w1 w3:Bool} (h1:aF H b1 g1=some (xs.map bD,3,w1)) (Uu:xs.length≤c1) (h2:MG bD 3 lo hi b2 g2 H rs) (Qv:rs.length≤c2) (h3:aF H b3 g3=some (zs.map bD,3,w3)) (Zx:zs.length≤c3) :
  PM.fz depth H (.agg [.ref b1 g1 0 xs.length c1,.ref b2 g2 0 rs.length c2,.ref b3 g3 0 zs.length c3])=some (Nr bD xs (rs.map (·.xs)) zs):=by
 refine Ii (d:=6) ?_
 rw[List.mapM_cons,Cx (d:=5) lH h1 Uu]
 rw[List.mapM_cons,h2.fz (d:=4) Qv lH]
 rw[List.mapM_cons,Cx (d:=5) lH h3 Zx]
 rfl
theorem SP {n t:Nat} {H2 L:aA} {P:Nat→Nat→aA→VV→Prop} {ok:Bool} {v:VV} (wW:∀ {lo hi H H' v},P lo hi H v→cJ lo hi H H'→P lo hi H' v) (N5:∀ {lo hi jF nO:Nat} {H:aA} {v:VV},P lo hi H v→jF≤lo→hi≤nO→P jF nO H v)
  (Fu:∃a b c,v = .agg [a,b,c]∧aZ a=true∧aZ b=true∧aZ c=true∧dB n a=true∧dB n b=true∧dB n c=true) (hr:aF H2 t 0=some ([.agg [.tree [] .nil,.tree [] .nil,.tree [] .nil]],3,true)) (hnt:n≤t) (hv:P H2.length (H2++L).length (H2++L) v) (hL:dH n L=true) :
  ∃H3,bX n 3 (.ptr t 0 0 0) v (H2++L)=some H3∧cQ true 3 (.ptr t 0 0 0) H3=some v∧∃L',AO H3 (List.replicate n .dead++L')∧dB n (.dS [v,.sc (.bool ok)])=true∧dH n L'=true∧QA P ok n (.dS [v,.sc (.bool ok)]) L':=by
 obtain⟨a,b,c,rfl,h1,h2,h3,h4,h5,h6⟩:=Fu
 have ht:=jA hr
 refine⟨(H2++L).set t (.row 0 [.agg [a,b,c]] 3 true),?_,?_,?_⟩
 ·rw[dG (fZ hr) (by exact Nat.zero_lt_one) hnt rfl (by simp[aB,h1,h2,h3])]
  rfl
 ·rw[cG,dE (fZ hr)]
  rfl
 ·refine aeA (k:=H2.length) (lo:=H2.length) (hi:=(H2++L).length) (by omega) (by rw[List.length_set,List.length_append];omega) ((Ez.start.arX hL).set (by omega)) (by simp[dB,kU,h4,h5,h6]) wW N5 (wW hv (cJ.set (by omega))) (Nat.le_refl _) (by rw[List.length_set];exact Nat.le_refl _)
set_option maxHeartbeats 4000000 in
theorem Eh (xs:List ByteArray) (hn:xs.length≤1000000000) (hs:∀s∈xs,s.size≤1000000000):FC 49 [fC xs] (QA (Hm ((pL xs).getD sF)) (pL xs).isSome):=by
 refine FC.IF ⟨true,false⟩ Eg (Nat.le_of_ble_eq_true rfl) fun n => ?_
 have e1:=Gn xs hn hs
 have Bx:aF (List.replicate n bM.dead++[bM.row 0 [.agg [.tree [] .nil,.tree [] .nil,.tree [] .nil]] 3 true]) n 0=some ([.agg [.tree [] .nil,.tree [] .nil,.tree [] .nil]],3,true):=by rw[tU,aV]
 have f1:bX n 3 (.ptr n 0 0 0) (.agg [.tree [] .nil,.tree [] .nil,.tree [] .nil]) (List.replicate n bM.dead++[bM.row 0 [.agg [.tree [] .nil,.tree [] .nil,.tree [] .nil]] 3 true])=some (List.replicate n bM.dead++[bM.row 0 [.agg [.tree [] .nil,.tree [] .nil,.tree [] .nil]] 3 true]):=by
  rw[dG Bx (by exact Nat.zero_lt_one) (Nat.le_refl _) rfl rfl,Cd]
  rfl
 have f2:cQ true 3 (.ptr n 0 0 0) (List.replicate n bM.dead++[bM.row 0 [.agg [.tree [] .nil,.tree [] .nil,.tree [] .nil]] 3 true])=some (.agg [.tree [] .nil,.tree [] .nil,.tree [] .nil]):=by
  rw[cG,Bx]
  rfl
 have bad:pL xs=none→∃L,AO (List.replicate n bM.dead++[bM.row 0 [.agg [.tree [] .nil,.tree [] .nil,.tree [] .nil]] 3 true]) (List.replicate n .dead++L)∧dB n (.dS [.agg [.tree [] .nil,.tree [] .nil,.tree [] .nil],.sc (.bool false)])=true∧dH n L=true∧QA (Hm ((pL xs).getD sF)) (pL xs).isSome n (.dS [.agg [.tree [] .nil,.tree [] .nil,.tree [] .nil],.sc (.bool false)]) L:=fun L5=>by
  rw[L5]
  exact⟨_,wA (by simp),rfl,uJ,_,rfl,Qa (Nat.le_add_right _ _)⟩
 cases h:Gu xs with
 |
  none =>
  rw[h,RZ] at e1
  have bad:=bad (by unfold pL;rw[h])
  simp only[lE,jP,e1,f1,f2,C5,List.length_replicate,gX,VX,Nat.reduceEqDiff,Nat.reduceAdd,Nat.reduceLeDiff,Nat.reduceLT,Nat.reduceSub]
  exact bad
 |
  some qs =>
  rw[h,Rr] at e1
  obtain⟨hl,hq⟩:=F2 h
  by_cases h1:(qs.length:Int)<1
  ·have bad:=bad (by unfold pL;rw[h];exact if_neg (by omega))
   simp only[lE,jP,e1,f1,f2,h1,C5,List.length_replicate,gX,VX,Nat.reduceEqDiff,Nat.reduceAdd,Nat.reduceLeDiff,Nat.reduceLT,Nat.reduceSub]
   exact bad
  by_cases h6:(6:Int)<(qs.length:Int)
  ·have bad:=bad (by unfold pL;rw[h];exact if_neg (by omega))
   simp only[lE,jP,e1,f1,f2,h1,h6,C5,List.length_replicate,gX,VX,Nat.reduceEqDiff,Nat.reduceAdd,Nat.reduceLeDiff,Nat.reduceLT,Nat.reduceSub]
   exact bad
  clear bad f1 f2
  have CO:pL xs=iD (Jo qs.length) (IE qs (qs.length-1)) (HO qs):=by unfold pL;rw[h];exact if_pos (by omega)
  rw[CO]
  simp only[lE,jP,e1,h1,h6,C5,List.length_replicate,gX,VX,Nat.reduceEqDiff,Nat.reduceAdd,Nat.reduceLeDiff,Nat.reduceLT,Nat.reduceSub]
  generalize QB:List.replicate n bM.dead++[bM.row 0 [.agg [.tree [] .nil,.tree [] .nil,.tree [] .nil]] 3 true]=H0 at *
  have wR:H0.length=n+1:=by rw[←QB];simp
  refine dL rfl ((BW (H:=H0) qs.length (by omega) (by omega)).mono ?_)
  rintro r1 H1 ⟨rfl,rfl⟩
  simp only[gX,VX,Nat.reduceEqDiff,Nat.reduceAdd,Nat.reduceLeDiff,Nat.reduceLT,Nat.reduceSub]
  refine Ak rfl (MP (H:=H0++[.row 0 ((List.replicate qs.length (0:Rat)).map bD) 3 true]) qs.length (by omega) (by rw[List.length_append];omega)) fun r2 L2 hz => ?_
  obtain⟨b,g,c,rs,rfl,hc,hM,HV⟩:=hz
  rw[List.length_replicate] at hc
  have yE:rs.length=qs.length:=by have:=congrArg List.length HV;simpa using this
  simp only[gX,VX,Nat.reduceEqDiff,Nat.reduceAdd,Nat.reduceLeDiff,Nat.reduceLT,Nat.reduceSub]
  have hrB:aF (H0++[bM.row 0 ((List.replicate qs.length (0:Rat)).map bD) 3 true]++L2) H0.length 0=some ((List.replicate qs.length (0:Rat)).map bD,3,true):=by rw[List.append_assoc,CF];rfl
  have N3:aF (H0++[bM.row 0 ((List.replicate qs.length (0:Rat)).map bD) 3 true]++L2) n 0=some ([.agg [.tree [] .nil,.tree [] .nil,.tree [] .nil]],3,true):=by rw[List.append_assoc];exact fZ Bx
  have EL:n+2≤(H0++[bM.row 0 ((List.replicate qs.length (0:Rat)).map bD) 3 true]++L2).length:=by simp;omega
  have hlz:(H0++[bM.row 0 ((List.replicate qs.length (0:Rat)).map bD) 3 true]).length=n+2:=by simp;omega
  rw[hlz] at hM
  generalize H0++[.row 0 ((List.replicate qs.length (0:Rat)).map bD) 3 true]++L2=H2 at *
  refine dL rfl ((BW (H:=H2) qs.length (by omega) (by omega)).mono ?_)
  rintro r3 H3 ⟨rfl,rfl⟩
  rw[List.length_replicate]
  have hM3:=hM.pre (H':=H2++[.row 0 ((List.replicate qs.length (0:Rat)).map bD) 3 true]) (List.prefix_append _ _)
  have ajC:=fZ (L:=[.row 0 ((List.replicate qs.length (0:Rat)).map bD) 3 true]) hrB
  have Qm:=fZ (L:=[.row 0 ((List.replicate qs.length (0:Rat)).map bD) 3 true]) N3
  have hrE:aF (H2++[bM.row 0 ((List.replicate qs.length (0:Rat)).map bD) 3 true]) H2.length 0=some ((List.replicate qs.length (0:Rat)).map bD,3,true):=dZ
  have hl3:(H2++[bM.row 0 ((List.replicate qs.length (0:Rat)).map bD) 3 true]).length=H2.length+1:=by simp
  have hlM:=hM.bhi
  generalize H2++[.row 0 ((List.replicate qs.length (0:Rat)).map bD) 3 true]=H3 at *
  have s1:bX n 3 (.ptr H3.length 0 0 0) (.agg [.ref H0.length 0 0 qs.length qs.length,.ref b g 0 qs.length c,.ref H2.length 0 0 qs.length qs.length]) (H3++[bM.row 0 [.agg [.tree [] .nil,.tree [] .nil,.tree [] .nil]] 3 true])=some (H3++[bM.row 0 [.agg [.ref H0.length 0 0 qs.length qs.length,.ref b g 0 qs.length c,.ref H2.length 0 0 qs.length qs.length]] 3 true]):=by
   rw[dG (e:=3) (g:=0) (j:=0) dZ (by exact Nat.zero_lt_one) (by omega) rfl rfl,zU]
   rfl
  simp only[s1,gX,VX,Nat.reduceEqDiff,Nat.reduceAdd,Nat.reduceLeDiff,Nat.reduceLT,Nat.reduceSub]
  have hp4:=List.prefix_append H3 [.row 0 [.agg [.ref H0.length 0 0 qs.length qs.length,.ref b g 0 qs.length c,.ref H2.length 0 0 qs.length qs.length]] 3 true]
  have hM4:=hM3.pre hp4
  have KJ:=bL hp4 ajC
  have YI:=bL hp4 Qm
  have Xw:=bL hp4 hrE
  have Ki:aF (H3++[bM.row 0 [.agg [.ref H0.length 0 0 qs.length qs.length,.ref b g 0 qs.length c,.ref H2.length 0 0 qs.length qs.length]] 3 true]) H3.length 0=some ([.agg [.ref H0.length 0 0 qs.length qs.length,.ref b g 0 qs.length c,.ref H2.length 0 0 qs.length qs.length]],3,true):=dZ
  generalize H3++[.row 0 [.agg [.ref H0.length 0 0 qs.length qs.length,.ref b g 0 qs.length c,.ref H2.length 0 0 qs.length qs.length]] 3 true]=H4 at *
  obtain⟨m,hm⟩:∃m,qs.length=m+1:=⟨qs.length-1,by omega⟩
  have w1:IntKind.i64.wrap ((qs.length:Int)-1)=((m:Nat):Int):=wrapN m (by omega) (by omega)
  obtain⟨ql,hql⟩:∃q,qs[m]? = some q:=⟨_,List.getElem?_eq_getElem (by omega)⟩
  have a1:=fun H=>aJ (f:=bD) (t := .op) (H:=H) (size:=3) (k := .i64) hql rfl
  have e2:TC 97 [VI 1] (bD 1):=Ac 1 (by decide) (by decide)
  have d7:∀k,k<3→∀x,[VV.ref H0.length 0 0 qs.length qs.length,.ref b g 0 qs.length c,.ref H2.length 0 0 qs.length qs.length][k]? = some x→cQ false 1 (.ptr H3.length 0 0 k) H4=some x:=fun k _ x hx=>by
   rw[cG,Ki]
   exact hx
  have d70:=d7 0 (by decide) _ rfl
  have d72:=d7 2 (by decide) _ rfl
  have a2:bJ 3 (.ref H0.length 0 0 qs.length qs.length) (VI 0) H4=some (.ptr H0.length 0 0 0):=by
   have:=aP (o:=0) (n:=qs.length) (c:=qs.length) (i:=0) (k := .i64) KJ (by omega)
   simpa using this
  have s2:=dF (lo:=n) (f:=bD) (x:=1) (j:=0) KJ (by simp;omega) (by omega) rfl rfl
  have MR:=aL (x := .row 0 (((List.replicate qs.length (0:Rat)).set 0 1).map bD) 3 true) (b':=H0.length) (by omega) Xw
  have a3:bJ 3 (.ref H2.length 0 0 qs.length qs.length) (VI m) (H4.set H0.length (.row 0 (((List.replicate qs.length (0:Rat)).set 0 1).map bD) 3 true))=some (.ptr H2.length 0 m 0):=by
   have:=aP (o:=0) (n:=qs.length) (c:=qs.length) (i:=m) (k := .i64) MR (by omega)
   rwa [Nat.zero_add] at this
  have s3:=dF (lo:=n) (f:=bD) (x:=ql) (j:=m) MR (by simp;omega) (by omega) rfl rfl
  have agR:=jA Ki
  have k1:zJ H4 (.ptr H3.length 0 0 2) (.ptr H0.length 0 0 0)=true:=by
   have:H3.length≠H0.length:=by omega
   simp[zJ,As,Ki,KJ,this]
  simp only[w1,a1,a2,a3,e2,s2,s3,k1,d70,d72,Ki,vI,jN,sR,El,List.all_cons,List.all_nil,Bool.and_true,gX,VX,Nat.reduceEqDiff,Nat.reduceAdd,Nat.reduceLeDiff,Nat.reduceLT,Nat.reduceSub]
  have hM5:=(hM4.bO (cJ.set (x := .row 0 (((List.replicate qs.length (0:Rat)).set 0 1).map bD) 3 true) (b:=H0.length) (.inl (by omega)))).bO (cJ.set (x := .row 0 (((List.replicate qs.length (0:Rat)).set m ql).map bD) 3 true) (b:=H2.length) (.inr (Nat.le_refl _)))
  have Xk:=aL (x := .row 0 (((List.replicate qs.length (0:Rat)).set m ql).map bD) 3 true) (b':=H2.length) (by omega) (dE (g:=0) (e:=3) (w:=true) (es:=((List.replicate qs.length (0:Rat)).set 0 1).map bD) KJ)
  have XG:=dE (g:=0) (e:=3) (w:=true) (es:=((List.replicate qs.length (0:Rat)).set m ql).map bD) MR
  have QH:=aL (x := .row 0 (((List.replicate qs.length (0:Rat)).set m ql).map bD) 3 true) (b':=H2.length) (by omega) (aL (x := .row 0 (((List.replicate qs.length (0:Rat)).set 0 1).map bD) 3 true) (b':=H0.length) (by omega) Ki)
  have R1:=aL (x := .row 0 (((List.replicate qs.length (0:Rat)).set m ql).map bD) 3 true) (b':=H2.length) (by omega) (aL (x := .row 0 (((List.replicate qs.length (0:Rat)).set 0 1).map bD) 3 true) (b':=H0.length) (by omega) YI)
  generalize (H4.set H0.length (.row 0 (((List.replicate qs.length (0:Rat)).set 0 1).map bD) 3 true)).set H2.length (.row 0 (((List.replicate qs.length (0:Rat)).set m ql).map bD) 3 true)=H5 at *
  have aeX:IE qs 0=List.replicate qs.length (List.replicate qs.length 0):=by
   rw[Ly,IE]
   exact Gv fun a b _ _=>if_neg (fun h=>by omega)
  refine aR (fun(i:Nat) ρ H=>i≤m∧n≤H.length∧(∃rs,rs.length=qs.length∧rs.map (·.xs)=IE qs i∧MG bD 3 (n+2) H2.length b g H rs)∧aF H n 0=some ([.agg [.tree [] .nil,.tree [] .nil,.tree [] .nil]],3,true)∧aF H H0.length 0=some (((List.replicate qs.length (0:Rat)).set 0 1).map bD,3,true)∧aF H H2.length 0=some (((List.replicate qs.length (0:Rat)).set m ql).map bD,3,true) ∧
    aF H H3.length 0=some ([.agg [.ref H0.length 0 0 qs.length qs.length,.ref b g 0 qs.length c,.ref H2.length 0 0 qs.length qs.length]],3,true)∧ρ 2 = .ptr n 0 0 0∧ρ 4=bH bD qs∧ρ 7 = .ptr H3.length 0 0 0∧ρ 49=VI m∧ρ 50=VI i) (fun i=>m-i) 0
   ⟨Nat.zero_le _,by have:=jA R1;omega,⟨rs,yE,by rw[HV,aeX],hM5⟩,R1,Xk,XG,QH,rfl,rfl,rfl,rfl,rfl⟩ ?_
  clear hM hM3 hM4 hM5 hrB ajC KJ Xk hrE Xw MR XG N3 Qm YI R1 Ki QH Bx s1 s2 s3 a2 a3 d7 d70 d72 HV rs yE k1 agR
  rintro i ρ H ⟨hi,V8,⟨rs,yE,HV,hM⟩,Bx,hrB,hrE,Ki,g2,g4,g7,g49,g50⟩
  have d71:cQ false 1 (.ptr H3.length 0 0 1) H=some (.ref b g 0 qs.length c):=by
   rw[cG,Ki]
   rfl
  by_cases dD:(i:Int)<(m:Int)
  ·obtain⟨q,Oh⟩:∃q,qs[i]? = some q:=⟨_,List.getElem?_eq_getElem (by omega)⟩
   have a4:=fun H=>aJ (f:=bD) (t := .op) (H:=H) (size:=3) (k := .i64) Oh rfl
   have wi:IntKind.i64.wrap ((i:Int)+1)=((i+1:Nat):Int):=wrapN (i+1) (by omega) (by omega)
   obtain⟨r,Ei⟩:∃r,rs[i]? = some r:=⟨_,List.getElem?_eq_getElem (by omega)⟩
   have Dy:r.xs=vec qs.length fun b=>if i<i∧b=i+1 then qs.getD i 0 else 0:=by
    have h1:(rs.map (·.xs))[i]? = some r.xs:=by rw[List.getElem?_map,Ei];rfl
    rw[HV,IE,TT (by omega)] at h1
    exact(Option.some.inj h1).symm
   have hxl:r.xs.length=qs.length:=by rw[Dy,Af]
   have m1:=hM.addr (n:=qs.length) (c:=c) (i:=i) (by omega)
   have m2:=hM.cell Ei
   have m3:=hM.at (n:=r.xs.length) (c:=r.c) (j:=i+1) Ei (by omega)
   have m4:=hM.put (j:=i+1) (y:=q) (jF:=n) Ei (by omega) (by omega) rfl rfl
   have m5:=hM.set (ys:=r.xs.set (i+1) q) Ei (by simp)
   have X8:=hM.lt Ei
   simp only[oT,g4,g7,g49,g50,dD,a4,d71,m1,m2,m3,m4,wi,Ki,vI,jN,gX,VX,Nat.reduceEqDiff,Nat.reduceAdd,Nat.reduceLeDiff,Nat.reduceLT,Nat.reduceSub]
   refine⟨i+1,by omega,by omega,by rw[List.length_set];exact V8,⟨_,by rw[List.length_set];exact yE,?_,m5⟩,aL (by omega) Bx,aL (by omega) hrB,aL (by omega) hrE,aL (by omega) Ki,by (repeat' apply And.intro)<;>first | rfl | trivial | assumption⟩
   rw[List.map_set,HV]
   have hqd:qs.getD i 0=q:=by rw[List.getD_eq_getElem?_getD,Oh];rfl
   have:=Ok (qs:=qs) (i:=i)
   rw[←Dy,hqd] at this
   exact this
  ·have oJ:i=m:=by omega
   subst oJ
   have l7:cQ true 3 (.ptr H3.length 0 0 0) H=some (.agg [.ref H0.length 0 0 qs.length qs.length,.ref b g 0 qs.length c,.ref H2.length 0 0 qs.length qs.length]):=by
    rw[cG,Ki]
    rfl
   simp only[oT,g2,g7,g49,g50,dD,l7,gX,VX,Nat.reduceEqDiff,Nat.reduceAdd,Nat.reduceLeDiff,Nat.reduceLT,Nat.reduceSub]
   have hf:=aaY (c1:=qs.length) (c2:=c) (c3:=qs.length) hrB (by simp) hM (by omega) hrE (by simp)
   rw[List.length_set,List.length_set,List.length_replicate,yE,HV] at hf
   have ahD:qs.getD (qs.length-1) 0=ql:=by rw[List.getD_eq_getElem?_getD,hm,Nat.add_sub_cancel,hql];rfl
   have hE:HO qs=(List.replicate qs.length (0:Rat)).set i ql:=by unfold HO;rw[ahD,hm,Nat.add_sub_cancel]
   have hB1:∀q∈qs,fS q≤665:=fun q h=>(hq q h).1
   have hto:=D3 (Jo qs.length) (IE qs i) (HO qs) ⟨by rw[Jo,List.length_set,List.length_replicate];omega,fun q h=>by have:=Fj (B:=665) (AH (by decide)) (by rw[K6];decide) q h;omega⟩
    ⟨by rw[IE,Nt];omega,fun r hr=>by
     obtain⟨h1,h2⟩:=O5 hB1 (by decide) r hr
     exact⟨by omega,fun q h=>by have:=h2 q h;omega⟩⟩ ⟨by rw[HO,List.length_set,List.length_replicate];omega,fun q h=>by have:=Fj (B:=665) (AH (by decide)) (Gr hB1 (by decide) _) q h;omega⟩
   have him:i=qs.length-1:=by omega
   rw[hE] at hto ⊢
   rw[←him]
   refine hto.YM rfl (Pj hf) ?_
   rintro r L ⟨v,rfl,hv⟩ hr hL
   have hv:=hv.bO cJ.move
   rw[←List.length_append] at hv
   obtain⟨H6,t1,t2,t3⟩:=SP (P:=Hm ((iD (Jo qs.length) (IE qs i) ((List.replicate qs.length (0:Rat)).set i ql)).getD sF)) (n:=n) (ok:=(iD (Jo qs.length) (IE qs i) ((List.replicate qs.length (0:Rat)).set i ql)).isSome) Hm.bO Hm.wide (hv.own (by omega)) Bx (Nat.le_refl _) hv (Ad V8 hL)
   simp only[g2,t1,t2,gX,VX,Nat.reduceEqDiff,Nat.reduceAdd,Nat.reduceLeDiff,Nat.reduceLT,Nat.reduceSub]
   exact t3
theorem XM {n:Nat} {F:Nat} {args gR:List VV} {P:Nat→Nat→aA→VV→Prop} {ok:Bool} {H:aA} {K:VV→aA→Prop} (wW:∀ {lo hi H H' v},P lo hi H v→cJ lo hi H H'→P lo hi H' v) (N5:∀ {lo hi jF nO:Nat} {H:aA} {v:VV},P lo hi H v→jF≤lo→hi≤nO→P jF nO H v)
  (Fu:∀ {lo hi H v},P lo hi H v→∀n,n≤lo→∃a b c,v = .agg [a,b,c]∧aZ a=true∧aZ b=true∧aZ c=true∧dB n a=true∧dB n b=true∧dB n c=true) {t:Nat}
  (h:FC F gR (QA P ok)) (rH:Au.contains F=true) (hf:args.mapM (PM.fz depth H)=some gR) (hr:aF H t 0=some ([.agg [.tree [] .nil,.tree [] .nil,.tree [] .nil]],3,true)) (hnt:n≤t)
  (hk:∀v H2 H3,bX n 3 (.ptr t 0 0 0) v H2=some H3→cQ true 3 (.ptr t 0 0 0) H3=some v→(∃L',AO H3 (List.replicate n .dead++L')∧dB n (.dS [v,.sc (.bool ok)])=true∧dH n L'=true∧QA P ok n (.dS [v,.sc (.bool ok)]) L')→K (.dS [v,.sc (.bool ok)]) H2) :
  cM F args n H K:=by
 refine h.YM rH hf ?_
 rintro r L ⟨v,rfl,hv⟩ D7 hL
 have hv:=wW hv cJ.move
 rw[←List.length_append] at hv
 have ht:=jA hr
 obtain⟨H3,t1,t2,t3⟩:=SP (P:=P) (n:=n) (ok:=ok) wW N5 (Fu hv n (by omega)) hr hnt hv (Ad (by omega) hL)
 exact hk v _ H3 t1 t2 t3
abbrev Sr:bM := .row 0 [.agg [.tree [] .nil,.tree [] .nil,.tree [] .nil]] 3 true
theorem Md {n:Nat}:aF (List.replicate n bM.dead++[Sr]) n 0=some ([.agg [.tree [] .nil,.tree [] .nil,.tree [] .nil]],3,true):=by rw[tU,aV]
end Go.PM
namespace Go.PM
def oY:aE:=(.seq (LS [LM 40 8,LO 41 (.bin .add (LT 40) (LI 1)),LM 42 6,LO 43 (.bin .lss (LT 41) (LT 42))] (.cond (LT 43) .skip (.exit 0))) (.seq (.block 1 (.eG [LO 46 (LA 1 7),LO 47 (LL 46),LM 48 8,LO 49 (.iaddr 1 (LT 47) (LT 48)),LO 50 (LL 49),LM 51 8,LO 52 (.bin .add (LT 51) (LI 1)),LM 53 4,LM 54 8,LO 55 (.iaddr 3 (LT 53) (LT 54)),LO 56 (LK 55),LO 57 (.iaddr 3 (LT 50) (LT 52)),LN (.store 3 (LT 57) (LT 56))])) (.eG [LM 44 8,LO 45 (.bin .add (LT 44) (LI 1)),LM 8 45])))
def qG:aE:=(LS [LO 2 (.new [(.slice none 0 0),(.slice none 0 0),(.slice none 0 0)]),LO 3 (.mv LF)] (LS [LM 10 0,LO 11 (.call 121 [(LT 10)]),LM 9 11,LO 12 (LX 9 0),LO 13 (LX 9 1),LM 4 12,LM 5 13] (.seq (LS [LM 14 5,LO 15 (.un .not (LT 14))] (.cond (LT 15) (LS [LO 16 (.build [(.slice none 0 0),(.slice none 0 0),(.slice none 0 0)] [(0,1),(1,1),(2,1)] []),LN (.store 3 (LT 2) (LT 16)),LO 3 (.mv LF)] .ret) .skip)) (LS [LM 17 4,LO 18 (.len (LT 17)),LM 6 18] (LS [LM 19 6,LO 20 (.call 122 [(LT 19)]),LM 21 6,LO 22 (.call 123 [(LT 21)]),LM 23 6,LO 24 (.call 122 [(LT 23)]),LO 25 (.build [(.slice none 0 0),(.slice none 0 0),(.slice none 0 0)] [(0,1),(1,1),(2,1)] [(0,(LT 20)),(1,(LT 22)),(2,(LT 24))]),LO 7 (.new [(.slice none 0 0),(.slice none 0 0),(.slice none 0 0)]),LN (.store 3 (LT 7) (LT 25))] (LS [LO 26 (LA 0 7),LO 27 (LL 26),LQ 28 (.call 124 []),LO 29 (.iaddr 3 (LT 27) (LI 0)),LN (.store 3 (LT 29) (LT 28))] (LS [LO 30 (LA 2 7),LO 31 (LL 30),LM 32 6,LO 33 (.bin .sub (LT 32) (LI 1)),LM 34 4,LM 35 6,LO 36 (.bin .sub (LT 35) (LI 1)),LO 37 (.iaddr 3 (LT 34) (LT 36)),LO 38 (LK 37),LO 39 (.iaddr 3 (LT 31) (LT 33)),LN (.store 3 (LT 39) (LT 38))] (.seq (LS [LO 8 (.mv (LI 0))] (.block 0 (.loop oY))) (LS [LO 58 (.call 125 [(LT 7)]),LO 59 (LX 58 0),LO 60 (LX 58 1),LN (.store 3 (LT 2) (LT 59)),LM 3 60] .ret)))))))))
def sY:aT:=⟨61,[(.cell 2 true 3),(.tmp 3)],qG⟩
theorem EY:hC 48=some sY:=by kernel_rfl
def lG:aE:=(LS [LO 2 (.mv (.const (.slice none 0 0))),LO 3 (.mv LF)] (LS [LM 7 0,LO 8 (.call 115 [(LT 7)]),LM 6 8,LO 9 (LX 6 0),LO 10 (LX 6 1),LM 4 9,LM 5 10] (LS [LM 11 4,LM 12 5,LM 13 12,LY 13 14 (.mv (LT 4)),LY 13 15 (.len (LT 14)),LY 13 16 (.bin .geq (LT 15) (LI 1)),LO 17 (.pick (LT 13) (LT 16) LF),LM 18 17,LY 18 19 (.mv (LT 4)),LY 18 20 (.len (LT 19)),LY 18 21 (.bin .leq (LT 20) (LI 6)),LO 22 (.pick (LT 18) (LT 21) LF),LM 23 22,LY 23 24 (.mv (LT 4)),LY 23 25 (.call 199 [(LT 24)]),LO 26 (.pick (LT 23) (LT 25) LF),LM 2 11,LM 3 26] .ret)))
def oB:aT:=⟨27,[(.tmp 2),(.tmp 3)],lG⟩
theorem Hz:hC 121=some oB:=by kernel_rfl
def uT:aE:=(.seq (LS [LM 6 4,LM 7 0,LO 8 (.bin .lss (LT 6) (LT 7))] (.cond (LT 8) .skip (.exit 0))) (.seq (.block 1 (.eG [LM 11 3,LO 12 (.call 136 []),LO 13 (.lit [(.bool false),(.slice none 0 0),(.slice none 0 0)] 1 [(0,(LT 12))]),LO 14 (.app 3 56 (LT 11) (LT 13)),LM 3 14])) (.eG [LM 9 4,LO 10 (.bin .add (LT 9) (LI 1)),LM 4 10])))
def CZ:aE:=(LS [LO 2 (.mv (.const (.slice none 0 0)))] (LS [LO 5 (.lit [(.bool false),(.slice none 0 0),(.slice none 0 0)] 0 []),LM 3 5] (.seq (LS [LO 4 (.mv (LI 0))] (.block 0 (.loop uT))) (LS [LM 15 3,LM 2 15] .ret))))
def GX:aT:=⟨16,[(.tmp 2)],CZ⟩
theorem KG:hC 122=some GX:=by kernel_rfl
def sP:aE:=(.seq (LS [LM 43 9,LM 44 0,LO 45 (.chk (LT 44)),LO 46 (LA 1 45),LO 47 (LL 46),LO 48 (.len (LT 47)),LO 49 (.bin .lss (LT 43) (LT 48))] (.cond (LT 49) .skip (.exit 0))) (.seq (.block 1 (LS [LM 53 0,LO 54 (.chk (LT 53)),LO 55 (LA 1 54),LO 56 (LL 55),LM 57 9,LO 58 (.iaddr 1 (LT 56) (LT 57)),LO 59 (LL 58),LO 60 (.call 200 [(LT 59)]),LM 52 60,LO 61 (LX 52 0),LO 62 (LX 52 1),LM 10 61,LM 11 62] (.seq (LS [LM 63 11,LO 64 (.un .not (LT 63))] (.cond (LT 64) (LS [LO 65 (.build [(.slice none 0 0),(.slice none 0 0),(.slice none 0 0)] [(0,1),(1,1),(2,1)] []),LN (.store 3 (LT 2) (LT 65)),LO 3 (.mv LF)] .ret) .skip)) (.eG [LO 66 (LA 1 8),LO 67 (LL 66),LM 68 10,LO 69 (.lit [(.slice none 0 0)] 1 [(0,(LT 68))]),LO 70 (.app 1 24 (LT 67) (LT 69)),LO 71 (LA 1 8),LN (.store 1 (LT 71) (LT 70))])))) (.eG [LM 50 9,LO 51 (.bin .add (LT 50) (LI 1)),LM 9 51])))
def By:aE:=(LS [LO 2 (.new [(.slice none 0 0),(.slice none 0 0),(.slice none 0 0)]),LO 3 (.mv LF)] (LS [LM 13 0,LO 14 (.chk (LT 13)),LO 15 (LA 0 14),LO 16 (LL 15),LO 17 (.call 200 [(LT 16)]),LM 12 17,LO 18 (LX 12 0),LO 19 (LX 12 1),LM 4 18,LM 5 19] (LS [LM 21 0,LO 22 (.chk (LT 21)),LO 23 (LA 2 22),LO 24 (LL 23),LO 25 (.call 200 [(LT 24)]),LM 20 25,LO 26 (LX 20 0),LO 27 (LX 20 1),LM 6 26,LM 7 27] (.seq (LS [LM 28 5,LO 29 (.un .not (LT 28)),LM 30 29,LZ 30 31 (.mv (LT 7)),LZ 30 32 (.un .not (LT 31)),LO 33 (.pick (LT 30) LG (LT 32)),LM 34 33,LZ 34 35 (.mv (LT 4)),LZ 34 36 (.len (LT 35)),LZ 34 37 (.bin .gtr (LT 36) (LI 6)),LO 38 (.pick (LT 34) LG (LT 37))] (.cond (LT 38) (LS [LO 39 (.build [(.slice none 0 0),(.slice none 0 0),(.slice none 0 0)] [(0,1),(1,1),(2,1)] []),LN (.store 3 (LT 2) (LT 39)),LO 3 (.mv LF)] .ret) .skip)) (LS [LM 40 4,LM 41 6,LO 42 (.build [(.slice none 0 0),(.slice none 0 0),(.slice none 0 0)] [(0,1),(1,1),(2,1)] [(0,(LT 40)),(2,(LT 41))]),LO 8 (.new [(.slice none 0 0),(.slice none 0 0),(.slice none 0 0)]),LN (.store 3 (LT 8) (LT 42))] (.seq (LS [LO 9 (.mv (LI 0))] (.block 0 (.loop sP))) (LS [LO 72 (LK 8),LN (.store 3 (LT 2) (LT 72)),LO 3 (.mv LG)] .ret)))))))
def Eo:aT:=⟨73,[(.cell 2 true 3),(.tmp 3)],By⟩
theorem Jt:hC 125=some Eo:=by kernel_rfl
end Go.PM
namespace Go.PM
open Go.Lib
theorem Ds {lo:Nat} {H:aA} (N:Nat) (hN:N≤1000000) (eI:lo≤H.length):iY 122 [VI N] lo H (Su (G0 bU 3 (List.replicate N (0:Rat))) H):=by
 refine iY.walk ⟨true,false⟩ KG (Nat.le_of_ble_eq_true rfl) ?_
 have e0:∀K,jX false [.bool false,.slice none 0 0,.slice none 0 0] 0 [] K=some (.ref K.length 0 0 0 0,K++[.row 0 [] 3 true]):=fun K=>iS rfl
 have e1:=BE
 have eL:∀H,jX false [.bool false,.slice none 0 0,.slice none 0 0] 1 [(0,bU 0)] H=some (.tree [bU 0] (.cl 3),H):=fun H=>fY rfl rfl rfl
 have eS:∀H,cN 3 (.tree [bU 0] (.cl 3)) H=some [bU 0]:=fun H=>eO rfl rfl
 simp only[GX,CZ,e0,gX,VX,Nat.reduceEqDiff,Nat.reduceAdd,Nat.reduceLeDiff,Nat.reduceLT,Nat.reduceSub]
 refine aR (fun(i:Nat) ρ H1=>i≤N∧H <+: H1∧aF H1 H.length i=some ((List.replicate i (0:Rat)).map bU,3,true)∧ρ 0=VI N∧ρ 3 = .ref H.length i 0 i i∧ρ 4=VI i) (fun i=>N-i) 0 ⟨Nat.zero_le _,List.prefix_append _ _,dZ,rfl,rfl,rfl⟩ ?_
 rintro i ρ H1 ⟨hi,hp,mU,g0,g3,g4⟩
 by_cases dD:(i:Int)<(N:Int)
 ·have wi:IntKind.i64.wrap ((i:Int)+1)=((i+1:Nat):Int):=wrapN (i+1) (by omega) (by omega)
  have eP:=Jg (lo:=lo) (bytes:=56) (x:=(0:Rat)) mU (by simp) eI (by decide) (by decide) (by omega)
  simp only[uT,g0,g3,g4,dD,e1,eL,eS,eP,wi,gX,VX,Nat.reduceEqDiff,Nat.reduceAdd,Nat.reduceLeDiff,Nat.reduceLT,Nat.reduceSub]
  exact⟨i+1,by omega,by omega,JF hp (Nat.le_refl _),by rw[List.replicate_succ'];exact dE mU,by (repeat' apply And.intro)<;>first | rfl | trivial | assumption⟩
 ·have oJ:i=N:=by omega
  subst oJ
  simp only[uT,g0,g3,g4,dD,gX,VX,Nat.reduceEqDiff,Nat.reduceAdd,Nat.reduceLeDiff,Nat.reduceLT,Nat.reduceSub]
  exact⟨hp,H.length,i,i,Nat.le_refl _,jA mU,by rw[List.length_replicate],by simp,mU⟩
set_option maxHeartbeats 1000000 in
theorem HQ {lo:Nat} {H:aA} (N:Nat) (hN:N≤1000) (eI:lo≤H.length):iY 123 [VI N] lo H (Su (TabIs bU 3 (List.replicate N (List.replicate N (0:Rat)))) H):=by
 refine iY.walk ⟨true,false⟩ HS (Nat.le_of_ble_eq_true rfl) ?_
 have e0:∀K,jX false [.slice none 0 0] 0 [] K=some (.ref K.length 0 0 0 0,K++[.row 0 [] 1 true]):=fun K=>iS rfl
 have e0':∀K,jX false [.bool false,.slice none 0 0,.slice none 0 0] 0 [] K=some (.ref K.length 0 0 0 0,K++[.row 0 [] 3 true]):=fun K=>iS rfl
 have e1:=BE
 have eL:∀H,jX false [.bool false,.slice none 0 0,.slice none 0 0] 1 [(0,bU 0)] H=some (.tree [bU 0] (.cl 3),H):=fun H=>fY rfl rfl rfl
 have eS:∀H,cN 3 (.tree [bU 0] (.cl 3)) H=some [bU 0]:=fun H=>eO rfl rfl
 simp only[Di,AN,e0,gX,VX,Nat.reduceEqDiff,Nat.reduceAdd,Nat.reduceLeDiff,Nat.reduceLT,Nat.reduceSub]
 refine aR (fun(i:Nat) ρ H1=>i≤N∧H <+: H1∧(∃rs,rs.length=i∧rs.map (·.xs)=List.replicate i (List.replicate N (0:Rat))∧MG bU 3 H.length H1.length H.length i H1 rs)∧ρ 0=VI N∧ρ 3 = .ref H.length i 0 i i∧ρ 4=VI i) (fun i=>N-i) 0
  ⟨Nat.zero_le _,List.prefix_append _ _,⟨[],rfl,rfl,dZ,Nat.le_refl _,by simp,by simp,by simp⟩,rfl,rfl,rfl⟩ ?_
 rintro i ρ H1 ⟨hi,hp,⟨rs,yE,HV,hM⟩,g0,g3,g4⟩
 by_cases dD:(i:Int)<(N:Int)
 ·have wi:IntKind.i64.wrap ((i:Int)+1)=((i+1:Nat):Int):=wrapN (i+1) (by omega) (by omega)
  simp only[rV,g0,g3,g4,dD,e0',gX,VX,Nat.reduceEqDiff,Nat.reduceAdd,Nat.reduceLeDiff,Nat.reduceLT,Nat.reduceSub]
  have Cp:=hp.length_le
  refine aR (fun(k:Nat) ρ H2=>k≤N∧H1 <+: H2∧aF H2 H1.length k=some ((List.replicate k (0:Rat)).map bU,3,true)∧ρ 0=VI N∧ρ 3 = .ref H.length i 0 i i∧ρ 4=VI i∧ρ 5 = .ref H1.length k 0 k k∧ρ 6=VI k) (fun k=>N-k) 0 ⟨Nat.zero_le _,List.prefix_append _ _,dZ,g0,g3,g4,rfl,rfl⟩ ?_
  clear g0 g3 g4
  rintro k ρ H2 ⟨hk,TJ,mU,g0,g3,g4,g5,g6⟩
  by_cases hkn:(k:Int)<(N:Int)
  ·have wk:IntKind.i64.wrap ((k:Int)+1)=((k+1:Nat):Int):=wrapN (k+1) (by omega) (by omega)
   have eP:=Jg (lo:=lo) (bytes:=56) (x:=(0:Rat)) mU (by simp) (by omega) (by decide) (by decide) (by omega)
   simp only[rK,g0,g5,g6,hkn,e1,eL,eS,eP,wk,gX,VX,Nat.reduceEqDiff,Nat.reduceAdd,Nat.reduceLeDiff,Nat.reduceLT,Nat.reduceSub]
   exact⟨k+1,by omega,by omega,JF TJ (Nat.le_refl _),by rw[List.replicate_succ'];exact dE mU,by (repeat' apply And.intro)<;>first | rfl | trivial | assumption⟩
  ·have hke:k=N:=by omega
   subst hke
   have hA:LP bU 3 (List.replicate i (List.replicate k (0:Rat))) H.length H1.length H2 (.ref H.length i 0 i i) := .inr ⟨H.length,i,rs,Nat.le_refl _,hM.bhi,by simp,bL TJ hM.out,HV,(hM.pre TJ).rows⟩
   have EL:=jA mU
   obtain⟨v',H3,ap,VP,bO,hlen,Q7,wS,_⟩:=hA.snoc (jF:=lo) eI (by simp;omega) ⟨H1.length,k,k,List.replicate k 0⟩ (Nat.le_refl _) Cp (by simp) mU
   rw[List.length_replicate] at ap
   have eL2:∀K,jX false [.slice none 0 0] 1 [(0,.ref H1.length k 0 k k)] K=some (.tree [.ref H1.length k 0 k k] (.cl 1),K):=fun K=>fY rfl rfl rfl
   have eS2:∀K,cN 1 (.tree [.ref H1.length k 0 k k] (.cl 1)) K=some [.ref H1.length k 0 k k]:=fun K=>eO rfl rfl
   simp only[rK,g0,g3,g4,g5,g6,hkn,eL2,eS2,ap,wi,gX,VX,Nat.reduceEqDiff,Nat.reduceAdd,Nat.reduceLeDiff,Nat.reduceLT,Nat.reduceSub]
   rw[←List.replicate_succ'] at VP
   rcases VP with⟨_,h⟩ | ⟨b,g,VY,k1,k2,rfl,k3,k4,k5⟩
   ·simp at h
   ·have qW:=Jg (f:=nN) (lo:=lo) (bytes:=24) (x:=⟨H1.length,k,k,List.replicate k (0:Rat)⟩) (bL TJ hM.out) yE.symm eI (by decide) (by decide) (by omega)
    simp only[nN,List.length_replicate] at qW
    rw[qW] at ap
    injection ap with ap
    injection ap with ap1 ap2
    injection ap1 with q1 q2 q3 q4 q5
    subst q1 q2
    refine⟨i+1,by omega,by omega,wS H (Nat.le_refl _) (hp.trans TJ),⟨VY,by have:=congrArg List.length k4;simpa using this,k4,k3,Nat.le_refl _,k2,k5.nd,k5.row⟩,by (repeat' apply And.intro)<;>first | rfl | trivial | assumption | rw[List.length_replicate]⟩
 ·have oJ:i=N:=by omega
  subst oJ
  simp only[rV,g0,g3,g4,dD,gX,VX,Nat.reduceEqDiff,Nat.reduceAdd,Nat.reduceLeDiff,Nat.reduceLT,Nat.reduceSub]
  exact⟨hp,H.length,i,i,rs,by rw[List.length_replicate],by simp,hM,HV⟩
theorem HK (qs:List Rat) (hn:qs.length≤1000000):TC 199 [bH bU qs] (VB (qs.all fun q=>decide (0<q))):=by
 refine TC.walk ⟨true,false⟩ HH rfl (Nat.le_of_ble_eq_true rfl) (Mv (oZ _)) rfl ?_
 simp only[Dm,A2,gX,VX,Nat.reduceEqDiff,Nat.reduceAdd,Nat.reduceLeDiff,Nat.reduceLT,Nat.reduceSub]
 refine aR (fun(i:Nat) ρ H=>i≤qs.length∧(∀q∈qs.take i,0<q)∧H=[]∧ρ 0=bH bU qs∧ρ 3=VI i) (fun i=>qs.length-i) 0 ⟨Nat.zero_le _,by simp,rfl,rfl,rfl⟩ ?_
 rintro i ρ H ⟨hi,ht,rfl,g0,g3⟩
 by_cases dD:(i:Int)<(qs.length:Int)
 ·obtain⟨q,hq⟩:∃q,qs[i]? = some q:=⟨_,List.getElem?_eq_getElem (by omega)⟩
  have a1:=fun H=>aJ (f:=bU) (t := .op) (H:=H) (size:=3) (k := .i64) hq rfl
  have e1:=Jz q
  have e2:=Ku q
  have wi:IntKind.i64.wrap ((i:Int)+1)=((i+1:Nat):Int):=wrapN (i+1) (by omega) (by omega)
  have aaU:¬0<q→(qs.all fun q=>decide (0<q))=false:=fun h=>by
   cases ha:qs.all fun q=>decide (0<q) with
   | false=>rfl
   | true=>exact absurd (of_decide_eq_true (List.all_eq_true.1 ha q (List.mem_of_getElem? hq))) h
  by_cases hz:q=0
  ·rw[decide_eq_true hz] at e1
   rw[aaU (by rw[hz];exact Rat.lt_irrefl)]
   simp only[kE,g0,g3,dD,a1,e1,oF,gX,VX,Nat.reduceEqDiff,Nat.reduceAdd,Nat.reduceLeDiff,Nat.reduceLT,Nat.reduceSub]
   exact aI rfl
  ·rw[decide_eq_false hz] at e1
   by_cases pY:q.num<0
   ·rw[decide_eq_true pY] at e2
    rw[aaU (fun h=>by have:=SN.1 pY;grind)]
    simp only[kE,g0,g3,dD,a1,e1,e2,oF,gX,VX,Nat.reduceEqDiff,Nat.reduceAdd,Nat.reduceLeDiff,Nat.reduceLT,Nat.reduceSub]
    exact aI rfl
   ·rw[decide_eq_false pY] at e2
    simp only[kE,g0,g3,dD,a1,e1,e2,wi,oF,gX,VX,Nat.reduceEqDiff,Nat.reduceAdd,Nat.reduceLeDiff,Nat.reduceLT,Nat.reduceSub]
    refine⟨i+1,by omega,by omega,fun p hp => ?_,by (repeat' apply And.intro)<;>first | rfl | trivial | assumption⟩
    rw[nJ hq] at hp
    rcases List.mem_append.1 hp with h | h
    ·exact ht p h
    ·rw[List.mem_singleton] at h
     subst h
     have:=mt SN.2 pY
     grind
 ·have oJ:i=qs.length:=by omega
  subst oJ
  rw[List.take_length] at ht
  have:(qs.all fun q=>decide (0<q))=true:=List.all_eq_true.2 fun q h=>decide_eq_true (ht q h)
  rw[this]
  simp only[kE,g0,g3,dD,gX,VX,Nat.reduceEqDiff,Nat.reduceAdd,Nat.reduceLeDiff,Nat.reduceLT,Nat.reduceSub]
  exact aI rfl
def HY (o:Option (List Rat)):VV:=match o with
 | some m=>bH bU m
 | none => .tree [] .op
def Ag (o:Option (List Rat)):Bool:=match o with
 | some qs=>decide (1≤qs.length)&&decide (qs.length≤6)&&qs.all fun q=>decide (0<q)
 | none=>false
theorem OC (o:Option (List Rat)):gA (HY o)=true:=by cases o<;>first | rfl | exact FF _
theorem HN (xs:List ByteArray) (hn:xs.length≤1000000000) (hs:∀s∈xs,s.size≤1000000000):TC 121 [fC xs] (.dS [HY (uX xs),VB (Ag (uX xs))]):=by
 refine TC.walk ⟨true,false⟩ Hz rfl (Nat.le_of_ble_eq_true rfl) (Mv (gF _)) (BX (OC _) rfl) ?_
 have e1:=Js xs hn hs
 cases h:uX xs with
 |
  none =>
  rw[h,RC] at e1
  simp only[oB,lG,e1,gX,VX,Nat.reduceEqDiff,Nat.reduceAdd,Nat.reduceLeDiff,Nat.reduceLT,Nat.reduceSub]
  exact aI rfl
 |
  some qs =>
  rw[h,Rk] at e1
  obtain⟨hb,hl,_⟩:=JK h
  have e2:=HK qs (by omega)
  simp only[HY,Ag]
  by_cases h1:(1:Int)≤(qs.length:Int)
  ·by_cases h6:(qs.length:Int)≤6
   ·rw[decide_eq_true (by omega:1≤qs.length),decide_eq_true (by omega:qs.length≤6),Bool.true_and,Bool.true_and]
    simp only[oB,lG,e1,e2,h1,h6,gX,VX,Nat.reduceEqDiff,Nat.reduceAdd,Nat.reduceLeDiff,Nat.reduceLT,Nat.reduceSub]
    exact aI (uC (oZ _) rfl)
   ·rw[decide_eq_true (by omega:1≤qs.length),decide_eq_false (by omega:¬qs.length≤6),Bool.true_and,Bool.false_and]
    simp only[oB,lG,e1,h1,h6,gX,VX,Nat.reduceEqDiff,Nat.reduceAdd,Nat.reduceLeDiff,Nat.reduceLT,Nat.reduceSub]
    exact aI (uC (oZ _) rfl)
  ·rw[decide_eq_false (by omega:¬1≤qs.length),Bool.false_and,Bool.false_and]
   simp only[oB,lG,e1,h1,gX,VX,Nat.reduceEqDiff,Nat.reduceAdd,Nat.reduceLeDiff,Nat.reduceLT,Nat.reduceSub]
   exact aI (uC (oZ _) rfl)
theorem JC:∀ {xs:List ByteArray} {qs:List Rat},xs.mapM pQ=some qs→Gu xs=if (qs.all fun q=>decide (0<q))=true then some qs else none
 |
  [],qs,h=>by
  cases h
  rfl
 |
  x::xs,qs,h=>by
  obtain⟨y,ys,h1,h2,rfl⟩:=iU h
  have ih:=JC h2
  unfold Gu at ih ⊢
  rw[List.mapM_cons,ih]
  unfold F9
  rw[h1]
  by_cases hy:0<y
  ·by_cases hys:(ys.all fun q=>decide (0<q))=true
   ·simp[hy,hys]
   ·simp[hy,hys]
  ·simp[hy]
theorem Df:∀ {xs:List ByteArray},xs.mapM pQ=none→Gu xs=none
 | [],h=>by cases h
 |
  x::xs,h=>by
  unfold Gu
  rw[List.mapM_cons] at h ⊢
  unfold F9
  cases h1:pQ x with
  | none=>rfl
  |
   some y =>
   rw[h1] at h
   have h2:xs.mapM pQ=none:=by
    cases hx:xs.mapM pQ with
    | none=>rfl
    | some ys=>rw[hx] at h;cases h
   have ih:=Df h2
   unfold Gu F9 at ih
   rw[ih]
   by_cases hy:0<y
   ·simp[hy]
   ·simp[hy]
theorem XQ (xs:List ByteArray):(Ag (uX xs)=true→∃qs,uX xs=some qs∧Gu xs=some qs∧1≤qs.length∧qs.length≤6)∧(Ag (uX xs)=false→∀qs,Gu xs=some qs→¬(1≤qs.length∧qs.length≤6)):=by
 constructor
 ·intro h
  unfold Ag at h
  split at h
  ·rename_i qs hq
   simp only[Bool.and_eq_true,decide_eq_true_eq] at h
   refine⟨qs,hq,?_,h.1.1,h.1.2⟩
   unfold uX at hq
   split at hq
   ·rw[JC hq,if_pos h.2]
   ·cases hq
  ·cases h
 ·intro h qs hqs hc
  have hl:=(F2 hqs).1
  unfold Ag uX at h
  rw[if_pos (by omega)] at h
  cases hp:xs.mapM pQ with
  |
   none =>
   rw[Df hp] at hqs
   cases hqs
  |
   some ps =>
   rw[hp] at h
   rw[JC hp] at hqs
   split at hqs
   ·rename_i ha
    cases hqs
    simp[ha,hc.1,hc.2] at h
   ·cases hqs
def NN (s:CE) (lo hi:Nat) (H:aA) (v:VV):Prop:=(∃a b c,v = .agg [a,b,c]∧aZ a=true∧aZ b=true∧aZ c=true∧∀n,n≤lo→dB n a=true∧dB n b=true∧dB n c=true)∧E5 (N4 s) lo hi H v
theorem NN.bO {s:CE}:∀ {lo hi H H' v},NN s lo hi H v→cJ lo hi H H'→NN s lo hi H' v:=fun h hk=>⟨h.1,h.2.bO hk⟩
theorem NN.wide {s:CE}:∀ {lo hi jF nO:Nat} {H:aA} {v:VV},NN s lo hi H v→jF≤lo→hi≤nO→NN s jF nO H v:=fun h hl hh=>by
 obtain⟨⟨a,b,c,h1,h2,h3,h4,h5⟩,h6⟩:=h
 exact⟨⟨a,b,c,h1,h2,h3,h4,fun n hn=>h5 n (by omega)⟩,fun H' hk=>h6 H' (hk.sub hl hh)⟩
theorem NN.ag {s:CE} {lo hi:Nat} {H:aA} {v:VV} (h:NN s lo hi H v) (n:Nat) (hn:n≤lo):∃a b c,v = .agg [a,b,c]∧aZ a=true∧aZ b=true∧aZ c=true∧dB n a=true∧dB n b=true∧dB n c=true:=by
 obtain⟨⟨a,b,c,h1,h2,h3,h4,h5⟩,_⟩:=h
 exact⟨a,b,c,h1,h2,h3,h4,h5 n hn⟩
theorem Ob {lo hi:Nat} {H:aA}:NN sF lo hi H (.agg [.tree [] .nil,.tree [] .nil,.tree [] .nil]) :=
 ⟨⟨_,_,_,rfl,rfl,rfl,rfl,fun _ _=>⟨rfl,rfl,rfl⟩⟩,fun H' _=>RQ (s:=sF) (l1:=0) (h1:=0) (l2:=0) (h2:=0) (l3:=0) (h3:=0) (.inl ⟨rfl,rfl⟩) (.inl ⟨rfl,rfl⟩) (.inl ⟨rfl,rfl⟩)⟩
end Go.PM
namespace Go.PM
open Go.Lib
theorem CA {qs:List Rat} {x:List ByteArray} (h:oA qs=some x):x.length=qs.length:=by
 unfold oA at h
 split at h
 ·cases h
  rw[List.length_map]
 ·cases h
theorem Kl.own {α:Type} {f:α→VV} {e lo hi n:Nat} {H:aA} {v:VV} {o:Option (List α)} (h:Kl f e o lo hi H v) (hn:n≤lo):dB n v=true:=by
 cases o with
 |
  none =>
  have h:v = .tree [] .nil:=h
  subst h
  rfl
 |
  some ys =>
  obtain⟨b,g,c,h1,h2,rfl,h3⟩:=h
  simp[dB];omega
theorem LP.own {α:Type} {f:α→VV} {e lo hi n:Nat} {H:aA} {v:VV} {aY:List (List α)} (h:LP f e aY lo hi H v) (hn:n≤lo):dB n v=true:=by
 rcases h with⟨rfl,_⟩ | ⟨b,g,rs,q1,q2,rfl,_⟩
 ·rfl
 ·simp[dB];omega
set_option maxHeartbeats 4000000 in
theorem Im (b:List Rat) (g:List (List Rat)) (e:List Rat) (hb:b.length≤1000000∧∀q∈b,fS q≤1099511627776) (hg:g.length≤1000000∧∀r∈g,r.length≤1000000∧∀q∈r,fS q≤1099511627776) (he:e.length≤1000000∧∀q∈e,fS q≤1099511627776) :
  FC 125 [(Nr bU b g e).dA 0] (QA (NN ((iD b g e).getD sF)) (iD b g e).isSome):=by
 refine FC.IF ⟨true,false⟩ Jt (Nat.le_of_ble_eq_true rfl) fun n => ?_
 simp only[Eo,By,Nr,gP,List.getElem?_cons_zero,List.getElem?_cons_succ,C5,List.length_replicate,Nat.zero_add,gX,VX,Nat.reduceEqDiff,Nat.reduceAdd,Nat.reduceLeDiff,Nat.reduceLT,Nat.reduceSub]
 generalize QB:List.replicate n bM.dead++[bM.row 0 [.agg [.tree [] .nil,.tree [] .nil,.tree [] .nil]] 3 true]=H0
 have hO0:wT n H0:=⟨[.row 0 [.agg [.tree [] .nil,.tree [] .nil,.tree [] .nil]] 3 true],QB.symm,rfl⟩
 have Bx:aF H0 n 0=some ([.agg [.tree [] .nil,.tree [] .nil,.tree [] .nil]],3,true):=by rw[←QB,tU,aV]
 have wR:H0.length=n+1:=by rw[←QB];simp
 refine rA (n:=n) (pZ b hb.1 hb.2) rfl (Pj (aI (oZ _))) hO0 Kl.bO fun u H1 p1 hO1 hou hu => ?_
 simp only[gP,List.getElem?_cons_zero,List.getElem?_cons_succ,Nat.zero_add,gX,VX,Nat.reduceEqDiff,Nat.reduceAdd,Nat.reduceLeDiff,Nat.reduceLT,Nat.reduceSub]
 refine rA (n:=n) (pZ e he.1 he.2) rfl (Pj (aI (oZ _))) hO1 Kl.bO fun z H2 p2 hO2 hoz hz => ?_
 have N3:=bL (p1.trans p2) Bx
 have aqV:=p1.length_le
 have asZ:=p2.length_le
 have fin:∀(K:aA) (a1 a2 a3:VV),aF K n 0=some ([.agg [.tree [] .nil,.tree [] .nil,.tree [] .nil]],3,true)→aZ a1=true→aZ a2=true→aZ a3=true →
   bX n 3 (.ptr n 0 0 0) (.agg [a1,a2,a3]) K=some (K.set n (.row 0 [.agg [a1,a2,a3]] 3 true))∧cQ true 3 (.ptr n 0 0 0) (K.set n (.row 0 [.agg [a1,a2,a3]] 3 true))=some (.agg [a1,a2,a3]):=fun K a1 a2 a3 h h1 h2 h3=>by
  constructor
  ·rw[dG h (by exact Nat.zero_lt_one) (Nat.le_refl _) rfl (by simp[aB,h1,h2,h3])]
   rfl
  ·rw[cG,dE h]
   rfl
 have bad:iD b g e=none→∀K:aA,n≤K.length→∃L,AO (K.set n (.row 0 [.agg [.tree [] .nil,.tree [] .nil,.tree [] .nil]] 3 true)) (List.replicate n .dead++L)∧dB n (.dS [.agg [.tree [] .nil,.tree [] .nil,.tree [] .nil],.sc (.bool false)])=true∧dH n L=true∧QA (NN ((iD b g e).getD sF)) (iD b g e).isSome n (.dS [.agg [.tree [] .nil,.tree [] .nil,.tree [] .nil],.sc (.bool false)]) L:=fun L5 K hK=>by
  rw[L5]
  exact⟨_,wA (by rw[List.length_set];omega),rfl,uJ,_,rfl,Ob⟩
 obtain⟨f1,f2⟩:=fin H2 (.tree [] .nil) (.tree [] .nil) (.tree [] .nil) N3 rfl rfl rfl
 cases oC:oA b with
 |
  none =>
  have bad:=bad (by unfold iD;rw[oC]) H2 (by omega)
  cases oA e <;>
  ·simp only[gP,List.getElem?_cons_zero,List.getElem?_cons_succ,f1,f2,Option.isSome_none,Option.isSome_some,gX,VX,Nat.reduceEqDiff,Nat.reduceAdd,Nat.reduceLeDiff,Nat.reduceLT,Nat.reduceSub]
   exact bad
 |
  some x =>
  rw[oC] at hu
  cases YH:oA e with
  |
   none =>
   have bad:=bad (by unfold iD;rw[oC,YH];cases vG g<;>rfl) H2 (by omega)
   simp only[gP,List.getElem?_cons_zero,List.getElem?_cons_succ,f1,f2,Option.isSome_none,Option.isSome_some,gX,VX,Nat.reduceEqDiff,Nat.reduceAdd,Nat.reduceLeDiff,Nat.reduceLT,Nat.reduceSub]
   exact bad
  |
   some z' =>
   rw[YH] at hz
   have hxl:=CA oC
   obtain⟨bu,gu,cu,u1,u2,rfl,u4,u5⟩:=hu
   obtain⟨bz,gz,cz,z1,z2,rfl,z4,z5⟩:=hz
   have lu:=dR (o:=0) (n:=x.length) (c:=cu) (bL p2 u5)
   by_cases h6:(6:Int)<(x.length:Int)
   ·have bad:=bad (by unfold iD;rw[oC,YH];cases vG g<;>first | rfl | exact if_neg (by omega)) H2 (by omega)
    simp only[gP,List.getElem?_cons_zero,List.getElem?_cons_succ,f1,f2,h6,lu,Option.isSome_none,Option.isSome_some,gX,VX,Nat.reduceEqDiff,Nat.reduceAdd,Nat.reduceLeDiff,Nat.reduceLT,Nat.reduceSub]
    exact bad
   ·have CO:iD b g e=match vG g with | some y=>some ⟨x,y,z'⟩ | none=>none:=by unfold iD;rw[oC,YH];cases vG g<;>first | rfl | exact if_pos (by omega)
    have s1:bX n 3 (.ptr H2.length 0 0 0) (.agg [.ref bu gu 0 x.length cu,.tree [] .nil,.ref bz gz 0 z'.length cz]) (H2++[bM.row 0 [.agg [.tree [] .nil,.tree [] .nil,.tree [] .nil]] 3 true])=some (H2++[bM.row 0 [.agg [.ref bu gu 0 x.length cu,.tree [] .nil,.ref bz gz 0 z'.length cz]] 3 true]):=by
     rw[dG (e:=3) (g:=0) (j:=0) dZ (by exact Nat.zero_lt_one) hO2.len rfl rfl,zU]
     rfl
    clear f1 f2
    simp only[gP,List.getElem?_cons_zero,List.getElem?_cons_succ,h6,lu,s1,Option.isSome_some,vA,gX,VX,Nat.reduceEqDiff,Nat.reduceAdd,Nat.reduceLeDiff,Nat.reduceLT,Nat.reduceSub]
    refine aR (fun(i:Nat) ρ H=>i≤g.length∧wT n H∧(∃v aY,aF H n 0=some ([.agg [.tree [] .nil,.tree [] .nil,.tree [] .nil]],3,true)∧aF H H2.length 0=some ([.agg [.ref bu gu 0 x.length cu,v,.ref bz gz 0 z'.length cz]],3,true)∧vG (g.take i)=some aY∧LP sV 1 aY (H2.length+1) H.length H v∧aF H bu gu=some (x.map sV,1,true)∧aF H bz gz=some (z'.map sV,1,true))∧ρ 2 = .ptr n 0 0 0∧ρ 8 = .ptr H2.length 0 0 0∧ρ 0=(Nr bU b g e).dA 0∧ρ 9=VI i) (fun i=>g.length-i) 0
     ⟨Nat.zero_le _,hO2.app (by simp[kU,dB];omega),⟨.tree [] .nil,[],fZ N3,dZ,rfl,.inl ⟨rfl,rfl⟩,fZ (bL p2 u5),fZ z5⟩,rfl,rfl,rfl,rfl⟩ ?_
    rintro i ρ H ⟨hi,hO,⟨v,aY,Bx,hr8,EJ,hv,hx,hz⟩,g2,g8,g0,g9⟩
    have hl8:=jA hr8
    by_cases dD:(i:Int)<(g.length:Int)
    ·obtain⟨r,hr⟩:∃r,g[i]? = some r:=⟨_,List.getElem?_eq_getElem (by omega)⟩
     have Tn:=hg.2 r (List.mem_of_getElem? hr)
     have a1:=fun H=>aJ (f:=bH bU) (t := .op) (H:=H) (size:=1) (k := .i64) hr rfl
     have wi:IntKind.i64.wrap ((i:Int)+1)=((i+1:Nat):Int):=wrapN (i+1) (by omega) (by omega)
     simp only[sP,Nr,g2,g8,g0,g9,dD,a1,gP,List.getElem?_cons_zero,List.getElem?_cons_succ,Nat.zero_add,gX,VX,Nat.reduceEqDiff,Nat.reduceAdd,Nat.reduceLeDiff,Nat.reduceLT,Nat.reduceSub]
     refine rA (n:=n) (pZ r Tn.1 Tn.2) rfl (Pj (aI (oZ _))) hO Kl.bO fun w H3 p3 hO3 _ hw => ?_
     have arJ:=p3.length_le
     cases ht:oA r with
     |
      none =>
      have hm:vG g=none:=mapM_none ht (List.mem_of_getElem? hr)
      have bad:=bad (by rw[CO,hm]) H3 hO3.len
      obtain⟨f1,f2⟩:=fin H3 (.tree [] .nil) (.tree [] .nil) (.tree [] .nil) (bL p3 Bx) rfl rfl rfl
      simp only[g2,f1,f2,Option.isSome_none,gX,VX,Nat.reduceEqDiff,Nat.reduceAdd,Nat.reduceLeDiff,Nat.reduceLT,Nat.reduceSub]
      exact bad
     |
      some ys =>
      rw[ht] at hw
      obtain⟨b2,g2',c2,k1,k2,rfl,k3,k4⟩:=hw
      have eL:∀K,jX false [.slice none 0 0] 1 [(0,.ref b2 g2' 0 ys.length c2)] K=some (.tree [.ref b2 g2' 0 ys.length c2] (.cl 1),K):=fun K=>fY rfl rfl rfl
      have eS:∀K,cN 1 (.tree [.ref b2 g2' 0 ys.length c2] (.cl 1)) K=some [.ref b2 g2' 0 ys.length c2]:=fun K=>eO rfl rfl
      obtain⟨v',H4,ap,VP,bO,hlen,Q7,wS,_⟩:=(hv.bO (cJ.pre p3)).snoc (jF:=n) (by omega) (by rw[mM EJ,List.length_take];omega) ⟨b2,g2',c2,ys⟩ k1 (by simp only;omega) k3 k4
      have ahN:=bL p3 hr8
      have ahQ:=bO _ _ _ (by omega) ahN
      have l1:cQ false 1 (.ptr H2.length 0 0 1) H3=some v:=by
       rw[cG,ahN]
       rfl
      have sT:=VP.fD
      have s2:bX n 1 (.ptr H2.length 0 0 1) v' H4=some (H4.set H2.length (.row 0 [.agg [.ref bu gu 0 x.length cu,v',.ref bz gz 0 z'.length cz]] 3 true)):=by
       have:=Yl (lo:=n) (c:=v') 1 ahQ (by omega) sT.2.1 sT.1 (by decide)
       exact this
      have hO5:=(Q7 n (by omega) hO3).set (b:=H2.length) (g:=0) (e:=3) (es:=[.agg [.ref bu gu 0 x.length cu,v',.ref bz gz 0 z'.length cz]]) (w:=true) (by omega) (by
       have:=VP.own (n:=n) (by omega)
       simp[kU,dB,this];omega)
      have kp:∀ {b' g' y},b'<H2.length→aF H b' g'=some y→aF (H4.set H2.length (.row 0 [.agg [.ref bu gu 0 x.length cu,v',.ref bz gz 0 z'.length cz]] 3 true)) b' g'=some y:=fun oC h=>aL (by omega) (bO _ _ _ (by omega) (bL p3 h))
      simp only[g8,eL,eS,l1,ap,s2,ahN,ahQ,jN,Nat.zero_add,wi,g9,Option.isSome_some,gX,VX,Nat.reduceEqDiff,Nat.reduceAdd,Nat.reduceLeDiff,Nat.reduceLT,Nat.reduceSub]
      refine⟨i+1,by omega,by omega,hO5,⟨v',aY++[ys],kp (by omega) Bx,dE ahQ,?_,?_,kp (by omega) hx,kp (by omega) hz⟩,by (repeat' apply And.intro)<;>first | rfl | trivial | assumption⟩
      ·rw[nJ hr]
       exact CH EJ ht
      ·rw[List.length_set]
       exact VP.bO (cJ.set (by omega))
    ·have oJ:i=g.length:=by omega
     subst oJ
     rw[List.take_length] at EJ
     have afR:vG g=some aY:=EJ
     rw[CO,afR]
     have sT:=hv.fD
     have l1:cQ true 3 (.ptr H2.length 0 0 0) H=some (.agg [.ref bu gu 0 x.length cu,v,.ref bz gz 0 z'.length cz]):=by
      rw[cG,hr8]
      rfl
     obtain⟨f1,f2⟩:=fin H (.ref bu gu 0 x.length cu) v (.ref bz gz 0 z'.length cz) Bx rfl sT.1 rfl
     simp only[sP,Nr,g0,g2,g8,g9,dD,l1,f1,f2,gP,List.getElem?_cons_zero,List.getElem?_cons_succ,Nat.zero_add,Option.isSome_some,gX,VX,Nat.reduceEqDiff,Nat.reduceAdd,Nat.reduceLeDiff,Nat.reduceLT,Nat.reduceSub]
     have hov:=hv.own (n:=n) (by omega)
     obtain⟨L,Xd,hL2⟩:=hO.set (b:=n) (g:=0) (e:=3) (es:=[.agg [.ref bu gu 0 x.length cu,v,.ref bz gz 0 z'.length cz]]) (w:=true) (Nat.le_refl _) (by simp[kU,dB,hov];omega)
     have hlen:n+L.length=H.length:=by
      have:=congrArg List.length Xd
      rw[List.length_set,List.length_append,List.length_replicate] at this
      exact this.symm
     refine⟨L,⟨by rw[Xd],fun _ _ _ _ _ h=>by rw[Xd];exact h⟩,by simp[dB,kU,hov,jW];omega,hL2,_,rfl,⟨_,_,_,rfl,rfl,sT.1,rfl,fun k hk=>⟨by simp[dB];omega,hv.own (by omega),by simp[dB];omega⟩⟩,fun K hk => ?_⟩
     rw[←Xd,hlen] at hk
     have V4:cJ (n+1) H.length H K:=fun b' g' y h1 h2 h3=>hk b' g' y (by omega) h2 (aL (by omega) h3)
     exact RQ (s:=⟨x,aY,z'⟩) (l1:=n+1) (h1:=H.length) (l2:=H2.length+1) (h2:=H.length) (l3:=n+1) (h3:=H.length) (.inr ⟨bu,gu,cu,by omega,by omega,rfl,u4,V4 _ _ _ (by omega) (by omega) hx⟩) ((hv.rg).bO (V4.sub (by omega) (Nat.le_refl _))) (.inr ⟨bz,gz,cz,by omega,by omega,rfl,z4,V4 _ _ _ (by omega) (by omega) hz⟩)
end Go.PM
namespace Go.PM
open Go.Lib
theorem Y0 {H:aA} {b1 g1 c1 b2 g2 c2 b3 g3 c3 lo hi:Nat} {xs zs:List Rat} {rs:List (wU Rat)} {w1 w3:Bool} (h1:aF H b1 g1=some (xs.map bU,3,w1)) (Uu:xs.length≤c1) (h2:MG bU 3 lo hi b2 g2 H rs) (Qv:rs.length≤c2) (h3:aF H b3 g3=some (zs.map bU,3,w3)) (Zx:zs.length≤c3) :
  PM.fz 7 H (.agg [.ref b1 g1 0 xs.length c1,.ref b2 g2 0 rs.length c2,.ref b3 g3 0 zs.length c3])=some (Nr bU xs (rs.map (·.xs)) zs):=by
 refine Ii (d:=5) ?_
 rw[List.mapM_cons,Cx (d:=4) rI h1 Uu]
 rw[List.mapM_cons,h2.fz (d:=3) Qv rI]
 rw[List.mapM_cons,Cx (d:=4) rI h3 Zx]
 rfl
set_option maxHeartbeats 4000000 in
theorem EW (xs:List ByteArray) (hn:xs.length≤1000000000) (hs:∀s∈xs,s.size≤1000000000):FC 48 [fC xs] (QA (NN ((pL xs).getD sF)) (pL xs).isSome):=by
 refine FC.IF ⟨true,false⟩ EY (Nat.le_of_ble_eq_true rfl) fun n => ?_
 have e1:=HN xs hn hs
 obtain⟨aeS,L5⟩:=XQ xs
 cases AI:Ag (uX xs) with
 |
  false =>
  rw[AI] at e1
  have CO:pL xs=none:=by
   unfold pL
   cases h:Gu xs with
   | none=>rfl
   | some qs=>exact if_neg (L5 AI qs h)
  have f1:bX n 3 (.ptr n 0 0 0) (.agg [.tree [] .nil,.tree [] .nil,.tree [] .nil]) (List.replicate n bM.dead++[Sr])=some (List.replicate n bM.dead++[Sr]):=by
   rw[dG Md (by exact Nat.zero_lt_one) (Nat.le_refl _) rfl rfl,Cd]
   rfl
  have f2:cQ true 3 (.ptr n 0 0 0) (List.replicate n bM.dead++[Sr])=some (.agg [.tree [] .nil,.tree [] .nil,.tree [] .nil]):=by
   rw[cG,Md]
   rfl
  rw[CO]
  simp only[sY,qG,e1,f1,f2,C5,List.length_replicate,gX,VX,Nat.reduceEqDiff,Nat.reduceAdd,Nat.reduceLeDiff,Nat.reduceLT,Nat.reduceSub]
  exact⟨_,wA (by simp),rfl,uJ,_,rfl,Ob⟩
 |
  true =>
  rw[AI] at e1
  obtain⟨qs,Qw,jB,Cp,hl6⟩:=aeS AI
  rw[Qw] at e1
  simp only[HY] at e1
  obtain⟨_,hq⟩:=F2 jB
  have CO:pL xs=iD (Jo qs.length) (IE qs (qs.length-1)) (HO qs):=by unfold pL;rw[jB];exact if_pos ⟨Cp,hl6⟩
  rw[CO]
  simp only[sY,qG,e1,C5,List.length_replicate,gX,VX,Nat.reduceEqDiff,Nat.reduceAdd,Nat.reduceLeDiff,Nat.reduceLT,Nat.reduceSub]
  generalize QB:List.replicate n bM.dead++[bM.row 0 [.agg [.tree [] .nil,.tree [] .nil,.tree [] .nil]] 3 true]=H0
  have amY:aF H0 n 0=some ([.agg [.tree [] .nil,.tree [] .nil,.tree [] .nil]],3,true):=by rw[←QB,tU,aV]
  have wR:H0.length=n+1:=by rw[←QB];simp
  refine Ak rfl (Ds (H:=H0) qs.length (by omega) (by omega)) fun r1 L1 hB => ?_
  obtain⟨bB,gB,cB,B1,B2,rfl,B3,B4⟩:=hB
  have amW:=fZ (L:=L1) amY
  have azB:n+1≤(H0++L1).length:=by rw[List.length_append];omega
  generalize H0++L1=H1 at *
  simp only[gX,VX,Nat.reduceEqDiff,Nat.reduceAdd,Nat.reduceLeDiff,Nat.reduceLT,Nat.reduceSub]
  refine Ak rfl (HQ (H:=H1) qs.length (by omega) (by omega)) fun r2 L2 hZ => ?_
  obtain⟨b,g,c,rs,rfl,hc,hM,HV⟩:=hZ
  rw[List.length_replicate] at hc ⊢
  have yE:rs.length=qs.length:=by have:=congrArg List.length HV;simpa using this
  have N3:=fZ (L:=L2) amW
  have B5:=fZ (L:=L2) B4
  have EL:H1.length≤(H1++L2).length:=by rw[List.length_append];omega
  generalize H1++L2=H2 at *
  simp only[gX,VX,Nat.reduceEqDiff,Nat.reduceAdd,Nat.reduceLeDiff,Nat.reduceLT,Nat.reduceSub]
  refine Ak rfl (Ds (H:=H2) qs.length (by omega) (by omega)) fun r3 L3 hE => ?_
  obtain⟨bE,gE,cE,E1,E2,rfl,E3,E4⟩:=hE
  rw[List.length_replicate] at B3 E3 ⊢
  have hM3:=hM.pre (H':=H2++L3) (List.prefix_append _ _)
  have Qm:=fZ (L:=L3) N3
  have B6:=fZ (L:=L3) B5
  have hl3:H2.length≤(H2++L3).length:=by rw[List.length_append];omega
  have hlM:=hM.bhi
  generalize H2++L3=H3 at *
  have s1:bX n 3 (.ptr H3.length 0 0 0) (.agg [.ref bB gB 0 qs.length cB,.ref b g 0 qs.length c,.ref bE gE 0 qs.length cE]) (H3++[bM.row 0 [.agg [.tree [] .nil,.tree [] .nil,.tree [] .nil]] 3 true])=some (H3++[bM.row 0 [.agg [.ref bB gB 0 qs.length cB,.ref b g 0 qs.length c,.ref bE gE 0 qs.length cE]] 3 true]):=by
   rw[dG (e:=3) (g:=0) (j:=0) dZ (by exact Nat.zero_lt_one) (by omega) rfl rfl,zU]
   rfl
  have hp4:=List.prefix_append H3 [.row 0 [.agg [.ref bB gB 0 qs.length cB,.ref b g 0 qs.length c,.ref bE gE 0 qs.length cE]] 3 true]
  have hM4:=hM3.pre hp4
  have KJ:=bL hp4 B6
  have YI:=bL hp4 Qm
  have Xw:=bL hp4 E4
  have Ki:aF (H3++[bM.row 0 [.agg [.ref bB gB 0 qs.length cB,.ref b g 0 qs.length c,.ref bE gE 0 qs.length cE]] 3 true]) H3.length 0=some ([.agg [.ref bB gB 0 qs.length cB,.ref b g 0 qs.length c,.ref bE gE 0 qs.length cE]],3,true):=dZ
  simp only[List.length_replicate,s1,gX,VX,Nat.reduceEqDiff,Nat.reduceAdd,Nat.reduceLeDiff,Nat.reduceLT,Nat.reduceSub]
  generalize H3++[.row 0 [.agg [.ref bB gB 0 qs.length cB,.ref b g 0 qs.length c,.ref bE gE 0 qs.length cE]] 3 true]=H4 at *
  obtain⟨m,hm⟩:∃m,qs.length=m+1:=⟨qs.length-1,by omega⟩
  have w1:IntKind.i64.wrap ((qs.length:Int)-1)=((m:Nat):Int):=wrapN m (by omega) (by omega)
  obtain⟨ql,hql⟩:∃q,qs[m]? = some q:=⟨_,List.getElem?_eq_getElem (by omega)⟩
  have a1:=fun H=>aJ (f:=bU) (t := .op) (H:=H) (size:=3) (k := .i64) hql rfl
  have e2:=KD
  have d70:cQ false 1 (.ptr H3.length 0 0 0) H4=some (.ref bB gB 0 qs.length cB):=by
   rw[cG,Ki]
   rfl
  have a2:bJ 3 (.ref bB gB 0 qs.length cB) (VI 0) H4=some (.ptr bB gB 0 0):=by
   have:=aP (o:=0) (n:=qs.length) (c:=cB) (i:=0) (k := .i64) KJ (by omega)
   simpa using this
  have s2:=dF (lo:=n) (f:=bU) (x:=1) (j:=0) KJ (by simp;omega) (by omega) rfl rfl
  have MR:=aL (x := .row gB (((List.replicate qs.length (0:Rat)).set 0 1).map bU) 3 true) (b':=bB) (by omega) Xw
  have QH:=aL (x := .row gB (((List.replicate qs.length (0:Rat)).set 0 1).map bU) 3 true) (b':=bB) (by omega) Ki
  have d72:cQ false 1 (.ptr H3.length 0 0 2) (H4.set bB (.row gB (((List.replicate qs.length (0:Rat)).set 0 1).map bU) 3 true))=some (.ref bE gE 0 qs.length cE):=by
   rw[cG,QH]
   rfl
  have a3:bJ 3 (.ref bE gE 0 qs.length cE) (VI m) (H4.set bB (.row gB (((List.replicate qs.length (0:Rat)).set 0 1).map bU) 3 true))=some (.ptr bE gE m 0):=by
   have:=aP (o:=0) (n:=qs.length) (c:=cE) (i:=m) (k := .i64) MR (by omega)
   rwa [Nat.zero_add] at this
  have s3:=dF (lo:=n) (f:=bU) (x:=ql) (j:=m) MR (by simp;omega) (by omega) rfl rfl
  have agR:=jA Ki
  simp only[w1,a1,a2,a3,e2,s2,s3,d70,d72,Ki,QH,oF,jN,Nat.zero_add,gX,VX,Nat.reduceEqDiff,Nat.reduceAdd,Nat.reduceLeDiff,Nat.reduceLT,Nat.reduceSub]
  have hM5:=(hM4.bO (cJ.set (x := .row gB (((List.replicate qs.length (0:Rat)).set 0 1).map bU) 3 true) (b:=bB) (.inl (by omega)))).bO (cJ.set (x := .row gE (((List.replicate qs.length (0:Rat)).set m ql).map bU) 3 true) (b:=bE) (.inr (by omega)))
  have Xk:=aL (x := .row gE (((List.replicate qs.length (0:Rat)).set m ql).map bU) 3 true) (b':=bE) (by omega) (dE (g:=gB) (e:=3) (w:=true) (es:=((List.replicate qs.length (0:Rat)).set 0 1).map bU) KJ)
  have XG:=dE (g:=gE) (e:=3) (w:=true) (es:=((List.replicate qs.length (0:Rat)).set m ql).map bU) MR
  have aiY:=aL (x := .row gE (((List.replicate qs.length (0:Rat)).set m ql).map bU) 3 true) (b':=bE) (by omega) QH
  have R1:=aL (x := .row gE (((List.replicate qs.length (0:Rat)).set m ql).map bU) 3 true) (b':=bE) (by omega) (aL (x := .row gB (((List.replicate qs.length (0:Rat)).set 0 1).map bU) 3 true) (b':=bB) (by omega) YI)
  generalize (H4.set bB (.row gB (((List.replicate qs.length (0:Rat)).set 0 1).map bU) 3 true)).set bE (.row gE (((List.replicate qs.length (0:Rat)).set m ql).map bU) 3 true)=H5 at *
  have aeX:IE qs 0=List.replicate qs.length (List.replicate qs.length 0):=by
   rw[Ly,IE]
   exact Gv fun a b _ _=>if_neg (fun h=>by omega)
  refine aR (fun(i:Nat) ρ H=>i≤m∧n≤H.length∧(∃rs,rs.length=qs.length∧rs.map (·.xs)=IE qs i∧MG bU 3 H1.length H2.length b g H rs)∧aF H n 0=some ([.agg [.tree [] .nil,.tree [] .nil,.tree [] .nil]],3,true)∧aF H bB gB=some (((List.replicate qs.length (0:Rat)).set 0 1).map bU,3,true)∧aF H bE gE=some (((List.replicate qs.length (0:Rat)).set m ql).map bU,3,true) ∧
    aF H H3.length 0=some ([.agg [.ref bB gB 0 qs.length cB,.ref b g 0 qs.length c,.ref bE gE 0 qs.length cE]],3,true)∧ρ 2 = .ptr n 0 0 0∧ρ 4=bH bU qs∧ρ 6=VI qs.length∧ρ 7 = .ptr H3.length 0 0 0∧ρ 8=VI i) (fun i=>m-i) 0
   ⟨Nat.zero_le _,by have:=jA R1;omega,⟨rs,yE,by rw[HV,aeX],hM5⟩,R1,Xk,XG,aiY,rfl,rfl,rfl,rfl,rfl⟩ ?_
  clear hM hM3 hM4 hM5 KJ Xk Xw MR XG amY amW N3 Qm YI R1 Ki QH aiY s1 s2 s3 a2 a3 d70 d72 HV rs yE agR B4 B5 B6 E4
  rintro i ρ H ⟨hi,V8,⟨rs,yE,HV,hM⟩,Bx,hrB,hrE,Ki,g2,g4,g6,g7,g8⟩
  have d71:cQ false 1 (.ptr H3.length 0 0 1) H=some (.ref b g 0 qs.length c):=by
   rw[cG,Ki]
   rfl
  have wi:IntKind.i64.wrap ((i:Int)+1)=((i+1:Nat):Int):=wrapN (i+1) (by omega) (by omega)
  by_cases dD:((i+1:Nat):Int)<(qs.length:Int)
  ·obtain⟨q,Oh⟩:∃q,qs[i]? = some q:=⟨_,List.getElem?_eq_getElem (by omega)⟩
   have a4:=fun H=>aJ (f:=bU) (t := .op) (H:=H) (size:=3) (k := .i64) Oh rfl
   obtain⟨r,Ei⟩:∃r,rs[i]? = some r:=⟨_,List.getElem?_eq_getElem (by omega)⟩
   have Dy:r.xs=vec qs.length fun b=>if i<i∧b=i+1 then qs.getD i 0 else 0:=by
    have h1:(rs.map (·.xs))[i]? = some r.xs:=by rw[List.getElem?_map,Ei];rfl
    rw[HV,IE,TT (by omega)] at h1
    exact(Option.some.inj h1).symm
   have hxl:r.xs.length=qs.length:=by rw[Dy,Af]
   have m1:=hM.addr (n:=qs.length) (c:=c) (i:=i) (by omega)
   have m2:=hM.cell Ei
   have m3:=hM.at (n:=r.xs.length) (c:=r.c) (j:=i+1) Ei (by omega)
   have m4:=hM.put (j:=i+1) (y:=q) (jF:=n) Ei (by omega) (by omega) rfl rfl
   have m5:=hM.set (ys:=r.xs.set (i+1) q) Ei (by simp)
   have X8:=hM.lt Ei
   simp only[oY,g4,g6,g7,g8,dD,a4,d71,m1,m2,m3,m4,wi,Ki,oF,jN,Nat.zero_add,gX,VX,Nat.reduceEqDiff,Nat.reduceAdd,Nat.reduceLeDiff,Nat.reduceLT,Nat.reduceSub]
   refine⟨i+1,by omega,by omega,by rw[List.length_set];exact V8,⟨_,by rw[List.length_set];exact yE,?_,m5⟩,aL (by omega) Bx,aL (by omega) hrB,aL (by omega) hrE,aL (by omega) Ki,by (repeat' apply And.intro)<;>first | rfl | trivial | assumption⟩
   rw[List.map_set,HV]
   have hqd:qs.getD i 0=q:=by rw[List.getD_eq_getElem?_getD,Oh];rfl
   have:=Ok (qs:=qs) (i:=i)
   rw[←Dy,hqd] at this
   exact this
  ·have oJ:i=m:=by omega
   subst oJ
   have hf:=Y0 (c1:=cB) (c2:=c) (c3:=cE) hrB (by simp;omega) hM (by omega) hrE (by simp;omega)
   rw[List.length_set,List.length_set,List.length_replicate,yE,HV] at hf
   have hfp:=aeM (o:=0) (j:=0) Ki rfl hf
   have ahD:qs.getD (qs.length-1) 0=ql:=by rw[List.getD_eq_getElem?_getD,hm,Nat.add_sub_cancel,hql];rfl
   have hE:HO qs=(List.replicate qs.length (0:Rat)).set i ql:=by unfold HO;rw[ahD,hm,Nat.add_sub_cancel]
   have hB1:∀q∈qs,fS q≤665:=fun q h=>(hq q h).1
   have hto:=Im (Jo qs.length) (IE qs i) (HO qs) ⟨by rw[Jo,List.length_set,List.length_replicate];omega,fun q h=>by have:=Fj (B:=665) (AH (by decide)) (by rw[K6];decide) q h;omega⟩
    ⟨by rw[IE,Nt];omega,fun r hr=>by
     obtain⟨h1,h2⟩:=O5 hB1 (by decide) r hr
     exact⟨by omega,fun q h=>by have:=h2 q h;omega⟩⟩ ⟨by rw[HO,List.length_set,List.length_replicate];omega,fun q h=>by have:=Fj (B:=665) (AH (by decide)) (Gr hB1 (by decide) _) q h;omega⟩
   have him:i=qs.length-1:=by omega
   rw[hE] at hto ⊢
   rw[←him]
   simp only[oY,g6,g7,g8,dD,wi,gX,VX,Nat.reduceEqDiff,Nat.reduceAdd,Nat.reduceLeDiff,Nat.reduceLT,Nat.reduceSub]
   refine XM (P:=NN ((iD (Jo qs.length) (IE qs i) ((List.replicate qs.length (0:Rat)).set i ql)).getD sF)) NN.bO NN.wide (fun h n hn=>h.ag n hn) hto rfl (Pj hfp) Bx (Nat.le_refl _) fun v H2 H3 s1 s2 s3 => ?_
   simp only[g2,s1,s2,gX,VX,Nat.reduceEqDiff,Nat.reduceAdd,Nat.reduceLeDiff,Nat.reduceLT,Nat.reduceSub]
   exact s3
end Go.PM
namespace Go.PM
def jS:aE:=(LS [LO 2 (.mv LF)] (LS [LO 3 (.mv (LI 1000000))] (LS [LM 14 0,LM 15 3,LO 16 (.call 41 [(LT 14),(LT 15)]),LM 3 16] (.seq (LS [LM 17 3,LO 18 (.bin .lss (LT 17) (LI 0))] (.cond (LT 18) (LS [LO 2 (.mv LG)] .ret) .skip)) (LS [LM 20 0,LO 21 (.call 43 [(LT 20),LF]),LO 22 (.call 48 [(LT 21)]),LM 19 22,LO 23 (LX 19 0),LO 24 (LX 19 1),LO 4 (.new [(.slice none 0 0),(.slice none 0 0),(.slice none 0 0)]),LN (.store 3 (LT 4) (LT 23)),LM 5 24] (LS [LM 25 0,LO 26 (.call 43 [(LT 25),LF]),LM 6 26] (LS [LM 28 6,LO 29 (.call 49 [(LT 28)]),LM 27 29,LO 30 (LX 27 0),LO 31 (LX 27 1),LO 7 (.new [(.slice none 0 0),(.slice none 0 0),(.slice none 0 0)]),LN (.store 3 (LT 7) (LT 30)),LM 8 31] (.seq (LS [LO 32 (LK 7),LO 33 (LK 4),LO 34 (.call 22 [(LT 32),(LT 33)]),LO 35 (.un .not (LT 34)),LM 36 35,LZ 36 37 (.mv (LT 8)),LZ 36 38 (.mv (LT 5)),LZ 36 39 (.eqb true (LT 37) (LT 38)),LO 40 (.pick (LT 36) LG (LT 39))] (.cond (LT 40) (LS [LO 2 (.mv LF)] .ret) .skip)) (.seq (LS [LM 41 6,LM 42 0,LO 43 (.call 43 [(LT 42),LF]),LO 44 (.call 45 [(LT 41),(LT 43)]),LO 45 (.un .not (LT 44))] (.cond (LT 45) (LS [LO 2 (.mv LF)] .ret) .skip)) (LS [LO 9 (.mv (LI 101))] (LS [LM 46 6,LM 47 9,LO 48 (.call 50 [(LT 46),(LT 47)]),LM 9 48] (.seq (LS [LM 49 9,LO 50 (.bin .lss (LT 49) (LI 0)),LM 51 50,LZ 51 52 (LK 7),LZ 51 53 (LK 4),LZ 51 54 (.call 22 [(LT 52),(LT 53)]),LZ 51 55 (.un .not (LT 54)),LO 56 (.pick (LT 51) LG (LT 55)),LM 57 56,LZ 57 58 (.mv (LT 8)),LZ 57 59 (.mv (LT 5)),LZ 57 60 (.eqb true (LT 58) (LT 59)),LO 61 (.pick (LT 57) LG (LT 60))] (.cond (LT 61) (LS [LO 2 (.mv LF)] .ret) .skip)) (LS [LO 10 (.mv (LI 101))] (LS [LO 62 (LK 7),LM 63 10,LO 64 (.call 23 [(LT 62),(LT 63)]),LM 10 64] (LS [LO 11 (.mv (LI 101))] (LS [LO 65 (LK 7),LM 66 11,LO 67 (.call 24 [(LT 65),(LT 66)]),LM 11 67] (.seq (LS [LM 68 11,LO 69 (.bin .lss (LT 68) (LI 0))] (.cond (LT 69) (LS [LO 2 (.mv LF)] .ret) .skip)) (.seq (LS [LM 70 11,LM 71 10,LO 72 (.bin .neq (LT 70) (LT 71))] (.cond (LT 72) (LS [LO 2 (.mv LF)] .ret) .skip)) (LS [LM 74 0,LO 75 (.call 43 [(LT 74),LG]),LO 76 (.call 49 [(LT 75)]),LM 73 76,LO 77 (LX 73 0),LO 78 (LX 73 1),LO 12 (.new [(.slice none 0 0),(.slice none 0 0),(.slice none 0 0)]),LN (.store 3 (LT 12) (LT 77)),LM 13 78] (.seq (LS [LO 79 (LK 12),LO 80 (LK 4),LO 81 (.call 22 [(LT 79),(LT 80)]),LO 82 (.un .not (LT 81)),LM 83 82,LZ 83 84 (.mv (LT 13)),LZ 83 85 (.mv (LT 5)),LZ 83 86 (.eqb true (LT 84) (LT 85)),LO 87 (.pick (LT 83) LG (LT 86))] (.cond (LT 87) (LS [LO 2 (.mv LF)] .ret) .skip)) (LS [LO 11 (.mv (LI 101))] (LS [LO 88 (LK 7),LM 89 11,LO 90 (.call 24 [(LT 88),(LT 89)]),LM 11 90] (.seq (LS [LM 91 11,LO 92 (.bin .lss (LT 91) (LI 0))] (.cond (LT 92) (LS [LO 2 (.mv LF)] .ret) .skip)) (.seq (LS [LM 93 11,LM 94 10,LO 95 (.bin .neq (LT 93) (LT 94))] (.cond (LT 95) (LS [LO 2 (.mv LF)] .ret) .skip)) (LS [LO 2 (.mv LG)] .ret)))))))))))))))))))))))))
def kZ:aT:=⟨96,[(.tmp 2)],jS⟩
theorem xZ:hC 9=some kZ:=by kernel_rfl
end Go.PM
namespace Go.PM
structure xR (s:CE):Prop where
 b:s.b.length≤100
 g:s.g.length≤100
 r:∀x∈s.g,x.length≤100
 e:s.e.length≤100
theorem Ep {β:Type}:∀ {xs:List (List β)} {n:Nat},(∀x∈xs,x.length≤n)→cU xs≤xs.length*n
 | [],n,_=>by simp[cU]
 |
  x::xs,n,h=>by
  have h1:=h x List.mem_cons_self
  have h2:=Ep (xs:=xs) (n:=n) fun y hy=>h y (List.mem_cons_of_mem _ hy)
  have e:cU (x::xs)=x.length+cU xs:=by simp[cU]
  rw[e,List.length_cons,Nat.add_mul,Nat.one_mul]
  omega
theorem xR.n {s:CE} (h:xR s):V7 s≤10200:=by
 have h1:=Ep h.r
 have h2:s.g.length*100≤100*100:=Nat.mul_le_mul_right _ h.g
 have h3:=h.b
 have h4:=h.e
 unfold V7
 omega
theorem XI {lo:Nat} {s:CE} {H:aA} {v w:VV} {K:VV→aA→Prop} (hs:xR s) (hv:PM.fz depth H v=some (N4 s)) (hw:PM.fz depth H w=some (N4 s)):cM 22 [v,w] lo H K=K (VB true) H:=by
 have h:=FK s s (by have:=hs.b;omega) (by have:=hs.g;omega) (fun x hx=>by have:=hs.r x hx;omega) (by have:=hs.e;omega)
 rw[decide_eq_true ⟨rfl,rfl,rfl⟩] at h
 exact TC.flat h rfl (Gs (vX _) (vX _)) (fz2 hv hw) rfl _ _
theorem SE {lo:Nat} {s:CE} {H:aA} {v:VV} {K:VV→aA→Prop} (hs:xR s) (hv:PM.fz depth H v=some (N4 (svT 101 s))):cM 24 [v,VI 101] lo H K=K (VI (101+V7 s)) H:=by
 have h:=DE 101 s (by omega) (by have:=hs.g;omega) (by have:=hs.n;omega)
 exact TC.flat h rfl (Gs (vX _) rfl) (fz2 hv (aI rfl)) rfl _ _
def Ag3 (v:VV):Prop:=∃a b c,v = .agg [a,b,c]∧aZ a=true∧aZ b=true∧aZ c=true
theorem Hm.ag3 {s:CE} {lo hi:Nat} {H:aA} {v:VV} (h:Hm s lo hi H v):Ag3 v:=by
 obtain⟨a,b,c,h1,h2,h3,h4,_⟩:=h.own (n:=0) (Nat.zero_le _)
 exact⟨a,b,c,h1,h2,h3,h4⟩
theorem NN.ag3 {s:CE} {lo hi:Nat} {H:aA} {v:VV} (h:NN s lo hi H v):Ag3 v:=by
 obtain⟨⟨a,b,c,h1,h2,h3,h4,_⟩,_⟩:=h
 exact⟨a,b,c,h1,h2,h3,h4⟩
theorem QF {lo:Nat} {H:aA} {v:VV} (h:Ag3 v) (eI:lo≤H.length):bX lo 3 (.ptr H.length 0 0 0) v (H++[.row 0 [.agg [.tree [] .nil,.tree [] .nil,.tree [] .nil]] 3 true])=some (H++[.row 0 [v] 3 true]):=by
 obtain⟨a,b,c,rfl,h1,h2,h3⟩:=h
 rw[dG (e:=3) (g:=0) (j:=0) dZ (by exact Nat.zero_lt_one) eI rfl (by simp[aB,h1,h2,h3]),zU]
 rfl
theorem Ho {b:Nat} {H:aA} {v:VV} (h:Ag3 v) (hr:aF H b 0=some ([v],3,true)):cQ true 3 (.ptr b 0 0 0) H=some v:=by
 obtain⟨a,b,c,rfl,_⟩:=h
 rw[cG,hr]
 rfl
theorem RT {m:List (List Rat)} {y:List (List ByteArray)} {B:Nat} (h:vG m=some y) (hB:∀r∈m,r.length≤B):y.length=m.length∧∀x∈y,x.length≤B :=
 ⟨mM h,fun x hx=>by
  have key:∀ {m:List (List Rat)} {y:List (List ByteArray)},m.mapM oA=some y→(∀r∈m,r.length≤B)→∀x∈y,x.length≤B:=by
   intro m
   induction m with
   | nil=>intro y h _ x hx;cases h;cases hx
   |
    cons r m ih =>
    intro y h hB x hx
    obtain⟨z,zs,h1,h2,rfl⟩:=iU h
    rcases List.mem_cons.1 hx with rfl | hx
    ·rw[CA h1];exact hB r List.mem_cons_self
    ·exact ih h2 (fun r hr=>hB r (List.mem_cons_of_mem _ hr)) x hx
  exact key h hB x hx⟩
theorem OD {b:List Rat} {g:List (List Rat)} {e:List Rat} (hb:b.length≤100) (hg:g.length≤100) (hr:∀r∈g,r.length≤100) (he:e.length≤100):xR ((iD b g e).getD sF):=by
 have h0:xR sF:=⟨by decide,by decide,(fun x hx=>by cases hx),by decide⟩
 unfold iD
 split
 ·rename_i x y z h1 h2 h3
  split
  ·obtain⟨k1,k2⟩:=RT h2 hr
   exact⟨by rw[Option.getD_some,CA h1];exact hb,by rw[Option.getD_some,k1];exact hg,k2,by rw[Option.getD_some,CA h3];exact he⟩
  ·exact h0
 ·exact h0
theorem Qk (rs:List ByteArray):xR ((pL rs).getD sF):=by
 have h0:xR sF:=⟨by decide,by decide,(fun x hx=>by cases hx),by decide⟩
 unfold pL
 split
 ·rename_i qs h
  split
  ·rename_i hl
   refine OD (by rw[Jo,List.length_set,List.length_replicate];omega) (by rw[IE,Nt];omega) (fun r hr => ?_) (by rw[HO,List.length_set,List.length_replicate];omega)
   obtain⟨a,_,rfl⟩:=Ss hr
   rw[Af];omega
  ·exact h0
 ·exact h0
end Go.PM
namespace Go.PM
set_option maxHeartbeats 4000000 in
theorem yD (s0:List ByteArray) (Vu:okS s0):TC 9 [fC s0] (.sc (.bool true)):=by
 refine TC.walk ⟨true,false⟩ xZ rfl (Nat.le_of_ble_eq_true rfl) (Mv (gF _)) rfl ?_
 have Xp:=F3 s0 (1000000) Vu (by omega)
 by_cases akD:Xy s0 (1000000)<0
 ·rw[aeQ akD (by omega)] at Xp
  simp only[kZ,jS,Xp,Int.reduceNeg,Int.reduceLT,gX,VX,Nat.reduceEqDiff,Nat.reduceAdd,Nat.reduceLeDiff,Nat.reduceLT,Nat.reduceSub]
  exact aI rfl
 have alK:=aeV (xs:=s0) (l:=1000000) (by omega)
 have aAh:=alK.1
 obtain⟨_,V9,Zl⟩:=alK
 have hb0:s0.length≤1000000000∧∀s∈s0,s.size≤1000000000:=⟨by omega,fun s h=>by have:=Zl s h;omega⟩
 have t0':=fun b=>F5 s0 b (by omega)
 have cs:=EW s0 hb0.1 hb0.2
 have ci:=Eh s0 hb0.1 hb0.2
 have NH:=Qk s0
 have hsn:=NH.n
 generalize CO:(pL s0).getD sF=val at *
 generalize (pL s0).isSome=ok at *
 simp only[kZ,jS,Xp,akD,gX,VX,Nat.reduceEqDiff,Nat.reduceAdd,Nat.reduceLeDiff,Nat.reduceLT,Nat.reduceSub]
 refine Wl (t0' false) rfl FP (fun _=>rfl) fun r1 H1 p1 s1' => ?_
 simp only[gX,VX,Nat.reduceEqDiff,Nat.reduceAdd,Nat.reduceLeDiff,Nat.reduceLT,Nat.reduceSub]
 refine Jh cs rfl (Pj (s1'.pre (List.prefix_refl _)).now) NN.bO fun v2 H2 p2 v2' => ?_
 simp only[gX,VX,Nat.reduceEqDiff,Nat.reduceAdd,Nat.reduceLeDiff,Nat.reduceLT,Nat.reduceSub]
 have w2:=QF (lo:=0) (H:=H2) v2'.ag3 (Nat.zero_le _)
 simp only[w2,gX,VX,Nat.reduceEqDiff,Nat.reduceAdd,Nat.reduceLeDiff,Nat.reduceLT,Nat.reduceSub]
 have p3:=List.prefix_append H2 [.row 0 [v2] 3 true]
 have q2:aF (H2++[.row 0 [v2] 3 true]) H2.length 0=some ([v2],3,true):=dZ
 generalize eh3:H2++[.row 0 [v2] 3 true]=H3 at *
 refine WV (t0' false) rfl FP (fun _=>rfl) fun b4 H4 p4 lo4 r4 => ?_
 simp only[gX,VX,Nat.reduceEqDiff,Nat.reduceAdd,Nat.reduceLeDiff,Nat.reduceLT,Nat.reduceSub]
 refine Jh ci rfl (Pj (Lk (fun _=>rfl) (bL (List.prefix_refl _) r4))) Hm.bO fun v5 H5 p5 v5' => ?_
 simp only[gX,VX,Nat.reduceEqDiff,Nat.reduceAdd,Nat.reduceLeDiff,Nat.reduceLT,Nat.reduceSub]
 have w5:=QF (lo:=0) (H:=H5) v5'.ag3 (Nat.zero_le _)
 simp only[w5,gX,VX,Nat.reduceEqDiff,Nat.reduceAdd,Nat.reduceLeDiff,Nat.reduceLT,Nat.reduceSub]
 have p6:=List.prefix_append H5 [.row 0 [v5] 3 true]
 have q5:aF (H5++[.row 0 [v5] 3 true]) H5.length 0=some ([v5],3,true):=dZ
 generalize eh6:H5++[.row 0 [v5] 3 true]=H6 at *
 have W6:=v2'.bO (cJ.pre (((p3.trans p4).trans p5).trans p6))
 have G6:=v5'.bO (cJ.pre p6)
 have cW6:=bL ((p4.trans p5).trans p6) q2
 have cG6:=q5
 have aW:=v2'.ag3
 have aG:=v5'.ag3
 have le2:=p2.length_le
 have le3:=p3.length_le
 have le4:=p4.length_le
 have le5:=p5.length_le
 have le6:=p6.length_le
 have bW:=jA q2
 have bG:=jA q5
 have kb:OE true (Value.bool ok) (Value.bool ok)=some (.bool false):=Yn ok
 simp only[Ho aG cG6,Ho aW cW6,XI NH G6.fz W6.2.now,kb,gX,VX,Nat.reduceEqDiff,Nat.reduceAdd,Nat.reduceLeDiff,Nat.reduceLT,Nat.reduceSub]
 refine WV (t0' false) rfl FP (fun _=>rfl) fun b7 H7 p7 lo7 r7 => ?_
 simp only[gX,VX,Nat.reduceEqDiff,Nat.reduceAdd,Nat.reduceLeDiff,Nat.reduceLT,Nat.reduceSub]
 refine BR s0 (by omega) (bL ((p5.trans p6).trans p7) r4) r7 ?_
 simp only[gX,VX,Nat.reduceEqDiff,Nat.reduceAdd,Nat.reduceLeDiff,Nat.reduceLT,Nat.reduceSub]
 have W7:=W6.bO (cJ.pre p7)
 have G7:=G6.bO (cJ.pre p7)
 have cW7:=bL p7 cW6
 have cG7:=bL p7 cG6
 have bl4:=jA r4
 refine UU (bL ((p5.trans p6).trans p7) r4) (Nat.zero_le _) (by omega) (by omega) fun x0 => ?_
 have W8:=(W7.bO (cJ.set (x:=x0) (b:=b4) (by omega)))
 have G8:=(G7.bO (cJ.set (x:=x0) (b:=b4) (by omega)))
 have cW8:=(aL (x:=x0) (b':=b4) (by omega) cW7)
 have cG8:=(aL (x:=x0) (b':=b4) (by omega) cG7)
 have k8:¬(101+(s0.length:Int))<0:=by omega
 simp only[k8,Ho aG cG8,Ho aW cW8,XI NH G8.fz W8.2.now,kb,gX,VX,Nat.reduceEqDiff,Nat.reduceAdd,Nat.reduceLeDiff,Nat.reduceLT,Nat.reduceSub]
 refine Yz G8 (Nat.zero_le _) (by omega) (by have:=NH.g;omega) (by omega) fun M1 ml mG mk => ?_
 have k0:¬(101+(V7 val:Int))<0:=by omega
 have k1:¬((101+(V7 val:Int))≠(101+(V7 val:Int))):=fun h=>h rfl
 have mW:=W8.bO (H':=M1) fun b g x h1 h2 h3=>mk b g x (by omega) h3
 have mcW:=mk _ _ _ (by omega) cW8
 have mcG:=mk _ _ _ (by omega) cG8
 simp only[Ho aG mcG,SE NH mG.fz,k0,ne_eq,not_true_eq_false,decide_false,gX,VX,Nat.reduceEqDiff,Nat.reduceAdd,Nat.reduceLeDiff,Nat.reduceLT,Nat.reduceSub]
 generalize M1=H9 at *
 refine Wl (t0' true) rfl FP (fun _=>rfl) fun r10 H10 p10 apF => ?_
 simp only[gX,VX,Nat.reduceEqDiff,Nat.reduceAdd,Nat.reduceLeDiff,Nat.reduceLT,Nat.reduceSub]
 refine Jh ci rfl (Pj (apF.pre (List.prefix_refl _)).now) Hm.bO fun v11 H11 p11 afM => ?_
 simp only[gX,VX,Nat.reduceEqDiff,Nat.reduceAdd,Nat.reduceLeDiff,Nat.reduceLT,Nat.reduceSub]
 have w11:=QF (lo:=0) (H:=H11) afM.ag3 (Nat.zero_le _)
 simp only[w11,gX,VX,Nat.reduceEqDiff,Nat.reduceAdd,Nat.reduceLeDiff,Nat.reduceLT,Nat.reduceSub]
 have p12:=List.prefix_append H11 [.row 0 [v11] 3 true]
 have q11:aF (H11++[.row 0 [v11] 3 true]) H11.length 0=some ([v11],3,true):=dZ
 generalize axO:H11++[.row 0 [v11] 3 true]=H12 at *
 have aX:=afM.ag3
 have X1:=afM.bO (cJ.pre p12)
 have cX:=q11
 have nW:=mW.bO (cJ.pre ((p10.trans p11).trans p12))
 have nG:=mG.bO (cJ.pre ((p10.trans p11).trans p12))
 have ncW:=bL ((p10.trans p11).trans p12) mcW
 have ncG:=bL ((p10.trans p11).trans p12) mcG
 simp only[Ho aX cX,Ho aW ncW,Ho aG ncG,XI NH X1.fz nW.2.now,kb,SE NH nG.fz,k0,ne_eq,not_true_eq_false,decide_false,gX,VX,Nat.reduceEqDiff,Nat.reduceAdd,Nat.reduceLeDiff,Nat.reduceLT,Nat.reduceSub]
 exact aI rfl
end Go.PM
namespace Go.PM
open Go.Proofs
theorem C0 {P:Program} {w:World} {name:String} {d:DataW Unit}:∀ {l:List (String×DataW Unit)} {ps:List MemPlace},DataW.LaidVars P w l ps→(name,d)∈l →
  ∃g t cs fuel p,P.globalNamed name=some g∧(P.globals[g]?).map (·.type)=some t∧w.var? P name=some cs∧DataW.trod (fun _=>()) P w 0 (fun _=>true) false fuel t cs.toList=some (d,p)
 | [],_,_,hm=>by cases hm
 |
  (n,e)::r,ps,h,hm=>by
  obtain⟨g,t,cs,fuel,p,q,h1,h2,h3,h4,h5,_⟩:=h
  rcases List.mem_cons.1 hm with he | hm
  ·cases he
   exact⟨g,t,cs,fuel,p,h1,h2,h3,h4⟩
  ·exact C0 h5 hm
theorem JQ {W:World} {l:List (String×DataW Unit)} (hl:laidMetH Tryz.prog l W) (hp:(l.all fun x=>x.2.handleName?.isNone)=true) (hm:("internal/strconv.uint64pow10",Lib.tabData .u64 Lib.pow10Tab)∈l)
  {t e:TypeId} {n:Nat} (hty:(Tryz.prog.globals[1]?).map (·.type)=some t) (ht:Tryz.prog.underlying t=some (.array n e)) (he:Tryz.prog.underlying e=some (.int .u64)) (hce:Tryz.prog.cellsOf e=1) (hct:Tryz.prog.cellsOf t=n):My W:=by
 rw[MakeChecks.laidMetH_plain _ _ _ hp] at hl
 obtain⟨ps,h1,_⟩:=hl
 obtain⟨g',t',cs,fuel,p,P4,ZI,Yh,hd⟩:=C0 h1 hm
 have hg:Tryz.prog.globalNamed "internal/strconv.uint64pow10"=some 1:=by kernel_rfl
 obtain rfl:=Option.some.inj (hg.symm.trans P4)
 obtain rfl:=Option.some.inj (hty.symm.trans ZI)
 have KS:=Lib.cells_of_tab ht he hce hct hd
 intro x hx
 have Oa:x=(1,(Lib.pow10Tab.map fun z=>Value.int .u64 z).toArray):=by simpa[abD] using hx
 subst Oa
 unfold World.var? at Yh
 rw[hg,Option.bind_some] at Yh
 split at Yh
 ·rename_i yF e' fz' hh
  cases Yh
  refine⟨e',fz',?_⟩
  rw[←KS]
  simpa using hh
 ·cases Yh
end Go.PM