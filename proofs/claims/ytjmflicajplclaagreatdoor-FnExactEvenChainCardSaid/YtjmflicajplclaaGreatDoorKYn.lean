/- Texts of a claim, in one: part 14. -/
import Derived.KernelRfl
import Derived.Lib.LaidTab
import Derived.LaidLaws
import Derived.LaidMore
import Derived.MakeChecks
import Derived.Handed
import Derived.Test.YtjmflicajplclaaGreatDoorKYm
set_option linter.unusedSimpArgs false
set_option linter.unusedVariables false
namespace Go.PM
open Go.Lib
theorem SW (q:Rat):(aB (aO q)).all bY=true:=rfl
def Kn (u d:List Rat) (n i j:Nat):Rat:=if j=i+1 then (if i<n then u.getD i 0 else 0) else if i=j+1 then (if j<n then d.getD j 0 else 0) else 0
theorem Ve {u d:List Rat} {a b:Nat}:(0:Rat)=Kn u d 0 a b:=by unfold Kn;simp
theorem ZH {u d:List Rat} {n a b:Nat}:GD (GD (Kn u d n) n (n+1) (u.getD n 0)) (n+1) n (d.getD n 0) a b=Kn u d (n+1) a b:=by
 unfold GD Kn
 by_cases h1:a=n+1∧b=n
 ·obtain⟨rfl,rfl⟩:=h1
  rw[if_pos ⟨rfl,rfl⟩,if_neg (by omega),if_pos rfl,if_pos (by omega)]
 rw[if_neg h1]
 by_cases h2:a=n∧b=n+1
 ·obtain⟨rfl,rfl⟩:=h2
  rw[if_pos ⟨rfl,rfl⟩,if_pos rfl,if_pos (by omega)]
 rw[if_neg h2]
 by_cases h3:b=a+1
 ·subst h3
  rw[if_pos rfl,if_pos rfl]
  by_cases h4:a<n
  ·rw[if_pos h4,if_pos (by omega)]
  ·rw[if_neg h4,if_neg (by omega)]
 rw[if_neg h3,if_neg h3]
 by_cases h5:a=b+1
 ·subst h5
  rw[if_pos rfl,if_pos rfl]
  by_cases h4:b<n
  ·rw[if_pos h4,if_pos (by omega)]
  ·rw[if_neg h4,if_neg (by omega)]
 rw[if_neg h5,if_neg h5]
theorem YK {u d:List Rat} {a b:Nat} (ha:a<u.length+1) (hb:b<u.length+1):Kn u d u.length a b=sE u d a b:=by
 unfold Kn sE
 by_cases h3:b=a+1
 ·rw[if_pos h3,if_pos h3,if_pos (by omega)]
 rw[if_neg h3,if_neg h3]
 by_cases h5:a=b+1
 ·rw[if_pos h5,if_pos h5,if_pos (by omega)]
 rw[if_neg h5,if_neg h5]
set_option maxHeartbeats 4000000 in
theorem He (u d:List Rat) (hd:d.length=u.length) (hl:u.length≤100):TC 86 [.agg [aK aO u,aK aO d]] (aK (aK aO) (oH u d)):=by
 refine TC.walk ⟨true,false⟩ Fg rfl (Nat.le_of_ble_eq_true rfl) (Gp (rO (lJ u) (lJ d))) (akY _) ?_
 have e1:=CV u d
 have ld:∀K,bX true 2 (.cT (.agg [aK aO u,aK aO d]) 0) K=some (.agg [aK aO u,aK aO d]):=fun K=>rfl
 have la:∀K,bX false 1 (.cT (.agg [aK aO u,aK aO d]) 0) K=some (aK aO u):=fun K=>rfl
 have lb:∀K,bX false 1 (.cT (.agg [aK aO u,aK aO d]) 1) K=some (aK aO d):=fun K=>rfl
 have w1:IntKind.i64.wrap ((u.length:Int)+1)=((u.length+1:Nat):Int):=wrapN (u.length+1) (by omega) (by omega)
 simp only[As,wZ,e1,ld,w1,gB,VX,Nat.reduceEqDiff,Nat.reduceAdd,Nat.reduceLeDiff,Nat.reduceLT,Nat.reduceSub]
 refine oU rfl (Rk (u.length+1) (by omega) (Nat.zero_le _)) fun r H hr => ?_
 rw[TD] at hr
 obtain⟨b,g,c,rfl,hc,hT⟩:=hr.tb
 rw[List.nil_append] at hT ⊢
 simp only[la,List.length_nil,gB,VX,Nat.reduceEqDiff,Nat.reduceAdd,Nat.reduceLeDiff,Nat.reduceLT,Nat.reduceSub] at hT ⊢
 refine aU (fun(i:Nat) ρ H1=>i≤u.length∧Tb aO 0 H.length (u.length+1) (u.length+1) b g (Kn u d i) H1∧ρ 1 = .cT (.agg [aK aO u,aK aO d]) 0∧ρ 3 = .ref b g 0 (u.length+1) c∧ρ 11=VI u.length∧ρ 12=VI i) (fun i=>u.length-i) 0
  ⟨Nat.zero_le _,hT.congr fun _ _ _ _=>Ve,by (repeat' apply And.intro)<;>first | rfl | trivial | assumption⟩ ?_
 clear hT
 rintro i ρ H1 ⟨hi,hT,g1,g3,g11,g12⟩
 by_cases cS:(i:Int)<(u.length:Int)
 ·obtain⟨p,hp⟩:∃p,u[i]? = some p:=⟨_,List.getElem?_eq_getElem (by omega)⟩
  obtain⟨q,hq⟩:∃q,d[i]? = some q:=⟨_,List.getElem?_eq_getElem (by omega)⟩
  have hpd:u.getD i 0=p:=by rw[List.getD_eq_getElem?_getD,hp];rfl
  have hqd:d.getD i 0=q:=by rw[List.getD_eq_getElem?_getD,hq];rfl
  have a1:=fun H=>aJ (f:=aO) (t := .op) (H:=H) (size:=3) (k := .i64) hp rfl
  have a2:=fun H=>aJ (f:=aO) (t := .op) (H:=H) (size:=3) (k := .i64) hq rfl
  have wi:IntKind.i64.wrap ((i:Int)+1)=((i+1:Nat):Int):=wrapN (i+1) (by omega) (by omega)
  have b1:=hT.addr (c:=c) (i:=i) (by omega)
  have b2:=hT.addr (c:=c) (i:=i+1) (by omega)
  obtain⟨rb,rg,rc,c1,c2,_,c3⟩:=hT.spot (i:=i) (j:=i+1) (by omega) (by omega) Br SW
  obtain⟨H2,c4,c5,hT2,c6⟩:=c3 0 p (by omega)
  obtain⟨rb2,rg2,rc2,d1,d2,_,d3⟩:=hT2.spot (i:=i+1) (j:=i) (by omega) (by omega) Br SW
  obtain⟨H3,d4,d5,hT3,_⟩:=d3 0 q (by omega)
  rw[c6] at d1
  simp only[pA,g1,g3,g11,g12,cS,la,lb,a1,a2,b1,b2,wi,c1,c2,c4,d1,d2,d4,dQ,gB,VX,Nat.reduceEqDiff,Nat.reduceAdd,Nat.reduceLeDiff,Nat.reduceLT,Nat.reduceSub]
  refine⟨i+1,by omega,by omega,hT3.congr fun _ _ _ _ => ?_,by (repeat' apply And.intro)<;>first | rfl | trivial | assumption⟩
  rw[←hpd,←hqd]
  exact ZH
 ·have mT:i=u.length:=by omega
  subst mT
  simp only[pA,g3,g11,g12,cS,gB,VX,Nat.reduceEqDiff,Nat.reduceAdd,Nat.reduceLeDiff,Nat.reduceLT,Nat.reduceSub]
  have hT':=hT.congr fun a b ha hb=>YK ha hb
  exact hT'.fz (d:=5) hc iC
end Go.PM
namespace Go.PM
open Go.Lib
def oD (s:ES):Option (List (List ByteArray)):=match hJ s with
 | some x=>if x.1.length<12 then wY (uE (oH x.1 x.2)) else none
 | none=>none
theorem Ll {u:List Rat} (h:(u.any fun q=>decide (q≤0))=false) {q:Rat} (hq:q∈u):0<q:=by
 have:=List.any_eq_false.1 h q hq
 exact Rat.not_le.1 (by simpa using this)
theorem D5 {s:ES} {u d:List Rat} (h:hJ s=some (u,d)):(1≤u.length∧u.length≤20)∧d.length=u.length∧(∀q∈u,bP q≤665∧0<q)∧∀q∈d,bP q≤665∧0<q:=by
 unfold hJ at h
 split at h
 ·rename_i hs
  split at h
  ·rename_i u' d' hu hd
   split at h
   ·rename_i ha
    cases h
    obtain⟨ub,_,ul⟩:=uT hu
    obtain⟨db,_,dl⟩:=uT hd
    exact⟨by omega,by omega,fun q hq=>⟨ub q hq,Ll ha.1 hq⟩,fun q hq=>⟨db q hq,Ll ha.2 hq⟩⟩
   ·cases h
  ·cases h
 ·cases h
theorem GM {P:Rat→Prop} {u:List Rat} (h:∀q∈u,P q) (h0:P 0) (i:Nat):P (u.getD i 0):=by
 rw[List.getD_eq_getElem?_getD]
 cases hu:u[i]? with
 | none=>exact h0
 | some q=>exact h q (List.mem_of_getElem? hu)
theorem P9 {P:Rat→Prop} {u d:List Rat} (hu:∀q∈u,P q) (hd:∀q∈d,P q) (h0:P 0) (i j:Nat):P (sE u d i j):=by
 unfold sE
 split
 ·exact GM hu h0 i
 ·split
  ·exact GM hd h0 j
  ·exact h0
theorem Iu {u d:List Rat} (hu:∀q∈u,bP q≤665) (hd:∀q∈d,bP q≤665):∀r∈oH u d,r.length=u.length+1∧∀q∈r,bP q≤665:=fun r hr=>by
 obtain⟨a,_,rfl⟩:=W5 hr
 refine⟨AG ..,fun q hq => ?_⟩
 obtain⟨b,_,rfl⟩:=Hy.1 hq
 exact P9 (P:=fun q=>bP q≤665) hu hd (by rw[uL];decide) a b
theorem PO {u d:List Rat} (hl:1≤u.length) (hu:∀q∈u,0<q) (hd:∀q∈d,0<q):gG (oH u d)≠0:=by
 have hnn:∀r∈oH u d,∀q∈r,0≤q:=fun r hr q hq=>by
  obtain⟨a,_,rfl⟩:=W5 hr
  obtain⟨b,_,rfl⟩:=Hy.1 hq
  exact P9 (P:=fun q=>0≤q) (fun q hq=>Rat.le_of_lt (hu q hq)) (fun q hq=>Rat.le_of_lt (hd q hq)) Rat.le_refl a b
 obtain⟨_,_,_,h4⟩:=Mu (fun r hr=>Uk (hnn r hr)) (oH u d).length
 rw[List.take_length] at h4
 intro h0
 rw[←gG,h0,decide_eq_true rfl,Bool.not_true] at h4
 have nD:=List.mem_of_getElem? (ID (u:=u) (d:=d) (Nat.zero_le _))
 have h5:=List.any_eq_false.1 h4 _ nD
 have h6:=akT (hnn _ nD) (q:=sE u d 0 1) (Hy.2 ⟨1,by omega,rfl⟩)
 have h7:sE u d 0 1=u.getD 0 0:=if_pos rfl
 have h8:0<u.getD 0 0:=by
  rw[List.getD_eq_getElem?_getD,List.getElem?_eq_getElem (by omega:0<u.length)]
  exact hu _ (List.getElem_mem _)
 simp only[Bool.not_eq_true',decide_eq_false_iff_not,not_true_eq_false,Classical.not_not] at h5
 rw[h5,h7] at h6
 grind
theorem xV {u d:List Rat}:(oH u d).length=u.length+1:=K1 ..
set_option maxHeartbeats 4000000 in
theorem Iz (s:ES) (hu:∀x∈s.u,x.size≤1000000000) (hd:∀x∈s.d,x.size≤1000000000) (hn:s.u.length≤1000000000∧s.d.length≤1000000000):FC 27 [A3 s] (YZ (CG ((oD s).getD [])) (oD s).isSome):=by
 refine FC.J5 ⟨true,false⟩ I7 (Nat.le_of_ble_eq_true rfl) fun n => ?_
 have e1:=On s hu hd hn
 have ld0:∀K,bX true 2 (.cT (A3 s) 0) K=some (A3 s):=fun K=>rfl
 have st:∀a b,bI n 2 (.ptr (n+1) 0 0 0) (.agg [.tree a .op,.tree b .op]) (List.replicate n bT.dead++[AF,.row 0 [.agg [.tree [] .nil,.tree [] .nil]] 2 true])=some (List.replicate n bT.dead++[AF,.row 0 [.agg [.tree a .op,.tree b .op]] 2 true]):=fun a b=>by
  have hx:aF (List.replicate n bT.dead++[AF,.row 0 [.agg [.tree [] .nil,.tree [] .nil]] 2 true]) (n+1) 0=some ([.agg [.tree [] .nil,.tree [] .nil]],2,true):=by rw[rG,iY,aQ]
  rw[bO (e:=2) hx (by exact Nat.zero_lt_one) (by omega) rfl rfl,IA]
  rfl
 have ld:∀a b,bX true 2 (.ptr (n+1) 0 0 0) (List.replicate n bT.dead++[AF,.row 0 [.agg [.tree a .op,.tree b .op]] 2 true])=some (.agg [.tree a .op,.tree b .op]):=fun a b=>by
  rw[bM,rG,iY,aQ]
  rfl
 have kQ:(aB (A3 s)).all bY=true:=rfl
 have qQ:∀a b,aF (List.replicate n bT.dead++[AF,.row 0 [.agg [.tree a .op,.tree b .op]] 2 true]) n 0=some ([.tree [] .nil],1,true):=fun a b=>by rw[vL,aQ]
 cases wV:hJ s with
 |
  none =>
  have uU:oD s=none:=by unfold oD;rw[wV]
  have hln:KY s = .dR [.agg [.tree [] .op,.tree [] .op],VB false]:=by unfold KY;rw[wV]
  rw[hln] at e1
  obtain⟨f1,f2,f3⟩:=Qc (n:=n) (bK:=oD s) (qQ [] []) (Nat.le_refl _) uU
  simp only[uA,qB,kQ,if_true,e1,ld0,st,f1,f2,fQ,kH,Db,List.length_replicate,List.length_cons,List.length_nil,List.append_assoc,List.cons_append,List.nil_append,gB,VX,Nat.reduceEqDiff,Nat.reduceAdd,Nat.reduceLeDiff,Nat.reduceLT,Nat.reduceSub]
  exact f3
 |
  some x =>
  obtain⟨u,d⟩:=x
  obtain⟨⟨xR,Dq⟩,Uv,hub,hdb⟩:=D5 wV
  have hln:KY s = .dR [.agg [aK aO u,aK aO d],VB true]:=by unfold KY;rw[wV]
  rw[hln] at e1
  have e2:=CV u d
  by_cases h12:(12:Int)≤(u.length:Int)
  ·have uU:oD s=none:=by unfold oD;rw[wV];exact if_neg (by simp only[];omega)
   obtain⟨f1,f2,f3⟩:=Qc (n:=n) (bK:=oD s) (qQ (u.map aO) (d.map aO)) (Nat.le_refl _) uU
   simp only[uA,qB,kQ,if_true,e1,e2,ld0,st,ld,h12,f1,f2,fQ,kH,Db,List.length_replicate,List.length_cons,List.length_nil,List.append_assoc,List.cons_append,List.nil_append,gB,VX,Nat.reduceEqDiff,Nat.reduceAdd,Nat.reduceLeDiff,Nat.reduceLT,Nat.reduceSub]
   exact f3
  ·have uU:oD s=wY (uE (oH u d)):=by unfold oD;rw[wV];exact if_pos (by simp only[];omega)
   rw[uU]
   have e3:=He u d Uv (by omega)
   have Fw:=Iu (fun q hq=>(hub q hq).1) (fun q hq=>(hdb q hq).1)
   have RY:=PO xR (fun q hq=>(hub q hq).2) (fun q hq=>(hdb q hq).2)
   simp only[uA,qB,kQ,if_true,e1,e2,e3,ld0,st,ld,h12,fQ,kH,Db,List.length_replicate,List.length_cons,List.length_nil,List.append_assoc,List.cons_append,List.nil_append,gB,VX,Nat.reduceEqDiff,Nat.reduceAdd,Nat.reduceLeDiff,Nat.reduceLT,Nat.reduceSub]
   have qQ:=qQ (u.map aO) (d.map aO)
   have vE:=fE qQ
   generalize List.replicate n bT.dead++[AF,.row 0 [.agg [.tree (u.map aO) .op,.tree (d.map aO) .op]] 2 true]=H at *
   refine oU rfl (Sd (H:=H) (v:=aK (aK aO) (oH u d)) (oH u d) (n:=u.length+1) (B:=665) (RdT.tree Br) (by omega) xV (by omega) (by omega) Fw RY) fun x L hx => ?_
   obtain⟨b,g,cc,rs,rfl,k1,hM,Uo⟩:=hx
   obtain⟨el,eb⟩:=Iq xV (B:=665) Fw (by omega) (by omega)
   have B2:rs.length=(uE (oH u d)).length:=by rw[←Uo,List.length_map]
   have W3:=hM.fz (d:=5) (c:=cc) (by omega) iC
   rw[Uo,B2] at W3
   simp only[gB,VX,Nat.reduceEqDiff,Nat.reduceAdd,Nat.reduceLeDiff,Nat.reduceLT,Nat.reduceSub]
   refine WD (IW (uE (oH u d)) (by omega) (fun r hr=>⟨by have:=(eb r hr).1;omega,fun q hq=>by have:=(eb r hr).2 q hq;omega⟩)) rfl (Y8 W3) (bN qQ) (Nat.le_refl _) fun v H2 H3 t1 t2 t3 => ?_
   simp only[t1,t2,gB,VX,Nat.reduceEqDiff,Nat.reduceAdd,Nat.reduceLeDiff,Nat.reduceLT,Nat.reduceSub]
   exact t3
end Go.PM
namespace Go.PM
open Go.Lib
def ZV (u d:List Rat) (D:Rat) (i j:Nat):Rat:=if j=i then 1-(u.getD i 0+N7 d i) / D else sE u d i j / D
theorem V5 {u d:List Rat} (hd:d.length=u.length):uE (oH u d)=Uq (u.length+1) (u.length+1) (ZV u d (gG (oH u d))):=by
 unfold uE
 rw[xV]
 refine xZ fun i hi => ?_
 rw[List.getD_eq_getElem?_getD,ID (by omega),Option.getD_some]
 exact Qr _ hd (by omega)
def evP (u d:List Rat) (D:Rat) (n i j:Nat):Rat:=if i<n then ZV u d D i j else 0
theorem L9 {u d:List Rat} {D:Rat} {n:Nat} {G:Nat→Nat→Rat} {a b:Nat} (h:a≠n→G a b=evP u d D n a b) (h':a=n→G a b=ZV u d D n b):G a b=evP u d D (n+1) a b:=by
 unfold evP at *
 by_cases ha:a=n
 ·rw[h' ha,ha,if_pos (by omega)]
 ·rw[h ha]
  by_cases hl:a<n
  ·rw[if_pos hl,if_pos (by omega)]
  ·rw[if_neg hl,if_neg (by omega)]
theorem yN {F:Nat→Nat→Rat} {i j a b:Nat} {y:Rat} (h:a≠i):GD F i j y a b=F a b:=if_neg fun k=>h k.1
theorem rU {F:Nat→Nat→Rat} {i j a b:Nat} {y:Rat} (h:b≠j):GD F i j y a b=F a b:=if_neg fun k=>h k.2
theorem uQ {F:Nat→Nat→Rat} {i j:Nat} {y:Rat}:GD F i j y i j=y:=if_pos ⟨rfl,rfl⟩
theorem QR {u d:List Rat} {D:Rat} {n b:Nat}:evP u d D n n b=0:=if_neg (Nat.lt_irrefl _)
theorem MA {u d:List Rat} {D:Rat} {n:Nat}:ZV u d D n n=1-(u.getD n 0+N7 d n) / D:=if_pos rfl
theorem afI {u d:List Rat} {D:Rat} {n:Nat}:ZV u d D n (n+1)=u.getD n 0 / D:=by
 unfold ZV sE
 rw[if_neg (by omega),if_pos rfl]
theorem aeF {u d:List Rat} {D:Rat} {n:Nat}:ZV u d D (n+1) n=N7 d (n+1) / D:=by
 unfold ZV sE
 rw[if_neg (by omega),if_neg (by omega),if_pos rfl]
 rfl
theorem Wg {u d:List Rat} {D:Rat} {n b:Nat} (h1:b≠n) (h2:b≠n+1) (h3:n≠b+1):ZV u d D n b=0:=by
 unfold ZV sE
 rw[if_neg h1,if_neg h2,if_neg h3,Rat.div_def,Rat.zero_mul]
theorem YR {u d:List Rat} {D:Rat} {a b:Nat}:GD (GD (evP u d D 0) 0 1 (u.getD 0 0 / D)) 0 0 (1-(u.getD 0 0+N7 d 0) / D) a b=evP u d D 1 a b:=by
 refine L9 (fun h=>by rw[yN h,yN h]) fun h => ?_
 subst h
 by_cases h1:b=0
 ·subst h1
  rw[uQ,MA]
 ·rw[rU h1]
  by_cases h2:b=1
  ·subst h2
   rw[uQ]
   exact afI.symm
  ·rw[rU h2,QR,Wg h1 h2 (by omega)]
theorem akZ {u d:List Rat} {D:Rat} {m a b:Nat}:GD (GD (GD (evP u d D (m+1)) (m+1) (m+1+1) (u.getD (m+1) 0 / D)) (m+1) m (N7 d (m+1) / D)) (m+1) (m+1) (1-(u.getD (m+1) 0+N7 d (m+1)) / D) a b=evP u d D (m+1+1) a b:=by
 refine L9 (fun h=>by rw[yN h,yN h,yN h]) fun h => ?_
 subst h
 by_cases h1:b=m+1
 ·subst h1
  rw[uQ,MA]
 ·rw[rU h1]
  by_cases h3:b=m
  ·subst h3
   rw[uQ,aeF]
  ·rw[rU h3]
   by_cases h2:b=m+1+1
   ·subst h2
    rw[uQ,afI]
   ·rw[rU h2,QR,Wg h1 h2 (by omega)]
theorem aeU {u d:List Rat} {D:Rat} {m a b:Nat} (hb:b<m+1+1):GD (GD (evP u d D (m+1)) (m+1) m (N7 d (m+1) / D)) (m+1) (m+1) (1-(u.getD (m+1) 0+N7 d (m+1)) / D) a b=evP u d D (m+1+1) a b:=by
 refine L9 (fun h=>by rw[yN h,yN h]) fun h => ?_
 subst h
 by_cases h1:b=m+1
 ·subst h1
  rw[uQ,MA]
 ·rw[rU h1]
  by_cases h3:b=m
  ·subst h3
   rw[uQ,aeF]
  ·rw[rU h3,QR,Wg h1 (by omega) (by omega)]
theorem qR {H:aA} {b:Nat} {q:Rat} (h:aF H b 0=some ([aH q],3,true)):bX true 3 (.ptr b 0 0 0) H=some (aH q):=by
 rw[bM,h]
 exact iM q
theorem abX {H K:aA} {k:Nat} {q:Rat} (hK:K[k]? = some (.row 0 [aH q] 3 true)):aF (H++K) (H.length+k) 0=some ([aH q],3,true):=by
 rw[cK,List.getElem?_append_right (by omega),Nat.add_sub_cancel_left]
 exact hK
set_option maxHeartbeats 8000000 in
set_option maxRecDepth 20000 in
theorem IB (s:ES) (hu:∀x∈s.u,x.size≤1000000000) (hd:∀x∈s.d,x.size≤1000000000) (hn:s.u.length≤1000000000∧s.d.length≤1000000000):FC 25 [A3 s] (YZ (CG ((oD s).getD [])) (oD s).isSome):=by
 refine FC.J5 ⟨true,false⟩ Ii (Nat.le_of_ble_eq_true rfl) fun n => ?_
 have e1:=KS s hu hd hn
 have st:∀a b,bI n 2 (.ptr (n+1) 0 0 0) (.agg [.tree a .op,.tree b .op]) (List.replicate n bT.dead++[AF,.row 0 [.agg [.tree [] .nil,.tree [] .nil]] 2 true])=some (List.replicate n bT.dead++[AF,.row 0 [.agg [.tree a .op,.tree b .op]] 2 true]):=fun a b=>by
  have hx:aF (List.replicate n bT.dead++[AF,.row 0 [.agg [.tree [] .nil,.tree [] .nil]] 2 true]) (n+1) 0=some ([.agg [.tree [] .nil,.tree [] .nil]],2,true):=by rw[rG,iY,aQ]
  rw[bO (e:=2) hx (by exact Nat.zero_lt_one) (by omega) rfl rfl,IA]
  rfl
 have kQ:(aB (A3 s)).all bY=true:=rfl
 have qQ:∀a b,aF (List.replicate n bT.dead++[AF,.row 0 [.agg [.tree a .op,.tree b .op]] 2 true]) n 0=some ([.tree [] .nil],1,true):=fun a b=>by rw[vL,aQ]
 have wG:∀a b,aF (List.replicate n bT.dead++[AF,.row 0 [.agg [.tree a .op,.tree b .op]] 2 true]) (n+1) 0=some ([.agg [.tree a .op,.tree b .op]],2,true):=fun a b=>by rw[rG,iY,aQ]
 have fa:∀ {K:aA} {x:VV},aF K (n+1) 0=some ([x],2,true)→yU 0 (.ptr (n+1) 0 0 0) K=some (.ptr (n+1) 0 0 0):=fun h=>by rw[LB h]
 have la:∀ {K:aA} {a b:VV},aF K (n+1) 0=some ([.agg [a,b]],2,true)→bX false 1 (.ptr (n+1) 0 0 0) K=some a:=fun h=>by rw[bM,h];rfl
 cases wV:hJ s with
 |
  none =>
  have uU:oD s=none:=by unfold oD;rw[wV]
  have hln:Kr s = .dR [.agg [.tree [] .op,.tree [] .op],VB false]:=by unfold Kr;rw[wV]
  rw[hln] at e1
  obtain⟨f1,f2,f3⟩:=Qc (n:=n) (bK:=oD s) (qQ [] []) (Nat.le_refl _) uU
  simp only[tO,pV,kQ,if_true,e1,st,f1,f2,fQ,kH,Db,List.length_replicate,List.length_cons,List.length_nil,List.append_assoc,List.cons_append,List.nil_append,gB,VX,Nat.reduceEqDiff,Nat.reduceAdd,Nat.reduceLeDiff,Nat.reduceLT,Nat.reduceSub]
  exact f3
 |
  some x =>
  obtain⟨u,d⟩:=x
  obtain⟨⟨xR,Dq⟩,Uv,hub,hdb⟩:=D5 wV
  have hln:Kr s = .dR [.agg [aK aH u,aK aH d],VB true]:=by unfold Kr;rw[wV]
  rw[hln] at e1
  have fa0:=fa (wG (u.map aH) (d.map aH))
  have la0:=la (wG (u.map aH) (d.map aH))
  by_cases h12:(12:Int)≤(u.length:Int)
  ·have uU:oD s=none:=by unfold oD;rw[wV];exact if_neg (by simp only[];omega)
   obtain⟨f1,f2,f3⟩:=Qc (n:=n) (bK:=oD s) (qQ (u.map aH) (d.map aH)) (Nat.le_refl _) uU
   simp only[tO,pV,kQ,if_true,e1,st,fa0,la0,List.length_map,h12,f1,f2,fQ,kH,Db,List.length_replicate,List.length_cons,List.length_nil,List.append_assoc,List.cons_append,List.nil_append,gB,VX,Nat.reduceEqDiff,Nat.reduceAdd,Nat.reduceLeDiff,Nat.reduceLT,Nat.reduceSub]
   exact f3
  ·have uU:oD s=wY (uE (oH u d)):=by unfold oD;rw[wV];exact if_pos (by simp only[];omega)
   rw[uU]
   have Fw:=Iu (fun q hq=>(hub q hq).1) (fun q hq=>(hdb q hq).1)
   have RY:=PO xR (fun q hq=>(hub q hq).2) (fun q hq=>(hdb q hq).2)
   have wl:IntKind.i64.wrap ((u.length:Int)+1)=((u.length+1:Nat):Int):=wrapN (u.length+1) (by omega) (by omega)
   simp only[tO,pV,kQ,if_true,e1,st,fa0,la0,List.length_map,h12,wl,fQ,kH,Db,List.length_replicate,List.length_cons,List.length_nil,List.append_assoc,List.cons_append,List.nil_append,gB,VX,Nat.reduceEqDiff,Nat.reduceAdd,Nat.reduceLeDiff,Nat.reduceLT,Nat.reduceSub]
   have qQ:=qQ (u.map aH) (d.map aH)
   have wG:aF (List.replicate n bT.dead++[AF,.row 0 [.agg [.tree (u.map aH) .op,.tree (d.map aH) .op]] 2 true]) (n+1) 0=some ([.agg [aK aH u,aK aH d]],2,true):=wG (u.map aH) (d.map aH)
   have hlen:(List.replicate n bT.dead++[AF,.row 0 [.agg [.tree (u.map aH) .op,.tree (d.map aH) .op]] 2 true]).length=n+2:=by simp
   generalize List.replicate n bT.dead++[AF,.row 0 [.agg [.tree (u.map aH) .op,.tree (d.map aH) .op]] 2 true]=H at *
   refine oU rfl (Kw (H:=H) (u.length+1) (by omega) (by omega)) fun z L hz => ?_
   rw[TD] at hz
   obtain⟨b,g,c,rfl,hc,hT⟩:=hz.tb
   have qQ:=bN (L:=L) qQ
   have wG:=bN (L:=L) wG
   rw[hlen] at hT
   have CJ:n+2≤(H++L).length:=by rw[List.length_append];omega
   generalize H++L=H0 at *
   have eN:=Ac
   have sm:=YP (lo:=n) (H:=H0) (q:=0) (by omega)
   simp only[eN,sm,gB,VX,Nat.reduceEqDiff,Nat.reduceAdd,Nat.reduceLeDiff,Nat.reduceLT,Nat.reduceSub]
   have hT:=hT.pre (List.prefix_append H0 [.row 0 [aH 0] 3 true])
   have qQ:=bN (L:=[.row 0 [aH 0] 3 true]) qQ
   have wG:=bN (L:=[.row 0 [aH 0] 3 true]) wG
   have asK:∀i,bP (u.getD i 0)≤665:=GM (P:=fun q=>bP q≤665) (fun q hq=>(hub q hq).1) (by rw[uL];decide)
   have auM:∀i,bP (N7 d i)≤665:=fun i=>by
    cases i with
    | zero=>show bP 0≤665;rw[uL];decide
    | succ i=>exact GM (P:=fun q=>bP q≤665) (fun q hq=>(hdb q hq).1) (by rw[uL];decide) i
   have hbm:=xX (n:=12) (B:=665) (m:=oH u d) fun r hr=>⟨by have:=(Fw r hr).1;omega,(Fw r hr).2⟩
   refine aU (fun(i:Nat) ρ H1=>i≤u.length+1∧aF H1 n 0=some ([.tree [] .nil],1,true)∧aF H1 (n+1) 0=some ([.agg [aK aH u,aK aH d]],2,true)∧Tb aH (n+2) H0.length (u.length+1) (u.length+1) b g (fun _ _=>0) H1∧aF H1 H0.length 0=some ([aH (jM (oH u d) i)],3,true)∧ρ 2 = .ptr n 0 0 0∧ρ 4 = .ptr (n+1) 0 0 0∧ρ 6 = .ref b g 0 (u.length+1) c∧ρ 7 = .ptr H0.length 0 0 0∧ρ 8=VI i) (fun i=>u.length+1-i) 0
    ⟨Nat.zero_le _,qQ,wG,hT,fW,by (repeat' apply And.intro)<;>first | rfl | trivial | assumption⟩ ?_
   clear qQ wG hT
   rintro i ρ H1 ⟨hi,qQ,wG,hT,NT,g2,g4,g6,g7,g8⟩
   have xR:=fE NT
   by_cases cS:(i:Int)<((u.length+1:Nat):Int)
   ·have wi:IntKind.i64.wrap ((i:Int)+1)=((i+1:Nat):Int):=wrapN (i+1) (by omega) (by omega)
    simp only[sP,g2,g4,g6,g7,g8,hT.len,cS,gB,VX,Nat.reduceEqDiff,Nat.reduceAdd,Nat.reduceLeDiff,Nat.reduceLT,Nat.reduceSub]
    refine oU rfl (CQ (H:=H1) u d i wG (by omega) (by omega) Uv (by omega)) fun x L1 hx => ?_
    subst hx
    have qQ:=bN (L:=L1) qQ
    have wG:=bN (L:=L1) wG
    have hT:=hT.pre (List.prefix_append H1 L1)
    have NT:=bN (L:=L1) NT
    have Dq:H1.length≤(H1++L1).length:=by rw[List.length_append];omega
    generalize H1++L1=H2 at *
    have hp:=asK i
    have hq:=auM i
    have C2:=AK (ID (u:=u) (d:=d) (by omega:i≤u.length))
    rw[Zy Uv (by omega)] at C2
    have hbi:=hbm i
    generalize u.getD i 0=p at *
    generalize N7 d i=q at *
    have hpq:=E2 p q
    have s9:bI n 3 (.ptr H2.length 0 0 0) (aH p) (H2++[cell0,cell0])=some (H2++[.row 0 [aH p] 3 true,cell0]):=pF (k:=0) (by omega) rfl
    have s10:bI n 3 (.ptr (H2.length+1) 0 0 0) (aH q) (H2++[.row 0 [aH p] 3 true,cell0])=some (H2++[.row 0 [aH p] 3 true,.row 0 [aH q] 3 true]):=pF (by omega) rfl
    have l9:bX true 3 (.ptr H2.length 0 0 0) (H2++[.row 0 [aH p] 3 true,.row 0 [aH q] 3 true])=some (aH p):=Cr (k:=0) rfl
    have l10:bX true 3 (.ptr (H2.length+1) 0 0 0) (H2++[.row 0 [aH p] 3 true,.row 0 [aH q] 3 true])=some (aH q):=Cr rfl
    have s11:bI n 3 (.ptr (H2.length+2) 0 0 0) (aH (p+q)) (H2++[.row 0 [aH p] 3 true,.row 0 [aH q] 3 true,cell0])=some (H2++[.row 0 [aH p] 3 true,.row 0 [aH q] 3 true,.row 0 [aH (p+q)] 3 true]):=pF (by omega) rfl
    have l11:bX true 3 (.ptr (H2.length+2) 0 0 0) (H2++[.row 0 [aH p] 3 true,.row 0 [aH q] 3 true,.row 0 [aH (p+q)] 3 true])=some (aH (p+q)):=Cr rfl
    have KT:=bN (L:=[.row 0 [aH p] 3 true,.row 0 [aH q] 3 true,.row 0 [aH (p+q)] 3 true]) NT
    have l7:=qR KT
    have c1:=AT p q (by omega) (by omega)
    have c2:=M4 (jM (oH u d) i) (p+q) (by omega) (by omega)
    by_cases hc:jM (oH u d) i<p+q
    ·rw[decide_eq_true hc] at c2
     rw[if_pos hc] at C2
     have s7:=bO (lo:=n) (v:=aH (p+q)) (j:=0) KT (by exact Nat.zero_lt_one) (by omega) rfl rfl
     rw[List.set_cons_zero] at s7
     simp only[g7,g8,s9,s10,l9,l10,s11,l11,l7,s7,c1,c2,wi,List.append_assoc,List.cons_append,List.nil_append,List.length_append,List.length_cons,List.length_nil,Nat.zero_add,gB,VX,Nat.reduceEqDiff,Nat.reduceAdd,Nat.reduceLeDiff,Nat.reduceLT,Nat.reduceSub]
     exact⟨i+1,by omega,by omega,bF (by omega) (bN qQ),bF (by omega) (bN wG),(hT.pre (List.prefix_append _ _)).cG (dD.set (by omega)),by rw[C2];exact cJ KT,by (repeat' apply And.intro)<;>first | rfl | trivial | assumption⟩
    ·rw[decide_eq_false hc] at c2
     rw[if_neg hc] at C2
     simp only[g7,g8,s9,s10,l9,l10,s11,l11,l7,c1,c2,wi,List.append_assoc,List.cons_append,List.nil_append,List.length_append,List.length_cons,List.length_nil,Nat.zero_add,gB,VX,Nat.reduceEqDiff,Nat.reduceAdd,Nat.reduceLeDiff,Nat.reduceLT,Nat.reduceSub]
     exact⟨i+1,by omega,by omega,bN qQ,bN wG,hT.pre (List.prefix_append _ _),by rw[C2];exact KT,by (repeat' apply And.intro)<;>first | rfl | trivial | assumption⟩
   ·have mT:i=u.length+1:=by omega
    subst mT
    have NT:aF H1 H0.length 0=some ([aH (gG (oH u d))],3,true):=by rw[gG,xV];exact NT
    simp only[sP,g2,g4,g6,g7,g8,hT.len,cS,gB,VX,Nat.reduceEqDiff,Nat.reduceAdd,Nat.reduceLeDiff,Nat.reduceLT,Nat.reduceSub]
    have Z6:=hbm (oH u d).length
    rw[←gG] at Z6
    have hev:=V5 Uv
    rw[hev]
    generalize gG (oH u d)=D at *
    refine aU (fun(i:Nat) ρ H1=>i≤u.length+1∧aF H1 n 0=some ([.tree [] .nil],1,true)∧aF H1 (n+1) 0=some ([.agg [aK aH u,aK aH d]],2,true)∧Tb aH (n+2) H0.length (u.length+1) (u.length+1) b g (evP u d D i) H1∧aF H1 H0.length 0=some ([aH D],3,true)∧ρ 2 = .ptr n 0 0 0∧ρ 4 = .ptr (n+1) 0 0 0∧ρ 6 = .ref b g 0 (u.length+1) c∧ρ 7 = .ptr H0.length 0 0 0∧ρ 12=VI i) (fun i=>u.length+1-i) 0
     ⟨Nat.zero_le _,qQ,wG,hT.congr fun a b _ _=>(if_neg (Nat.not_lt_zero a)).symm,NT,by (repeat' apply And.intro)<;>first | rfl | trivial | assumption⟩ ?_
    clear qQ wG hT NT g2 g4 g6 g7 g8 xR cS hi
    rintro i ρ H1 ⟨hi,qQ,wG,hT,NT,g2,g4,g6,g7,g12⟩
    have xR:=fE NT
    by_cases cS:(i:Int)<((u.length+1:Nat):Int)
    ·have wi:IntKind.i64.wrap ((i:Int)+1)=((i+1:Nat):Int):=wrapN (i+1) (by omega) (by omega)
     simp only[tD,g2,g4,g6,g7,g12,hT.len,cS,gB,VX,Nat.reduceEqDiff,Nat.reduceAdd,Nat.reduceLeDiff,Nat.reduceLT,Nat.reduceSub]
     refine oU rfl (CQ (H:=H1) u d i wG (by omega) (by omega) Uv (by omega)) fun x L1 hx => ?_
     subst hx
     have qQ:=bN (L:=L1) qQ
     have wG:=bN (L:=L1) wG
     have hT:=hT.pre (List.prefix_append H1 L1)
     have NT:=bN (L:=L1) NT
     have Dq:H1.length≤(H1++L1).length:=by rw[List.length_append];omega
     generalize H1++L1=H2 at *
     have hp:=asK i
     have hq:=auM i
     have hpe:u.getD i 0=u.getD i 0:=rfl
     have RA:N7 d i=N7 d i:=rfl
     generalize amY:u.getD i 0=p at hp hpe ⊢
     generalize apA:N7 d i=q at hq RA ⊢
     have hpq:=E2 p q
     have hpD:=EY p D
     have hqD:=EY q D
     have hsD:=EY (p+q) D
     have s13:bI n 3 (.ptr H2.length 0 0 0) (aH p) (H2++[cell0,cell0])=some (H2++[.row 0 [aH p] 3 true,cell0]):=pF (k:=0) (by omega) rfl
     have s14:bI n 3 (.ptr (H2.length+1) 0 0 0) (aH q) (H2++[.row 0 [aH p] 3 true,cell0])=some (H2++[.row 0 [aH p] 3 true,.row 0 [aH q] 3 true]):=pF (by omega) rfl
     have Vy:aF (H2++[.row 0 [aH p] 3 true,.row 0 [aH q] 3 true]) H2.length 0=some ([aH p],3,true):=abX (k:=0) rfl
     have r14:aF (H2++[.row 0 [aH p] 3 true,.row 0 [aH q] 3 true]) (H2.length+1) 0=some ([aH q],3,true):=abX rfl
     have r7:=bN (L:=[.row 0 [aH p] 3 true,.row 0 [aH q] 3 true]) NT
     have qQ:=bN (L:=[.row 0 [aH p] 3 true,.row 0 [aH q] 3 true]) qQ
     have wG:=bN (L:=[.row 0 [aH p] 3 true,.row 0 [aH q] 3 true]) wG
     have hT:=hT.pre (List.prefix_append H2 [.row 0 [aH p] 3 true,.row 0 [aH q] 3 true])
     have RB:=N5
     have c1:=AT p q (by omega) (by omega)
     have c2:=zI p D RY (by omega) (by omega)
     have c3:=zI q D RY (by omega) (by omega)
     have c4:=zI (p+q) D RY (by omega) (by omega)
     have c5:=KB 1 ((p+q) / D) (by rw[I2];decide) (by omega)
     have hll:H2.length+2=(H2++[bT.row 0 [aH p] 3 true,.row 0 [aH q] 3 true]).length:=by simp
     simp only[s13,s14,List.append_assoc,List.cons_append,List.nil_append,List.length_append,List.length_cons,List.length_nil,Nat.zero_add,gB,VX,Nat.reduceEqDiff,Nat.reduceAdd,Nat.reduceLeDiff,Nat.reduceLT,Nat.reduceSub]
     generalize H2++[bT.row 0 [aH p] 3 true,.row 0 [aH q] 3 true]=H3 at *
     have b1:=hT.addr (c:=c) (i:=i) (by omega)
     by_cases h1:((i+1:Nat):Int)<((u.length+1:Nat):Int)
     ·obtain⟨rb,rg,rc,d1,d2,_,d3⟩:=hT.spot (i:=i) (j:=i+1) (by omega) (by omega) qF zS
      obtain⟨H4,d4,o4,hT4,k4⟩:=d3 n (p / D) (by omega)
      have q13:=o4.2 _ _ _ (by omega) Vy
      have q14:=o4.2 _ _ _ (by omega) r14
      have q7:=o4.2 _ _ _ (by omega) r7
      have q0:=o4.2 _ _ _ (by omega) qQ
      have qx:=o4.2 _ _ _ (by omega) wG
      have b4:=hT4.addr (c:=c) (i:=i) (by omega)
      by_cases h2:(0:Int)<(i:Int)
      ·obtain⟨m,rfl⟩:∃m,i=m+1:=⟨i-1,by omega⟩
       have wm:IntKind.i64.wrap (((m+1:Nat):Int)-1)=(m:Int):=by rw[show ((m+1:Nat):Int)-1=(m:Int) by omega];exact wrap64 (by omega) (by omega)
       obtain⟨rb5,rg5,rc5,f1,f2,_,f3⟩:=hT4.spot (i:=m+1) (j:=m) (by omega) (by omega) qF zS
       obtain⟨H5,f4,o5,hT5,k5⟩:=f3 n (q / D) (by omega)
       have b5:=hT5.addr (c:=c) (i:=m+1) (by omega)
       have p13:=o5.2 _ _ _ (by omega) q13
       have p14:=o5.2 _ _ _ (by omega) q14
       have p7:=o5.2 _ _ _ (by omega) q7
       obtain⟨rb6,rg6,rc6,t1,t2,_,t3⟩:=hT5.spot (i:=m+1) (j:=m+1) (by omega) (by omega) qF zS
       obtain⟨H6,t4,o6,hT6,k6⟩:=t3 n (1-(p+q) / D) (by omega)
       simp only[g6,g7,g12,hT.len,h1,h2,wi,wm,b1,d1,d2,d4,b4,f1,f2,f4,b5,t1,t2,t4,qR Vy,qR r14,qR r7,qR q14,qR q7,qR p13,qR p14,qR p7,RB,c1,c2,c3,c4,c5,gB,VX,Nat.reduceEqDiff,Nat.reduceAdd,Nat.reduceLeDiff,Nat.reduceLT,Nat.reduceSub]
       exact⟨m+1+1,by omega,by omega,o6.2 _ _ _ (by omega) (o5.2 _ _ _ (by omega) q0),o6.2 _ _ _ (by omega) (o5.2 _ _ _ (by omega) qx),hT6.congr fun a b _ _=>by rw[←amY,←apA];exact akZ,o6.2 _ _ _ (by omega) p7,by (repeat' apply And.intro)<;>first | rfl | trivial | assumption⟩
      ·have hi0:i=0:=by omega
       subst hi0
       obtain⟨rb6,rg6,rc6,t1,t2,_,t3⟩:=hT4.spot (i:=0) (j:=0) (by omega) (by omega) qF zS
       obtain⟨H6,t4,o6,hT6,k6⟩:=t3 n (1-(p+q) / D) (by omega)
       simp only[g6,g7,g12,hT.len,h1,h2,wi,b1,d1,d2,d4,b4,t1,t2,t4,qR Vy,qR r14,qR r7,qR q13,qR q14,qR q7,RB,c1,c2,c4,c5,gB,VX,Nat.reduceEqDiff,Nat.reduceAdd,Nat.reduceLeDiff,Nat.reduceLT,Nat.reduceSub]
       exact⟨0+1,by omega,by omega,o6.2 _ _ _ (by omega) q0,o6.2 _ _ _ (by omega) qx,hT6.congr fun a b _ _=>by rw[←amY,←apA];exact YR,o6.2 _ _ _ (by omega) q7,by (repeat' apply And.intro)<;>first | rfl | trivial | assumption⟩
     ·obtain⟨m,rfl⟩:∃m,i=m+1:=⟨i-1,by omega⟩
      have h2:(0:Int)<((m+1:Nat):Int):=by omega
      have wm:IntKind.i64.wrap (((m+1:Nat):Int)-1)=(m:Int):=by rw[show ((m+1:Nat):Int)-1=(m:Int) by omega];exact wrap64 (by omega) (by omega)
      obtain⟨rb5,rg5,rc5,f1,f2,_,f3⟩:=hT.spot (i:=m+1) (j:=m) (by omega) (by omega) qF zS
      obtain⟨H5,f4,o5,hT5,k5⟩:=f3 n (q / D) (by omega)
      have b5:=hT5.addr (c:=c) (i:=m+1) (by omega)
      have p13:=o5.2 _ _ _ (by omega) Vy
      have p14:=o5.2 _ _ _ (by omega) r14
      have p7:=o5.2 _ _ _ (by omega) r7
      obtain⟨rb6,rg6,rc6,t1,t2,_,t3⟩:=hT5.spot (i:=m+1) (j:=m+1) (by omega) (by omega) qF zS
      obtain⟨H6,t4,o6,hT6,k6⟩:=t3 n (1-(p+q) / D) (by omega)
      simp only[g6,g7,g12,hT.len,h1,h2,wi,wm,b1,f1,f2,f4,b5,t1,t2,t4,qR Vy,qR r14,qR r7,qR p13,qR p14,qR p7,RB,c1,c3,c4,c5,gB,VX,Nat.reduceEqDiff,Nat.reduceAdd,Nat.reduceLeDiff,Nat.reduceLT,Nat.reduceSub]
      exact⟨m+1+1,by omega,by omega,o6.2 _ _ _ (by omega) (o5.2 _ _ _ (by omega) qQ),o6.2 _ _ _ (by omega) (o5.2 _ _ _ (by omega) wG),hT6.congr fun a b _ hb=>by rw[←amY,←apA];exact aeU (by omega),o6.2 _ _ _ (by omega) p7,by (repeat' apply And.intro)<;>first | rfl | trivial | assumption⟩
    ·have mT:i=u.length+1:=by omega
     subst mT
     simp only[tD,g2,g6,g12,hT.len,cS,gB,VX,Nat.reduceEqDiff,Nat.reduceAdd,Nat.reduceLeDiff,Nat.reduceLT,Nat.reduceSub]
     have hT:=hT.congr (G:=ZV u d D) fun a b ha _=>if_pos ha
     have W3:=hT.fz (d:=5) hc yI
     obtain⟨el,eb⟩:=Iq (xV (u:=u) (d:=d)) (B:=665) Fw (by omega) (by omega)
     rw[hev] at el eb
     refine WD (KK (Uq (u.length+1) (u.length+1) (ZV u d D)) (by omega) (fun r hr=>⟨by have:=(eb r hr).1;omega,fun q hq=>by have:=(eb r hr).2 q hq;omega⟩)) rfl (Y8 W3) qQ (Nat.le_refl _) fun v H2 H3 t1 t2 t3 => ?_
     simp only[g2,t1,t2,gB,VX,Nat.reduceEqDiff,Nat.reduceAdd,Nat.reduceLeDiff,Nat.reduceLT,Nat.reduceSub]
     exact t3
end Go.PM
namespace Go.PM
def lX:aD:=(LS [LO 1 (.box (LT 0)),LO 2 (.mv LF)] (LS [LO 3 (.mv (LI 1000000))] (LS [LO 14 (.load true 2 (LT 1)),LM 15 3,LO 16 (.call 24 [(LT 14),(LT 15)]),LM 3 16] (.seq (LS [LM 17 3,LO 18 (.bin .lss (LT 17) (LI 0))] (.cond (LT 18) (LS [LO 2 (.mv LG)] .ret) .skip)) (LS [LO 20 (.load true 2 (LT 1)),LO 21 (.call 26 [(LT 20),LF]),LO 22 (.call 25 [(LT 21)]),LM 19 22,LO 23 (LX 19 0),LO 24 (LX 19 1),LO 4 (.new [(.slice none 0 0)]),LN (.store 1 (LT 4) (LT 23)),LM 5 24] (LS [LO 25 (.load true 2 (LT 1)),LO 26 (.call 26 [(LT 25),LF]),LO 6 (.new [(.slice none 0 0),(.slice none 0 0)]),LN (.store 2 (LT 6) (LT 26))] (LS [LO 28 (.load true 2 (LT 6)),LO 29 (.call 27 [(LT 28)]),LM 27 29,LO 30 (LX 27 0),LO 31 (LX 27 1),LO 7 (.new [(.slice none 0 0)]),LN (.store 1 (LT 7) (LT 30)),LM 8 31] (.seq (LS [LO 32 (.load true 1 (LT 7)),LO 33 (.load true 1 (LT 4)),LO 34 (.call 19 [(LT 32),(LT 33)]),LO 35 (.un .not (LT 34)),LM 36 35,LZ 36 37 (.mv (LT 8)),LZ 36 38 (.mv (LT 5)),LZ 36 39 (.eqb true (LT 37) (LT 38)),LO 40 (.pick (LT 36) LG (LT 39))] (.cond (LT 40) (LS [LO 2 (.mv LF)] .ret) .skip)) (.seq (LS [LO 41 (.load true 2 (LT 6)),LO 42 (.load true 2 (LT 1)),LQ 43 (.call 26 [(LT 42),LF]),LQ 44 (.call 28 [(LT 41),(LT 43)]),LO 45 (.un .not (LT 44))] (.cond (LT 45) (LS [LO 2 (.mv LF)] .ret) .skip)) (LS [LO 9 (.mv (LI 101))] (LS [LO 46 (.load true 2 (LT 6)),LM 47 9,LO 48 (.call 29 [(LT 46),(LT 47)]),LM 9 48] (.seq (LS [LM 49 9,LO 50 (.bin .lss (LT 49) (LI 0)),LM 51 50,LZ 51 52 (.load true 1 (LT 7)),LZ 51 53 (.load true 1 (LT 4)),LZ 51 54 (.call 19 [(LT 52),(LT 53)]),LZ 51 55 (.un .not (LT 54)),LO 56 (.pick (LT 51) LG (LT 55)),LM 57 56,LZ 57 58 (.mv (LT 8)),LZ 57 59 (.mv (LT 5)),LZ 57 60 (.eqb true (LT 58) (LT 59)),LO 61 (.pick (LT 57) LG (LT 60))] (.cond (LT 61) (LS [LO 2 (.mv LF)] .ret) .skip)) (LS [LO 10 (.mv (LI 101))] (LS [LO 62 (.load true 1 (LT 7)),LM 63 10,LO 64 (.call 22 [(LT 62),(LT 63)]),LM 10 64] (LS [LO 11 (.mv (LI 101))] (LS [LO 65 (.load true 1 (LT 7)),LM 66 11,LO 67 (.call 23 [(LT 65),(LT 66)]),LM 11 67] (.seq (LS [LM 68 11,LO 69 (.bin .lss (LT 68) (LI 0))] (.cond (LT 69) (LS [LO 2 (.mv LF)] .ret) .skip)) (.seq (LS [LM 70 11,LM 71 10,LO 72 (.bin .neq (LT 70) (LT 71))] (.cond (LT 72) (LS [LO 2 (.mv LF)] .ret) .skip)) (LS [LO 74 (.load true 2 (LT 1)),LO 75 (.call 26 [(LT 74),LG]),LO 76 (.call 27 [(LT 75)]),LM 73 76,LO 77 (LX 73 0),LO 78 (LX 73 1),LO 12 (.new [(.slice none 0 0)]),LN (.store 1 (LT 12) (LT 77)),LM 13 78] (.seq (LS [LO 79 (.load true 1 (LT 12)),LO 80 (.load true 1 (LT 4)),LO 81 (.call 19 [(LT 79),(LT 80)]),LO 82 (.un .not (LT 81)),LM 83 82,LZ 83 84 (.mv (LT 13)),LZ 83 85 (.mv (LT 5)),LZ 83 86 (.eqb true (LT 84) (LT 85)),LO 87 (.pick (LT 83) LG (LT 86))] (.cond (LT 87) (LS [LO 2 (.mv LF)] .ret) .skip)) (LS [LO 11 (.mv (LI 101))] (LS [LO 88 (.load true 1 (LT 7)),LM 89 11,LO 90 (.call 23 [(LT 88),(LT 89)]),LM 11 90] (.seq (LS [LM 91 11,LO 92 (.bin .lss (LT 91) (LI 0))] (.cond (LT 92) (LS [LO 2 (.mv LF)] .ret) .skip)) (.seq (LS [LM 93 11,LM 94 10,LO 95 (.bin .neq (LT 93) (LT 94))] (.cond (LT 95) (LS [LO 2 (.mv LF)] .ret) .skip)) (LS [LO 2 (.mv LG)] .ret)))))))))))))))))))))))))
def oA:aT:=⟨96,[(.tmp 2)],lX⟩
theorem BU:fM 4=some oA:=by kernel_rfl
end Go.PM
namespace Go.PM
structure XF (s:K3):Prop where
 b:s.b.length≤100
 g:s.g.length≤100
 r:∀x∈s.g,x.length≤100
 e:s.e.length≤100
theorem CE {β:Type}:∀ {xs:List (List β)} {n:Nat},(∀x∈xs,x.length≤n)→dE xs≤xs.length*n
 | [],n,_=>by simp[dE]
 |
  x::xs,n,h=>by
  have h1:=h x List.mem_cons_self
  have h2:=CE (xs:=xs) (n:=n) fun y hy=>h y (List.mem_cons_of_mem _ hy)
  have e:dE (x::xs)=x.length+dE xs:=by simp[dE]
  rw[e,List.length_cons,Nat.add_mul,Nat.one_mul]
  omega
theorem XF.n {s:K3} (h:XF s):svN s≤10200:=by
 have h1:=CE h.r
 have h2:s.g.length*100≤100*100:=Nat.mul_le_mul_right _ h.g
 have h3:=h.b
 have h4:=h.e
 unfold svN
 omega
def Ag3 (v:VV):Prop:=∃a b c,v = .agg [a,b,c]∧bY a=true∧bY b=true∧bY c=true
theorem WX.ag3 {s:K3} {lo hi:Nat} {H:aA} {v:VV} (h:WX s lo hi H v):Ag3 v:=by
 obtain⟨a,b,c,h1,h2,h3,h4,_⟩:=h.own (n:=0) (Nat.zero_le _)
 exact⟨a,b,c,h1,h2,h3,h4⟩
theorem SvS.ag3 {s:K3} {lo hi:Nat} {H:aA} {v:VV} (h:SvS s lo hi H v):Ag3 v:=by
 obtain⟨⟨a,b,c,h1,h2,h3,h4,_⟩,_⟩:=h
 exact⟨a,b,c,h1,h2,h3,h4⟩
theorem Vx {m:List (List Rat)} {y:List (List ByteArray)} {B:Nat} (h:wY m=some y) (hB:∀r∈m,r.length≤B):y.length=m.length∧∀x∈y,x.length≤B :=
 ⟨rA h,fun x hx=>by
  have key:∀ {m:List (List Rat)} {y:List (List ByteArray)},m.mapM C8=some y→(∀r∈m,r.length≤B)→∀x∈y,x.length≤B:=by
   intro m
   induction m with
   | nil=>intro y h _ x hx;cases h;cases hx
   |
    cons r m ih =>
    intro y h hB x hx
    obtain⟨z,zs,h1,h2,rfl⟩:=mA h
    rcases List.mem_cons.1 hx with rfl | hx
    ·rw[Zx h1];exact hB r List.mem_cons_self
    ·exact ih h2 (fun r hr=>hB r (List.mem_cons_of_mem _ hr)) x hx
  exact key h hB x hx⟩
end Go.PM
namespace Go.PM
open Go.Lib
theorem Z4.wide {α:Type} {f:α→VV} {e:Nat} {o:Option (List α)}:∀ {lo hi kE oQ:Nat} {H:aA} {v:VV},Z4 f e o lo hi H v→kE≤lo→hi≤oQ→Z4 f e o kE oQ H v:=by
 intro lo hi kE oQ H v h hl hh
 cases o with
 | none=>exact h
 |
  some ys =>
  obtain⟨b,g,c,h1,h2,h3⟩:=h
  exact⟨b,g,c,by omega,by omega,h3⟩
end Go.PM
namespace Go.PM
structure Ev (s:List (List ByteArray)):Prop where
 g:s.length≤100
 r:∀x∈s,x.length≤100
theorem Ev.n {s:List (List ByteArray)} (h:Ev s):dE s≤10000:=by
 have h1:=CE h.r
 have h2:s.length*100≤100*100:=Nat.mul_le_mul_right _ h.g
 omega
theorem agC {lo:Nat} {s:List (List ByteArray)} {H:aA} {v w:VV} {K:VV→aA→Prop} (hs:Ev s) (hv:PM.fz depth H v=some (chV s)) (hw:PM.fz depth H w=some (chV s)):cV 19 [v,w] lo H K=K (VB true) H:=by
 have h:=L6 s s (by have:=hs.g;omega) (fun x hx=>by have:=hs.r x hx;omega)
 rw[decide_eq_true rfl] at h
 exact TC.flat h rfl (rO (BO _) (BO _)) (fz2 hv hw) rfl _ _
theorem Xz {lo:Nat} {s:List (List ByteArray)} {H:aA} {v:VV} {K:VV→aA→Prop} (hs:Ev s) (hv:PM.fz depth H v=some (chV (rV 101 s))):cV 23 [v,VI 101] lo H K=K (VI (101+dE s)) H:=by
 have h:=IL 101 s (by omega) (by have:=hs.g;omega) (by have:=hs.n;omega)
 exact TC.flat h rfl (rO (BO _) rfl) (fz2 hv (aL rfl)) rfl _ _
def Ag1 (v:VV):Prop:=∃a,v = .agg [a]∧bY a=true
theorem CG.ag3 {s:List (List ByteArray)} {lo hi:Nat} {H:aA} {v:VV} (h:CG s lo hi H v):Ag1 v:=by
 obtain⟨c,h1,h2,_,_⟩:=h.own (n:=0) (Nat.zero_le _)
 exact⟨c,h1,h2⟩
theorem Wq {lo:Nat} {H:aA} {v:VV} (h:Ag1 v) (dP:lo≤H.length):bI lo 1 (.ptr H.length 0 0 0) v (H++[.row 0 [.tree [] .nil] 1 true])=some (H++[.row 0 [v] 1 true]):=by
 obtain⟨a,rfl,h1⟩:=h
 rw[bO (e:=1) (g:=0) (j:=0) fW (by exact Nat.zero_lt_one) dP rfl (by simp[aB,h1]),D2]
 rfl
theorem JJ {b:Nat} {H:aA} {v:VV} (h:Ag1 v) (hr:aF H b 0=some ([v],1,true)):bX true 1 (.ptr b 0 0 0) H=some v:=by
 obtain⟨a,rfl,_⟩:=h
 rw[bM,hr]
 rfl
end Go.PM
namespace Go.PM
theorem lnP (s:ES):aY (A3 s)=true:=by
 show aP [fH s.u,fH s.d]=true
 exact rO (fB _) (fB _)
theorem Xo {s:ES}:(aB (A3 s)).all bY=true:=rfl
def qP (n:Nat) (H:aA) (bare:Bool) (s:ES) (r:VV):Prop:=∃c0 c1,r = .agg [c0,c1]∧tK n H bare s.u c0∧tK n H bare s.d c1∧∀b0 g0 o0 n0 k0 b1 g1 o1 n1 k1,c0 = .ref b0 g0 o0 n0 k0→c1 = .ref b1 g1 o1 n1 k1→b0<b1
theorem qP.cG {n:Nat} {H H':aA} {bare:Bool} {s:ES} {c:VV} (h:qP n H bare s c) (hk:∀b g x,n<b→aF H b g=some x→aF H' b g=some x):qP n H' bare s c:=by
 obtain⟨c0,c1,rfl,h0,h1,h2⟩:=h
 exact⟨c0,c1,rfl,h0.cG hk,h1.cG hk,h2⟩
theorem qP.pre {n:Nat} {H H':aA} {bare:Bool} {s:ES} {c:VV} (h:qP n H bare s c) (hh:H <+: H'):qP n H' bare s c:=h.cG fun _ _ _ _=>cA hh
theorem qP.fz {n:Nat} {H:aA} {bare:Bool} {s:ES} {c:VV} (h:qP n H bare s c):PM.fz depth H c=some (A3 s):=by
 obtain⟨c0,c1,rfl,h0,h1,_⟩:=h
 cases hp:aY (.agg [c0,c1]) with
 |
  true =>
  simp only[aY,aP,Bool.and_eq_true] at hp
  have f0:=h0.fz (d:=0)
  have f1:=h1.fz (d:=0)
  rw[aM hp.1] at f0
  rw[aM hp.2.1] at f1
  injection f0 with f0
  injection f1 with f1
  subst f0 f1
  exact aL (lnP s)
 |
  false =>
  show PM.fz (7+1) H _=_
  unfold PM.fz
  simp only[hp,Bool.false_eq_true,if_false]
  rw[List.mapM_cons,h0.fz (d:=5),List.mapM_cons,h1.fz (d:=5)]
  rfl
theorem RS {lo b:Nat} {H:aA} {c x y:VV} (k:Nat) (h:aF H b 0=some ([.agg [x,y]],2,true)) (dP:lo≤b) (hc:aB c=[c]) (hs:bY c=true) (hk:k<2) :
  bI lo 1 (.ptr b 0 0 k) c H=some (H.set b (.row 0 [.agg ([x,y].set k c)] 2 true)):=by
 rw[DL,h]
 simp only[List.getElem?_cons_zero,hc,List.length_cons,List.length_nil,List.all_cons,List.all_nil,hs,List.set_cons_zero]
 rw[if_pos ⟨by decide,dP,by decide⟩,if_neg (by omega),if_pos ⟨by decide,by omega⟩]
 match k,hk with
 | 0,_=>rfl
 | 1,_=>rfl
theorem arT {n m lo:Nat} {x:List ByteArray} {bare:Bool} {H:aA} {K:VV→aA→Prop} (hx:x.length≤1000000000) (hn:n≤H.length) (hm:m<H.length) (hO:zM n (m+1) H)
  (hk:∀c H',H <+: H'→zM n (m+1) H'→tK m H' bare x c→eG n c=true→(∀b g o k l,c = .ref b g o k l→H.length≤b)→K c H'):cV 34 [fH x,.sc (.bool bare)] lo H K:=by
 refine(Bp x bare hx).TP rfl (mapM_pure (n:=7) (by simp[aP,fB];rfl)) ?_
 rintro r L hR hv hL
 rcases hR with⟨hb,rfl,rfl,rfl⟩ | ⟨rfl,rfl⟩
 ·exact hk _ _ (List.prefix_append _ _) (hO.app hn hL) (.inl ⟨hb,rfl,rfl⟩) (BF hn _ hv) fun b g o k l h=>by cases h
 ·exact hk _ _ (List.prefix_append _ _) (hO.app hn hL) (.inr ⟨_,hm,rfl,DY (i:=0) rfl⟩) (BF hn _ hv) fun b g o k l h=>by cases h;exact Nat.le_refl _
set_option maxHeartbeats 1000000 in
theorem Ow (s:ES) (bare:Bool) (hb:s.u.length≤1000000000) (he:s.d.length≤1000000000):FC 26 [A3 s,.sc (.bool bare)] fun n r L=>qP n (List.replicate n .dead++L) bare s r:=by
 refine FC.J5 ⟨true,false⟩ Ot (Nat.le_of_ble_eq_true rfl) fun n => ?_
 simp only[J8,FA,A3,VX,Nat.reduceEqDiff,Nat.reduceAdd,iJ,Nat.reduceLeDiff,Nat.reduceLT,Nat.reduceSub,vL,rG,A7,IA,Db,List.append_assoc,Nat.le_add_right,aiC,akM,List.length_replicate]
 refine ayY (n:=n) (m:=n+1) hb (by simp) (by simp) ?_ fun c0 H1 p1 O1 s0 w0 => ?_
 ·intro b g es e w hb hr
  rw[List.getElem?_eq_none (by simp;omega)] at hr
  cases hr
 have xR:n+2≤H1.length:=by have:=p1.length_le;simpa using this
 have a1:aF H1 (n+1) 0=some ([.agg [.tree [] .nil,.tree [] .nil]],2,true):=cA p1 (by rw[rG];rfl)
 have b1:aF H1 n 0=some ([.agg [.tree [] .nil,.tree [] .nil]],2,true):=cA p1 (by rw[vL];rfl)
 have e1:=RS (lo:=n) 0 a1 (Nat.le_succ n) s0.cell.1 s0.cell.2.1 (by decide)
 simp only[a1,e1,sB,Nat.add_zero,VX,Nat.reduceEqDiff,Nat.reduceAdd]
 refine arT (n:=n) (m:=n+1) he (by rw[List.length_set];omega) (by rw[List.length_set];omega) (O1.set (by omega)) fun c1 H2 p2 O2 s1 w1 b1' => ?_
 have Dq:n+2≤H2.length:=by have:=p2.length_le;rw[List.length_set] at this;omega
 have a2:aF H2 (n+1) 0=some ([.agg [c0,.tree [] .nil]],2,true):=cA p2 (cJ a1)
 have b2:aF H2 n 0=some ([.agg [.tree [] .nil,.tree [] .nil]],2,true):=cA p2 (bF (by omega) b1)
 have s0':=s0.cG (H':=H2) fun b g x hb h=>cA p2 (bF (by omega) h)
 have e2:=RS (lo:=n) 1 a2 (Nat.le_succ n) s1.cell.1 s1.cell.2.1 (by decide)
 have e4:bX true 2 (.ptr (n+1) 0 0 0) (H2.set (n+1) (.row 0 [.agg [c0,c1]] 2 true))=some (.agg [c0,c1]):=by
  rw[bM,cJ a2]
  rfl
 have e5:=bO (lo:=n) (v := .agg [c0,c1]) (j:=0) (bF (x := .row 0 [.agg [c0,c1]] 2 true) (b':=n+1) (by omega) b2) (by exact Nat.zero_lt_one) (Nat.le_refl _) (by rfl) (by simp[aB,s0.cell.2.1,s1.cell.2.1])
 have e6:bX true 2 (.ptr n 0 0 0) ((H2.set (n+1) (.row 0 [.agg [c0,c1]] 2 true)).set n (.row 0 [.agg [c0,c1]] 2 true))=some (.agg [c0,c1]):=by
  rw[bM,cJ (bF (x := .row 0 [.agg [c0,c1]] 2 true) (b':=n+1) (by omega) b2)]
  rfl
 simp only[a2,e2,e4,e5,e6,sB,Nat.zero_add,List.set_cons_zero,List.set_cons_succ,mU,pJ,En,VX,Nat.reduceEqDiff,Nat.reduceAdd]
 obtain⟨L,k1,k2,k3⟩:=NK (n:=n) (k:=n+2) (H:=(H2.set (n+1) (.row 0 [.agg [c0,c1]] 2 true)).set n (.row 0 [.agg [c0,c1]] 2 true)) (by omega) (by rw[List.length_set,List.length_set];exact Dq) ((O2.set (by omega)).set (by omega))
 have DO:∀b g x,n+1<b→aF H2 b g=some x→aF (List.replicate n .dead++L) b g=some x:=fun b g x hb h=>k3 b g x hb (bF (by omega) (bF (by omega) h))
 have up:∀ {H c x},tK (n+1) H bare x c→tK n H bare x c:=fun h=>by
  rcases h with h | ⟨b,h1,h2,h3⟩
  ·exact .inl h
  ·exact .inr ⟨b,by omega,h2,h3⟩
 refine⟨L,k1,by simp[eG,nY,w0,w1],k2,c0,c1,rfl,up (s0'.cG DO),up (s1.cG DO),fun x0 g0 o0 n0 k0 x1 g1 o1 n1 k1 hx hy => ?_⟩
 have q1:=b1' _ _ _ _ _ hy
 rw[List.length_set] at q1
 rcases s0 with⟨_,_,h⟩ | ⟨z,_,h,hz⟩
 ·rw[h] at hx;cases hx
 ·have hzl:=fE hz
  rw[h] at hx
  cases hx
  omega
def Rn (s:ES) (left:Int):Int:=if Uy s.u left<0 then -1 else if Uy s.d (Uy s.u left)<0 then -1 else Uy s.d (Uy s.u left)
theorem ahV {s:ES} {l:Int} (h:Rn s l<0):Rn s l = -1:=by
 unfold Rn at h ⊢
 split
 ·rfl
 ·rename_i h0
  split
  ·rfl
  ·rename_i h1
   rw[if_neg h0,if_neg h1] at h
   omega
theorem aiG {s:ES} {l:Int} (h:0≤Rn s l):Rn s l≤l∧(s.u.length:Int)≤l∧(s.d.length:Int)≤l∧(∀x∈s.u,(x.size:Int)≤l)∧∀x∈s.d,(x.size:Int)≤l:=by
 unfold Rn at h ⊢
 split at h
 ·omega
 ·rename_i h0
  split at h
  ·omega
  ·rename_i h1
   rw[if_neg h0,if_neg h1]
   have b0:=Vz (xs:=s.u) (l:=l) (by omega)
   have b1:=Vz (xs:=s.d) (l:=Uy s.u l) (by omega)
   exact⟨by omega,b0.2.1,by omega,b0.2.2,fun x hx=>by have:=b1.2.2 x hx;omega⟩
theorem Ol (s:ES) (left:Int) (hx:ajX s) (hl:0≤left∧left≤1000000):TC 24 [A3 s,VI left] (VI (Rn s left)):=by
 refine TC.walk ⟨true,false⟩ Ok rfl (Nat.le_of_ble_eq_true rfl) (rO (lnP s) rfl) rfl ?_
 have e0:=BA s.u left hx.1 hl
 unfold Rn
 by_cases h0:Uy s.u left<0
 ·simp only[AD,vI,A3,e0,h0,if_true,VX,Nat.reduceEqDiff,Nat.reduceAdd,iJ,Nat.reduceLeDiff,Nat.reduceLT,Nat.reduceSub]
  exact aL rfl
 have b0:=Vz (xs:=s.u) (l:=left) (by omega)
 have e1:=BA s.d _ hx.2 ⟨Int.not_lt.1 h0,by omega⟩
 by_cases h1:Uy s.d (Uy s.u left)<0
 ·simp only[AD,vI,A3,e0,e1,h0,h1,if_true,if_false,VX,Nat.reduceEqDiff,Nat.reduceAdd,iJ,Nat.reduceLeDiff,Nat.reduceLT,Nat.reduceSub]
  exact aL rfl
 ·simp only[AD,vI,A3,e0,e1,h0,h1,if_true,if_false,VX,Nat.reduceEqDiff,Nat.reduceAdd,iJ,Nat.reduceLeDiff,Nat.reduceLT,Nat.reduceSub]
  exact aL rfl
theorem HM {lo n n':Nat} {H:aA} {c c':VV} (s:ES) (hb:s.u.length≤400000000) (he:s.d.length≤400000000) (hX:qP n H false s c) (hY:qP n' H false s c') {K:VV→aA→Prop} (hk:K (.sc (.bool true)) H) :
  cV 28 [c,c'] lo H K:=by
 refine fG rfl (jC.walk ⟨true,false⟩ GY (Nat.le_of_ble_eq_true rfl) ?_)
 obtain⟨x0,x1,rfl,Vm,hx1,_⟩:=hX
 obtain⟨y0,y1,rfl,hy0,hy1,_⟩:=hY
 obtain⟨b0,rfl,r0⟩:=Vm.ref
 obtain⟨b1,rfl,r1⟩:=hx1.ref
 obtain⟨d0,rfl,q0⟩:=hy0.ref
 obtain⟨d1,rfl,q1⟩:=hy1.ref
 simp only[Df,AA,VX,Nat.reduceEqDiff,Nat.reduceAdd,iJ,Nat.reduceLeDiff,Nat.reduceLT,Nat.reduceSub,xI,Le,Nd,aaK,List.append_assoc,List.cons_append,List.nil_append,List.length_append,List.length_cons,List.length_nil,Nat.zero_add,Nat.reduceAdd]
 refine vV s.u hb r0 q0 ?_
 simp only[VX,Nat.reduceEqDiff,Nat.reduceAdd,iJ,Nat.reduceLeDiff,Nat.reduceLT,Nat.reduceSub]
 refine vV s.d he r1 q1 ?_
 simp only[VX,Nat.reduceEqDiff,Nat.reduceAdd,iJ,Nat.reduceLeDiff,Nat.reduceLT,Nat.reduceSub]
 exact hk
theorem WI {lo:Nat} {s:ES} {bare:Bool} {H:aA} {K:VV→aA→Prop} (hb:s.u.length≤1000000000) (he:s.d.length≤1000000000)
  (hk:∀c H',H <+: H'→qP H.length H' bare s c→K c H'):cV 26 [A3 s,.sc (.bool bare)] lo H K:=by
 refine(Ow s bare hb he).call rfl (mapM_pure (n:=7) (by simp only[aP,lnP,Bool.true_and];rfl)) ?_
 intro r L h
 exact hk r _ (List.prefix_append _ _) (h.cG fun b g x hb h=>Pr (Nat.le_of_lt hb) h)
theorem ayJ {n lo:Nat} {s:ES} {bare:Bool} {H:aA} {c:VV} (hc:qP n H bare s c) (dP:lo≤H.length):bI lo 2 (.ptr H.length 0 0 0) c (H++[.row 0 [.agg [.tree [] .nil,.tree [] .nil]] 2 true])=some (H++[.row 0 [c] 2 true]):=by
 obtain⟨c0,c1,rfl,h0,h1,_⟩:=hc
 rw[bO (e:=2) (g:=0) (lo:=lo) (v := .agg [c0,c1]) (j:=0) fW (by exact Nat.zero_lt_one) dP rfl (by simp[aB,h0.cell.2.1,h1.cell.2.1]),D2]
 rfl
theorem ld2 {n b:Nat} {s:ES} {bare:Bool} {H H':aA} {c:VV} (hc:qP n H bare s c) (h:aF H' b 0=some ([c],2,true)):bX true 2 (.ptr b 0 0 0) H'=some c:=by
 obtain⟨c0,c1,rfl,_⟩:=hc
 rw[bM,h]
 rfl
end Go.PM
namespace Go.PM
theorem qP.refs {n:Nat} {H:aA} {s:ES} {c:VV} (h:qP n H false s c):∃b0 b1,n<b0∧b0<b1∧c = .agg [.ref b0 0 0 s.u.length (s.u.length+room s.u.length),.ref b1 0 0 s.d.length (s.d.length+room s.d.length)]∧aF H b0 0=some ((fX jS s.u).map sV,1,true)∧aF H b1 0=some ((fX jS s.d).map sV,1,true):=by
 obtain⟨c0,c1,rfl,h0,h1,h2⟩:=h
 rcases h0 with⟨h,_⟩ | ⟨b0,k0,rfl,r0⟩
 ·cases h
 rcases h1 with⟨h,_⟩ | ⟨b1,k1,rfl,r1⟩
 ·cases h
 exact⟨b0,b1,k0,h2 _ _ _ _ _ _ _ _ _ _ rfl rfl,rfl,r0,r1⟩
theorem aiP {lo b0 b1:Nat} {s:ES} {H:aA} {k:Int} {K:VV→aA→Prop} (h0:aF H b0 0=some ((fX jS s.u).map sV,1,true)) (h1:aF H b1 0=some ((fX jS s.d).map sV,1,true)) (fK:b0≠b1) (AI:lo≤b0) (xR:lo≤b1) (hk:0≤k∧k≤10000000) (hn:s.u.length≤10000000) (hd:s.d.length≤10000000)
  (hK:∀x y,K (VI (k+s.u.length+s.d.length)) ((H.set b0 x).set b1 y)) :
  cV 29 [.agg [.ref b0 0 0 s.u.length (s.u.length+room s.u.length),.ref b1 0 0 s.d.length (s.d.length+room s.d.length)],VI k] lo H K:=by
 refine fG rfl (jC.walk ⟨true,false⟩ KX (Nat.le_of_ble_eq_true rfl) ?_)
 simp only[FF,CZ,VX,Nat.reduceEqDiff,Nat.reduceAdd,iJ,Nat.reduceLeDiff,Nat.reduceLT,Nat.reduceSub,xI,Le,Nd,aaK,List.append_assoc,List.cons_append,List.nil_append,List.length_append,List.length_cons,List.length_nil,Nat.zero_add,Nat.reduceAdd]
 refine PW h0 AI (by omega) (by omega) fun x => ?_
 simp only[VX,Nat.reduceEqDiff,Nat.reduceAdd,iJ,Nat.reduceLeDiff,Nat.reduceLT,Nat.reduceSub]
 refine PW (bF fK h1) xR (by omega) (by omega) fun y => ?_
 simp only[VX,Nat.reduceEqDiff,Nat.reduceAdd,iJ,Nat.reduceLeDiff,Nat.reduceLT,Nat.reduceSub]
 exact hK x y
end Go.PM
namespace Go.PM
theorem TU (s:ES):Ev ((oD s).getD []):=by
 have h0:Ev []:=⟨by decide,fun x hx=>by cases hx⟩
 unfold oD
 split
 ·rename_i x hx
  obtain⟨u,d⟩:=x
  obtain⟨⟨xR,Dq⟩,Uv,hub,hdb⟩:=D5 hx
  split
  ·rename_i hl
   cases ht:wY (uE (oH u d)) with
   | none=>exact h0
   |
    some y =>
    obtain⟨e1,e2⟩:=Iq (n:=u.length+1) (B:=665) xV (Iu (fun q hq=>(hub q hq).1) (fun q hq=>(hdb q hq).1)) (by omega) (by omega)
    obtain⟨j1,j2⟩:=Vx (B:=100) ht fun r hr=>by have:=(e2 r hr).1;omega
    exact⟨by rw[Option.getD_some,j1,e1];omega,j2⟩
  ·exact h0
 ·exact h0
set_option maxHeartbeats 4000000 in
theorem BJ (s0:ES) (Vm:ajX s0):TC 4 [A3 s0] (.sc (.bool true)):=by
 refine TC.walk ⟨true,false⟩ BU rfl (Nat.le_of_ble_eq_true rfl) (Gp (lnP _)) rfl ?_
 have adY:=Ol s0 (1000000) Vm (by omega)
 have bH:∀K,bX true 2 (.cT (A3 s0) 0) K=some (A3 s0):=fun K=>rfl
 by_cases auN:Rn s0 (1000000)<0
 ·rw[ahV auN] at adY
  simp only[oA,lX,Xo,bH,adY,Int.reduceNeg,Int.reduceLT,gB,VX,Nat.reduceEqDiff,Nat.reduceAdd,Nat.reduceLeDiff,Nat.reduceLT,Nat.reduceSub]
  exact aL rfl
 obtain⟨_,hu,hd,hus,hds⟩:=aiG (s:=s0) (l:=1000000) (by omega)
 have hux:∀x∈s0.u,x.size≤1000000000:=fun x hx=>by have:=hus x hx;omega
 have hdx:∀x∈s0.d,x.size≤1000000000:=fun x hx=>by have:=hds x hx;omega
 have cs:=IB s0 hux hdx ⟨by omega,by omega⟩
 have ci:=Iz s0 hux hdx ⟨by omega,by omega⟩
 have Rz:=TU s0
 have hsn:=Rz.n
 generalize uU:(oD s0).getD []=val at *
 generalize (oD s0).isSome=ok at *
 simp only[oA,lX,Xo,bH,adY,auN,gB,VX,Nat.reduceEqDiff,Nat.reduceAdd,Nat.reduceLeDiff,Nat.reduceLT,Nat.reduceSub]
 refine WI (by omega) (by omega) fun r1 H1 p1 s1' => ?_
 simp only[gB,VX,Nat.reduceEqDiff,Nat.reduceAdd,Nat.reduceLeDiff,Nat.reduceLT,Nat.reduceSub]
 refine Lq cs rfl (Y8 s1'.fz) CG.cG fun v2 H2 p2 v2' => ?_
 simp only[gB,VX,Nat.reduceEqDiff,Nat.reduceAdd,Nat.reduceLeDiff,Nat.reduceLT,Nat.reduceSub]
 have w2:=Wq (lo:=0) (H:=H2) v2'.ag3 (Nat.zero_le _)
 simp only[w2,bH,gB,VX,Nat.reduceEqDiff,Nat.reduceAdd,Nat.reduceLeDiff,Nat.reduceLT,Nat.reduceSub]
 have p3:=List.prefix_append H2 [.row 0 [v2] 1 true]
 have q2:aF (H2++[.row 0 [v2] 1 true]) H2.length 0=some ([v2],1,true):=fW
 generalize eh3:H2++[.row 0 [v2] 1 true]=H3 at *
 refine WI (by omega) (by omega) fun r4 H4 p4 s4' => ?_
 have w4:=ayJ (lo:=0) s4' (Nat.zero_le _)
 simp only[w4,kH,gB,VX,Nat.reduceEqDiff,Nat.reduceAdd,Nat.reduceLeDiff,Nat.reduceLT,Nat.reduceSub]
 have pa:=List.prefix_append H4 [.row 0 [r4] 2 true]
 have qa:aF (H4++[.row 0 [r4] 2 true]) H4.length 0=some ([r4],2,true):=fW
 generalize eha:H4++[.row 0 [r4] 2 true]=Ha at *
 simp only[ld2 s4' qa,gB,VX,Nat.reduceEqDiff,Nat.reduceAdd,Nat.reduceLeDiff,Nat.reduceLT,Nat.reduceSub]
 refine Lq ci rfl (Y8 (s4'.pre pa).fz) CG.cG fun v5 H5 p5 v5' => ?_
 simp only[gB,VX,Nat.reduceEqDiff,Nat.reduceAdd,Nat.reduceLeDiff,Nat.reduceLT,Nat.reduceSub]
 have w5:=Wq (lo:=0) (H:=H5) v5'.ag3 (Nat.zero_le _)
 simp only[w5,gB,VX,Nat.reduceEqDiff,Nat.reduceAdd,Nat.reduceLeDiff,Nat.reduceLT,Nat.reduceSub]
 have p6:=List.prefix_append H5 [.row 0 [v5] 1 true]
 have q5:aF (H5++[.row 0 [v5] 1 true]) H5.length 0=some ([v5],1,true):=fW
 generalize eh6:H5++[.row 0 [v5] 1 true]=H6 at *
 have W6:=v2'.cG (dD.pre ((((p3.trans p4).trans pa).trans p5).trans p6))
 have G6:=v5'.cG (dD.pre p6)
 have cW6:=cA (((p4.trans pa).trans p5).trans p6) q2
 have cG6:=q5
 have qa6:=cA (p5.trans p6) qa
 have aW:=v2'.ag3
 have aG:=v5'.ag3
 have le2:=p2.length_le
 have le3:=p3.length_le
 have le4:=p4.length_le
 have lea:=pa.length_le
 have le5:=p5.length_le
 have le6:=p6.length_le
 have bW:=fE q2
 have bA:=fE qa
 have bG:=fE q5
 have kb:N9 true (Value.bool ok) (Value.bool ok)=some (.bool false):=aeT ok
 simp only[JJ aG cG6,JJ aW cW6,agC Rz G6.fz W6.fz,kb,ld2 s4' qa6,bH,gB,VX,Nat.reduceEqDiff,Nat.reduceAdd,Nat.reduceLeDiff,Nat.reduceLT,Nat.reduceSub]
 refine WI (by omega) (by omega) fun r7 H7 p7 s7' => ?_
 simp only[gB,VX,Nat.reduceEqDiff,Nat.reduceAdd,Nat.reduceLeDiff,Nat.reduceLT,Nat.reduceSub]
 refine HM s0 (by omega) (by omega) (s4'.pre (((pa.trans p5).trans p6).trans p7)) s7' ?_
 simp only[ld2 s4' (cA p7 qa6),gB,VX,Nat.reduceEqDiff,Nat.reduceAdd,Nat.reduceLeDiff,Nat.reduceLT,Nat.reduceSub]
 have W7:=W6.cG (dD.pre p7)
 have G7:=G6.cG (dD.pre p7)
 have cW7:=cA p7 cW6
 have cG7:=cA p7 cG6
 obtain⟨b0,b1,n0,n1,rfl,x0,x1⟩:=s4'.refs
 have bx0:=fE x0
 have bx1:=fE x1
 refine aiP (cA (((pa.trans p5).trans p6).trans p7) x0) (cA (((pa.trans p5).trans p6).trans p7) x1) (by omega) (Nat.zero_le _) (Nat.zero_le _) (by omega) (by omega) (by omega) fun y0 y1 => ?_
 have W8:=(W7.cG (dD.set (x:=y0) (b:=b0) (by omega))).cG (dD.set (x:=y1) (b:=b1) (by omega))
 have G8:=(G7.cG (dD.set (x:=y0) (b:=b0) (by omega))).cG (dD.set (x:=y1) (b:=b1) (by omega))
 have cW8:=bF (x:=y1) (b':=b1) (by omega) (bF (x:=y0) (b':=b0) (by omega) cW7)
 have cG8:=bF (x:=y1) (b':=b1) (by omega) (bF (x:=y0) (b':=b0) (by omega) cG7)
 have k8:¬(101+(s0.u.length:Int)+(s0.d.length:Int))<0:=by omega
 simp only[k8,JJ aG cG8,JJ aW cW8,agC Rz G8.fz W8.fz,kb,gB,VX,Nat.reduceEqDiff,Nat.reduceAdd,Nat.reduceLeDiff,Nat.reduceLT,Nat.reduceSub]
 refine ajD G8 (Nat.zero_le _) (by omega) (by have:=Rz.g;omega) (by omega) fun M1 ml mG mk => ?_
 have k0:¬(101+(dE val:Int))<0:=by omega
 have mW:=W8.cG (H':=M1) fun b g x h1 h2 h3=>mk b g x (by omega) h3
 have mcW:=mk _ _ _ (by omega) cW8
 have mcG:=mk _ _ _ (by omega) cG8
 simp only[JJ aG mcG,Xz Rz mG.fz,k0,bH,ne_eq,not_true_eq_false,decide_false,gB,VX,Nat.reduceEqDiff,Nat.reduceAdd,Nat.reduceLeDiff,Nat.reduceLT,Nat.reduceSub]
 generalize M1=H9 at *
 refine WI (by omega) (by omega) fun r10 H10 p10 aAg => ?_
 simp only[gB,VX,Nat.reduceEqDiff,Nat.reduceAdd,Nat.reduceLeDiff,Nat.reduceLT,Nat.reduceSub]
 refine Lq ci rfl (Y8 aAg.fz) CG.cG fun v11 H11 p11 apP => ?_
 simp only[gB,VX,Nat.reduceEqDiff,Nat.reduceAdd,Nat.reduceLeDiff,Nat.reduceLT,Nat.reduceSub]
 have w11:=Wq (lo:=0) (H:=H11) apP.ag3 (Nat.zero_le _)
 simp only[w11,gB,VX,Nat.reduceEqDiff,Nat.reduceAdd,Nat.reduceLeDiff,Nat.reduceLT,Nat.reduceSub]
 have p12:=List.prefix_append H11 [.row 0 [v11] 1 true]
 have q11:aF (H11++[.row 0 [v11] 1 true]) H11.length 0=some ([v11],1,true):=fW
 generalize aEv:H11++[.row 0 [v11] 1 true]=H12 at *
 have aX:=apP.ag3
 have X1:=apP.cG (dD.pre p12)
 have cX:=q11
 have nW:=mW.cG (dD.pre ((p10.trans p11).trans p12))
 have nG:=mG.cG (dD.pre ((p10.trans p11).trans p12))
 have ncW:=cA ((p10.trans p11).trans p12) mcW
 have ncG:=cA ((p10.trans p11).trans p12) mcG
 simp only[JJ aX cX,JJ aW ncW,JJ aG ncG,agC Rz X1.fz nW.fz,kb,Xz Rz nG.fz,k0,ne_eq,not_true_eq_false,decide_false,gB,VX,Nat.reduceEqDiff,Nat.reduceAdd,Nat.reduceLeDiff,Nat.reduceLT,Nat.reduceSub]
 exact aL rfl
end Go.PM
namespace Go.PM
open Go.Proofs
theorem Ft {P:Program} {w:World} {name:String} {d:DataW Unit}:∀ {l:List (String×DataW Unit)} {ps:List MemPlace},DataW.LaidVars P w l ps→(name,d)∈l →
  ∃g t cs fuel p,P.globalNamed name=some g∧(P.globals[g]?).map (·.type)=some t∧w.var? P name=some cs∧DataW.trod (fun _=>()) P w 0 (fun _=>true) false fuel t cs.toList=some (d,p)
 | [],_,_,hm=>by cases hm
 |
  (n,e)::r,ps,h,hm=>by
  obtain⟨g,t,cs,fuel,p,q,h1,h2,h3,h4,h5,_⟩:=h
  rcases List.mem_cons.1 hm with he | hm
  ·cases he
   exact⟨g,t,cs,fuel,p,h1,h2,h3,h4⟩
  ·exact Ft h5 hm
theorem MH {W:World} {l:List (String×DataW Unit)} (hl:laidMetH Tryz.prog l W) (hp:(l.all fun x=>x.2.handleName?.isNone)=true) (hm:("internal/strconv.uint64pow10",Lib.tabData .u64 Lib.pow10Tab)∈l)
  {t e:TypeId} {n:Nat} (hty:(Tryz.prog.globals[3]?).map (·.type)=some t) (ht:Tryz.prog.underlying t=some (.array n e)) (he:Tryz.prog.underlying e=some (.int .u64)) (hce:Tryz.prog.cellsOf e=1) (hct:Tryz.prog.cellsOf t=n):Q8 W:=by
 rw[MakeChecks.laidMetH_plain _ _ _ hp] at hl
 obtain⟨ps,h1,_⟩:=hl
 obtain⟨g',t',cs,fuel,p,hg',ht',aaU,hd⟩:=Ft h1 hm
 have hg:Tryz.prog.globalNamed "internal/strconv.uint64pow10"=some 3:=by kernel_rfl
 obtain rfl:=Option.some.inj (hg.symm.trans hg')
 obtain rfl:=Option.some.inj (hty.symm.trans ht')
 have Lo:=Lib.cells_of_tab ht he hce hct hd
 intro x hx
 have QI:x=(3,(Lib.pow10Tab.map fun z=>Value.int .u64 z).toArray):=by simpa[akX] using hx
 subst QI
 unfold World.var? at aaU
 rw[hg,Option.bind_some] at aaU
 split at aaU
 ·rename_i AX e' fz' hh
  cases aaU
  refine⟨e',fz',?_⟩
  rw[←Lo]
  simpa using hh
 ·cases aaU
end Go.PM