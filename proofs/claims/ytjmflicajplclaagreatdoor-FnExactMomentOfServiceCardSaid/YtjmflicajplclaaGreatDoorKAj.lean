/- Texts of a claim, in one: part 10. -/
import Derived.Test.YtjmflicajplclaaGreatDoorKAi
open Bool renaming false_eq_true → aLg
open Int renaming lt_or_gt_of_ne → aNu,lt_trichotomy → aNx,mul_neg_of_neg_of_pos → aNv,mul_pos → aNw,natAbs_mul → aNi,natCast_mul → aM4,neg_mul → aNl,ofNat_le → aNA,sign_eq_neg_one_of_neg → aNL,sign_eq_one_of_pos → aNM,zero_mul → aNy
open List renaming getElem?_eq_getElem → aKL,getElem?_eq_none → aK4,length → aNO,length_append → aKP,length_cons → aKO,length_eq_one_iff → aNB,length_eq_zero_iff → aMM,length_map → aMl,length_nil → aMh,length_pos_iff → aNC,length_replicate → aMt,length_reverse → aNF,length_set → aMC,length_singleton → aMT,mapM_cons → aL1,nil_append → aLW,replicate → aLu,reverse_append → aNG,reverse_singleton → aNH,singleton_append → aNI,singleton_inj → aNN,take_of_length_le → aLx
open Nat renaming Coprime → aNs,div_one → aNt,gcd → aNm,gcd_comm → aNE,gcd_dvd_left → aNo,gcd_ne_zero_right → aNJ,gcd_pos_of_pos_left → aNp,gcd_zero_right → aND,le_of_ble_eq_true → aMs,le_of_dvd → aNn,le_of_lt → aLl,le_refl → aKE,le_trans → aKF,mod_lt → aK6,mul_comm → aL6,mul_le_mul_right → aK5,mul_lt_mul_of_pos_right → aM9,mul_ne_zero → aNq,pow_le_pow_right → aMH,sub_le → aNK,zero_add → aMc
open Rat renaming mul_def' → aNr,num_eq_zero → aNz
set_option linter.unusedSimpArgs false
set_option linter.unusedVariables false
namespace Go.PM
theorem asY (neg:Bool) (t d:Nat):mI neg (t*d)=mI neg t*(d:Int):=by cases neg<;>simp[mI,aNl]
theorem GY (q:Rat) {d:Nat} (hd:d≠0):mkRat (mI (decide (q.num<0)) (q.num.natAbs*d)) (q.den*d)=q:=by
 rw[asY,Rat.mkRat_mul_right hd,Ny]
theorem Gl (X Y:Int) {B:Nat} (hB:B≠0):mkRat X B+mkRat Y B=mkRat (X+Y) B:=by
 rw[Rat.mkRat_add_mkRat _ _ hB hB,←Int.add_mul,Rat.mkRat_mul_right hB]
theorem Sr (n:Bool) (x y:Nat):mI n x+mI n y=mI n (x+y):=by cases n<;>simp[mI]<;>omega
theorem XR {m n:Bool} (h:m≠n) {x y:Nat} (hx:y≤x):mI m x+mI n y=mI m (x-y):=by
 cases m<;>cases n<;>simp_all [mI]<;>omega
theorem Xm {m n:Bool} (h:m≠n) {x y:Nat} (hx:x≤y):mI m x+mI n y=mI n (y-x):=by
 cases m<;>cases n<;>simp_all [mI]<;>omega
theorem Tj (n:Int) {d:Nat} (hd:d≠0):(mkRat n d).num.natAbs=n.natAbs / aNm n.natAbs d:=by
 have:=IM (neg:=decide (n<0)) (t:=n.natAbs) (b:=d) hd
 rw[Kb] at this
 rw[this,qY]
theorem Nq (n:Int) {d:Nat} (hd:d≠0):(mkRat n d).den=d / aNm n.natAbs d:=by
 have:=Sk (neg:=decide (n<0)) (t:=n.natAbs) (b:=d) hd
 rwa [Kb] at this
theorem ayR (n:Int) {d:Nat} (hd:d≠0):(mkRat n d).num<0↔n<0:=by
 have:=IM (neg:=decide (n<0)) (t:=n.natAbs) (b:=d) hd
 rw[Kb] at this
 rw[this,Tf]
 have h:n<0→n.natAbs / aNm n.natAbs d≠0:=fun h=>by
  have:=Nat.div_pos (aNn (by omega) (aNo n.natAbs d)) (aNp d (show 0<n.natAbs by omega))
  omega
 constructor
 ·rintro⟨h1,_⟩;simpa using h1
 ·intro h1;exact⟨by simpa using h1,h h1⟩
theorem El (t:Nat) {d:Nat} (hd:d≠0):(mkRat (mI false t) d).num.natAbs ∣ t∧(mkRat (mI false t) d).den ∣ d:=by
 rw[Tj _ hd,Nq _ hd,qY]
 exact⟨Nat.div_dvd_of_dvd (aNo _ _),Nat.div_dvd_of_dvd (Nat.gcd_dvd_right _ _)⟩
theorem aeE (a b:Rat):(a*b).num.natAbs=(mkRat (mI false a.num.natAbs) b.den).num.natAbs*(mkRat (mI false b.num.natAbs) a.den).num.natAbs ∧
  (a*b).den=(mkRat (mI false a.num.natAbs) b.den).den*(mkRat (mI false b.num.natAbs) a.den).den:=by
 have ha:=a.den_nz
 have hb:=b.den_nz
 have IW:a.den*b.den≠0:=aNq ha hb
 obtain⟨u1,u2⟩:=El a.num.natAbs hb
 obtain⟨v1,v2⟩:=El b.num.natAbs ha
 have e:(mkRat (mI false a.num.natAbs) b.den)*(mkRat (mI false b.num.natAbs) a.den)=mkRat (mI false a.num.natAbs*mI false b.num.natAbs) (b.den*a.den):=Rat.mkRat_mul_mkRat _ _ _ _
 have en:((mkRat (mI false a.num.natAbs) b.den)*(mkRat (mI false b.num.natAbs) a.den)).num.natAbs=(a*b).num.natAbs:=by
  rw[e,aNr,Tj _ IW,Tj _ (aNq hb ha),aNi,aNi,qY,qY,aL6 b.den]
 have ed:((mkRat (mI false a.num.natAbs) b.den)*(mkRat (mI false b.num.natAbs) a.den)).den=(a*b).den:=by
  rw[e,aNr,Nq _ IW,Nq _ (aNq hb ha),aNi,aNi,qY,qY,aL6 b.den]
 rw[←en,←ed]
 generalize hu:mkRat (mI false a.num.natAbs) b.den=u at *
 generalize hv:mkRat (mI false b.num.natAbs) a.den=v at *
 have c1:aNs u.num.natAbs u.den:=u.reduced
 have c2:aNs v.num.natAbs v.den:=v.reduced
 have c3:aNs u.num.natAbs v.den:=Nat.Coprime.coprime_dvd_left u1 (Nat.Coprime.coprime_dvd_right v2 a.reduced)
 have c4:aNs v.num.natAbs u.den:=Nat.Coprime.coprime_dvd_left v1 (Nat.Coprime.coprime_dvd_right u2 b.reduced)
 have c:aNm (u.num*v.num).natAbs (u.den*v.den)=1:=by
  rw[aNi]
  exact Nat.Coprime.mul_left (Nat.Coprime.mul_right c1 c3) (Nat.Coprime.mul_right c4 c2)
 rw[aNr,Tj _ (aNq u.den_nz v.den_nz),Nq _ (aNq u.den_nz v.den_nz),c,aNt,aNt,aNi]
 exact⟨rfl,rfl⟩
theorem UR {a b:Rat} (ha:a.num≠0) (hb:b.num≠0):(a*b).num<0↔(decide (a.num<0) != decide (b.num<0))=true:=by
 rw[aNr,ayR _ (aNq a.den_nz b.den_nz)]
 rcases aNu ha with h1 | h1<;>rcases aNu hb with h2 | h2
 ·have:=Int.mul_pos_of_neg_of_neg h1 h2
  rw[decide_eq_true h1,decide_eq_true h2]
  simp;omega
 ·have:=aNv h1 h2
  rw[decide_eq_true h1,decide_eq_false (show ¬b.num<0 by omega)]
  simp[this]
 ·have:=Int.mul_neg_of_pos_of_neg h1 h2
  rw[decide_eq_false (show ¬a.num<0 by omega),decide_eq_true h2]
  simp[this]
 ·have:=aNw h1 h2
  rw[decide_eq_false (show ¬a.num<0 by omega),decide_eq_false (show ¬b.num<0 by omega)]
  simp;omega
def jI (q:Rat):Int:=if q.num=0 then 0 else if q.num<0 then -1 else 1
def QD (a b:Rat):Int:=if jI a=jI b then (if a.num<0 then -gC (a.num.natAbs*b.den) (b.num.natAbs*a.den) else gC (a.num.natAbs*b.den) (b.num.natAbs*a.den)) else jI a-jI b
theorem AJ {m n:Nat}:gC m n<0↔m<n:=by
 unfold gC
 split
 ·omega
 ·split<;>omega
theorem aqZ {m n:Nat}:0<gC m n↔n<m:=by
 unfold gC
 split
 ·omega
 ·split<;>omega
theorem AT {m n:Nat}:gC m n=0↔m=n:=by
 unfold gC
 split
 ·omega
 ·split<;>omega
theorem oW {q:Rat} (h:q.num<0):jI q = -1:=by unfold jI;rw[if_neg (by omega),if_pos h]
theorem kX {q:Rat} (h:q.num=0):jI q=0:=by unfold jI;rw[if_pos h]
theorem oZ {q:Rat} (h:0<q.num):jI q=1:=by unfold jI;rw[if_neg (by omega),if_neg (by omega)]
theorem Zk {a b:Rat}:QD a b<0↔a<b:=by
 rw[Rat.lt_iff]
 have hA:(0:Int)<a.den:=by have:=a.den_nz;omega
 have hB:(0:Int)<b.den:=by have:=b.den_nz;omega
 have eA:((a.num.natAbs*b.den:Nat):Int)=(a.num.natAbs:Int)*b.den:=by simp
 have eB:((b.num.natAbs*a.den:Nat):Int)=(b.num.natAbs:Int)*a.den:=by simp
 unfold QD
 rcases aNx a.num 0 with h1 | h1 | h1<;>rcases aNx b.num 0 with h2 | h2 | h2
 ·rw[oW h1,oW h2,if_pos rfl,if_pos h1]
  have f1:(a.num.natAbs:Int) = -a.num:=by omega
  have f2:(b.num.natAbs:Int) = -b.num:=by omega
  rw[f1,aNl] at eA
  rw[f2,aNl] at eB
  have := @aqZ (a.num.natAbs*b.den) (b.num.natAbs*a.den)
  omega
 ·rw[oW h1,kX h2,if_neg (by decide),h2,aNy]
  have:=aNv h1 hB
  omega
 ·rw[oW h1,oZ h2,if_neg (by decide)]
  have:=aNv h1 hB
  have:=aNw h2 hA
  omega
 ·rw[kX h1,oW h2,if_neg (by decide),h1,aNy]
  have:=aNv h2 hA
  omega
 ·rw[kX h1,kX h2,if_pos rfl,h1,h2];simp[gC]
 ·rw[kX h1,oZ h2,if_neg (by decide),h1,aNy]
  have:=aNw h2 hA
  omega
 ·rw[oZ h1,oW h2,if_neg (by decide)]
  have:=aNv h2 hA
  have:=aNw h1 hB
  omega
 ·rw[oZ h1,kX h2,if_neg (by decide),h2,aNy]
  have:=aNw h1 hB
  omega
 ·rw[oZ h1,oZ h2,if_pos rfl,if_neg (by omega)]
  have f1:(a.num.natAbs:Int)=a.num:=by omega
  have f2:(b.num.natAbs:Int)=b.num:=by omega
  rw[f1] at eA
  rw[f2] at eB
  have := @AJ (a.num.natAbs*b.den) (b.num.natAbs*a.den)
  omega
theorem ahH (m n:Nat):gC n m = -gC m n:=by
 rcases Nat.lt_trichotomy m n with h | h | h
 ·rw[gC,gC,if_neg (by omega),if_neg (by omega),if_pos h];rfl
 ·subst h;rw[gC,if_neg (by omega),if_pos rfl];rfl
 ·rw[gC,gC,if_pos h,if_neg (by omega),if_neg (by omega)]
theorem UK (a b:Rat):QD b a = -QD a b:=by
 unfold QD
 by_cases h:jI a=jI b
 ·have h2:b.num<0↔a.num<0:=by
   rcases aNx a.num 0 with h1 | h1 | h1<;>rcases aNx b.num 0 with h2 | h2 | h2
   ·simp[h1,h2]
   ·rw[oW h1,kX h2] at h;omega
   ·rw[oW h1,oZ h2] at h;omega
   ·rw[kX h1,oW h2] at h;omega
   ·omega
   ·rw[kX h1,oZ h2] at h;omega
   ·rw[oZ h1,oW h2] at h;omega
   ·rw[oZ h1,kX h2] at h;omega
   ·omega
  rw[if_pos h,if_pos h.symm,ahH]
  by_cases h3:a.num<0
  ·rw[if_pos h3,if_pos (h2.2 h3)]
  ·rw[if_neg h3,if_neg (mt h2.1 h3)]
 ·rw[if_neg h,if_neg (fun h'=>h h'.symm)];omega
theorem asM {a b:Rat}:0<QD a b↔b<a:=by
 rw[←Zk,UK a b];omega
theorem RS {a b:Rat}:QD a b=0↔a=b:=by
 constructor
 ·intro h
  refine Rat.le_antisymm ?_ ?_
  ·rw[←Rat.not_lt,←asM];omega
  ·rw[←Rat.not_lt,←Zk];omega
 ·rintro rfl
  have:=UK a a
  omega
theorem axY {q:Rat}:q.num<0↔q<0:=by
 have := @Rat.num_nonneg q
 rw[←Rat.not_le,←this]
 omega
theorem aqY {q:Rat}:0<q.num↔0<q:=by
 have h1 := @axY (-q)
 rw[Rat.neg_num] at h1
 have h2 : -q<0↔0<q:=by
  rw[Rat.neg_lt_iff];simp
 rw[←h2,←h1]
 omega
theorem Ep {q:Rat}:jI q=0↔q=0:=by
 rw[←aNz]
 rcases aNx q.num 0 with h | h | h
 ·rw[oW h];omega
 ·rw[kX h];omega
 ·rw[oZ h];omega
theorem GR {q:Rat}:0<jI q↔0<q:=by
 rw[←aqY]
 rcases aNx q.num 0 with h | h | h
 ·rw[oW h];omega
 ·rw[kX h];omega
 ·rw[oZ h];omega
end Go.PM
namespace Go.PM
theorem QI {ds:List Nat} {H:aA}:cW 1 (jJ ds) H=some (ds.map tV):=by
 have:((ds.map tV).all fun x=>(aB x).length == 1&&(aB x).all bP)=true:=by
  rw[List.all_eq_true]
  intro x hx
  obtain⟨d,_,rfl⟩:=List.mem_map.1 hx
  rfl
 simp only[cW,jJ,aC,this,if_true]
theorem GM (n:Nat) {H:aA}:cW 1 (cA n) H=some ((aD 1000000000 n).map tV):=QI
theorem KE {a n:Nat} (hn:(aD 1000000000 a).length=n+1):∃d,(aD 1000000000 a)[n]? = some d∧d≠0∧d<1000000000:=by
 obtain⟨d,hd⟩:∃d,(aD 1000000000 a)[n]? = some d:=⟨_,aKL (by omega)⟩
 refine⟨d,hd,fun h0 => ?_,gH (by decide) a d (List.mem_of_getElem? hd)⟩
 have:=Q2 (b:=1000000000) (by decide) a
 rw[List.getLast?_eq_getElem?,hn,Nat.add_sub_cancel,hd,h0] at this
 exact this rfl
theorem aeY {a d:Nat} (h:aD 1000000000 a=[d]):a=d∧0<d∧d<1000000000:=by
 have h1:=cL (b:=1000000000) (by decide) a
 rw[h,val_one] at h1
 obtain⟨e,h2,h3,h4⟩:=KE (a:=a) (n:=0) (by rw[h];rfl)
 rw[h] at h2
 cases h2
 exact⟨h1.symm,by omega,h4⟩
theorem axO {a:Nat} (h:(aD 1000000000 a).length≤2):a<1000000000000000000:=by
 have h1:=iN (b:=1000000000) (by decide) a
 have h2:1000000000^(aD 1000000000 a).length≤1000000000^2:=aMH (by decide) h
 omega
theorem aoE {H:aA} {u v:VV} (hu:aY u=true) (hv:aY v=true):fz depth H (.dW [u,v])=some (.dW [u,v]):=aJ (by simp only[aY,aO,hu,hv,Bool.and_self])
theorem aBU {X N:Nat} (h:(aD 1000000000 X).length≤N):LH 0 1 (.ref 0 0 0 N N) (cA X) [.row 0 ((aLu N 0).map tV) 1 true]=some (VI ((aD 1000000000 X).length:Int),[.row 0 ((aD 1000000000 X++aLu (N-(aD 1000000000 X).length) 0).map tV) 1 true]):=by
 have e:((aD 1000000000 X).map tV).take N=(aD 1000000000 X).map tV:=aLx (by simpa using h)
 simp only[LH,cA,QI,aU,e,aMl,aMt,aMc]
 rw[if_pos ⟨trivial,aKE _,h⟩]
 simp only[dE,List.set_cons_zero,List.take_zero,aLW,aMc,aMl,List.map_append,List.map_replicate,List.drop_replicate]
theorem yM (a b:Nat) (hb:b≠0) (ha:(aD 1000000000 a).length<17592186044416) (zD:(aD 1000000000 b).length<17592186044416):TC 185 [cA a,cA b] (.dW [cA (a / b),cA (a % b)]):=by
 refine TC.walk ⟨true,false⟩ KG rfl (aMs rfl) (by simp[aO,cK]) (by simp[gU,sO,pW]) ?_
 have s1:=EE a (by omega)
 have s2:=EE b (by omega)
 have fin:∀ {H:aA},fz depth H (.dW [cA (a / b),cA (a % b)])=some (.dW [cA (a / b),cA (a % b)]):=aoE (cK _) (cK _)
 by_cases hsm:(aD 1000000000 a).length≤2∧(aD 1000000000 b).length≤2
 ·rw[if_pos hsm.1] at s1
  rw[if_pos hsm.2] at s2
  have la:=axO hsm.1
  have q1:=ND a b (by omega) (by omega)
  have q2:=Pw a b (by omega)
  have hdl:a / b≤a:=Nat.div_le_self _ _
  have hml:a % b≤a:=Nat.mod_le _ _
  have n1:TC 178 [VI ((a / b:Nat):Int)] (cA (a / b)):=tN ((a / b:Nat):Int) (aNA.2 (show a / b≤9223372036854775807 from aKF hdl (by omega)))
  have n2:TC 178 [VI ((a % b:Nat):Int)] (cA (a % b)):=tN ((a % b:Nat):Int) (aNA.2 (show a % b≤9223372036854775807 from aKF hml (by omega)))
  simp only[fZ,dX,s1,s2,q1,q2,n1,n2,VX,Nat.reduceEqDiff,Nat.reduceAdd]
  exact fin
 have c1:=yY a b (by omega) (by omega)
 obtain⟨x1,t1,Fv⟩:∃(x:Int) (t:Bool),(if (aD 1000000000 a).length≤2 then VV.dW [VI a,VB true] else .dW [VI 0,VB false]) = .dW [VI x,VB t]:=by split<;>exact⟨_,_,rfl⟩
 have ZE:∃(x:Int) (t:Bool),(if (aD 1000000000 b).length≤2 then VV.dW [VI b,VB true] else .dW [VI 0,VB false]) = .dW [VI x,VB t]∧(t1=true→t=false):=by
  by_cases h:(aD 1000000000 b).length≤2
  ·rw[if_pos h]
   refine⟨_,_,rfl,fun ht => ?_⟩
   rw[if_neg (fun h'=>hsm ⟨h',h⟩)] at Fv
   injection Fv with Fv
   injection Fv with _ Fv
   injection Fv with Fv _
   injection Fv with Fv
   injection Fv with Fv
   subst ht
   cases Fv
  ·rw[if_neg h]
   exact⟨_,_,rfl,fun _=>rfl⟩
 obtain⟨x2,t2,ZE,ht⟩:=ZE
 rw[Fv] at s1
 rw[ZE] at s2
 by_cases IW:gC a b<0
 ·have bI:a<b:=AJ.1 IW
  have e0:∀lr,mV lr [.int .i64 0] 0 [] []=some (.ref 0 0 0 0 0,[.row 0 [] 1 true]):=fun lr=>mX (H:=[]) rfl
  have e1:∀lr,mV lr [.int .i64 0] 0 [] [.row 0 [] 1 true]=some (.ref 1 0 0 0 0,[.row 0 [] 1 true,.row 0 [] 1 true]):=fun lr=>mX (H:=[.row 0 [] 1 true]) rfl
  rw[Nat.div_eq_of_lt bI,Nat.mod_eq_of_lt bI]
  have hz:fz (6+1) [.row 0 [] 1 true,.row 0 [] 1 true] (.ref 0 0 0 0 0)=some (cA 0):=by rw[Lb];rfl
  by_cases ha0:a=0
  ·subst ha0
   have ap:dO 0 1 8 (.ref 1 0 0 0 0) ((aD 1000000000 0).map tV) [.row 0 [] 1 true,.row 0 [] 1 true]=some (.ref 1 0 0 0 0,[.row 0 [] 1 true,.row 0 [] 1 true]):=by
    rw[cE];rfl
   have Kq:fz (6+1) [.row 0 [] 1 true,.row 0 [] 1 true] (.ref 1 0 0 0 0)=some (cA 0):=by rw[Lb];rfl
   cases t1 with
   |
    false =>
    simp only[fZ,dX,s1,s2,c1,IW,e0,e1,ap,GM,VX,Nat.reduceEqDiff,Nat.reduceAdd]
    exact bN (d:=6) hz Kq
   |
    true =>
    rw[ht rfl] at s2
    simp only[fZ,dX,s1,s2,c1,IW,e0,e1,ap,GM,VX,Nat.reduceEqDiff,Nat.reduceAdd]
    exact bN (d:=6) hz Kq
  ·have hln:(aD 1000000000 a).length≠0:=fun h=>ha0 ((nU (b:=1000000000) (by decide)).1 (aMM.1 h))
   have ap:dO 0 1 8 (.ref 1 0 0 0 0) ((aD 1000000000 a).map tV) [.row 0 [] 1 true,.row 0 [] 1 true]=some (.ref 1 1 0 (aD 1000000000 a).length (aD 1000000000 a).length,[.row 0 [] 1 true,.row 1 ((aD 1000000000 a).map tV) 1 true]):=by
    have hr:aG [.row 0 [] 1 true,.row 0 [] 1 true] 1 0=some ([],1,true):=rfl
    simp only[dO,hr,aMl,aMc,aMh,Nat.add_zero]
    rw[if_pos ⟨by decide,by decide⟩,if_pos ⟨trivial,Nat.zero_le _,aKE _⟩,if_neg (by omega),if_pos (by omega)]
    simp
   have CL:fz (6+1) [.row 0 [] 1 true,.row 1 ((aD 1000000000 a).map tV) 1 true] (.ref 0 0 0 0 0)=some (cA 0):=by rw[Lb];rfl
   have Kq:fz (6+1) [.row 0 [] 1 true,.row 1 ((aD 1000000000 a).map tV) 1 true] (.ref 1 1 0 (aD 1000000000 a).length (aD 1000000000 a).length)=some (cA a):=by
    have:aY (.ref 1 1 0 (aD 1000000000 a).length (aD 1000000000 a).length)=false:=rfl
    have hr:aG [.row 0 [] 1 true,.row 1 ((aD 1000000000 a).map tV) 1 true] 1 1=some ((aD 1000000000 a).map tV,1,true):=rfl
    unfold fz
    simp only[this,hr,aLg,if_false]
    rw[if_pos ⟨by simp,aKE _⟩,List.drop_zero,aLx (by simp),mapM_pure (n:=5) (fN fun _=>rfl)]
    rfl
   cases t1 with
   |
    false =>
    simp only[fZ,dX,s1,s2,c1,IW,e0,e1,ap,GM,VX,Nat.reduceEqDiff,Nat.reduceAdd]
    exact bN (d:=6) CL Kq
   |
    true =>
    rw[ht rfl] at s2
    simp only[fZ,dX,s1,s2,c1,IW,e0,e1,ap,GM,VX,Nat.reduceEqDiff,Nat.reduceAdd]
    exact bN (d:=6) CL Kq
 have Hp:b≤a:=by have := @AJ a b;omega
 have hbn:(aD 1000000000 b).length≠0:=fun h=>hb ((nU (b:=1000000000) (by decide)).1 (aMM.1 h))
 by_cases h1:(((aD 1000000000 b).length:Nat):Int)=1
 ·obtain⟨d,hd⟩:∃d,aD 1000000000 b=[d]:=aNB.1 (by omega)
  obtain⟨hbd,FD,hdT⟩:=aeY hd
  have e1:bJ 1 (cA b) (VI 0) []=some (.cG (tV d) 0):=by
   rw[cA,hd]
   exact aH (f:=tV) (t := .op) (H:=[]) (size:=1) (k := .i64) (xs:=[d]) (i:=0) rfl rfl
  have c2:=Bf a d FD hdT (by omega)
  rw[←hbd] at c2
  have YD:a % b≤b:=aLl (aK6 _ (by omega))
  have n2:TC 178 [VI ((a % b:Nat):Int)] (cA (a % b)):=tN ((a % b:Nat):Int) (aNA.2 (show a % b≤9223372036854775807 from aKF YD (by omega)))
  have e2:tV d=tV b:=by rw[hbd]
  rw[e2] at e1
  cases t1 with
  |
   false =>
   simp only[fZ,dX,s1,s2,c1,IW,cN,h1,e1,c2,n2,VX,Nat.reduceEqDiff,Nat.reduceAdd]
   exact fin
  |
   true =>
   rw[ht rfl] at s2
   simp only[fZ,dX,s1,s2,c1,IW,cN,h1,e1,c2,n2,VX,Nat.reduceEqDiff,Nat.reduceAdd]
   exact fin
 obtain⟨n,hn⟩:∃n,(aD 1000000000 b).length=n+2:=⟨(aD 1000000000 b).length-2,by omega⟩
 obtain⟨t,htd,ht0,htT⟩:=KE (a:=b) (n:=n+1) hn
 obtain⟨s,hs⟩:∃s,s=1000000000 / (t+1):=⟨_,rfl⟩
 have Vq:1≤s:=by rw[hs];exact(Nat.le_div_iff_mul_le (by omega)).2 (by omega)
 have hsT:s<1000000000:=by rw[hs];exact Nat.div_lt_self (by decide) (by omega)
 have vL:(t+1)*s≤1000000000:=by rw[hs];exact Nat.mul_div_le _ _
 have hla:=eW (b:=1000000000) (by decide) Hp
 have w0:IntKind.i64.wrap (((n+2:Nat):Int)-1)=((n+1:Nat):Int):=wrapN _ (by omega) (by omega)
 have w1:IntKind.i64.wrap ((t:Int)+1)=((t+1:Nat):Int):=wrapN _ (by omega) (by omega)
 have q0:dK .quo (.int .i64 1000000000) (.int .i64 ((t+1:Nat):Int))=some (.int .i64 (s:Int)):=by rw[hs];exact ND 1000000000 (t+1) (by decide) (by omega)
 have et:∀H,bJ 1 (cA b) (VI ((n+1:Nat):Int)) H=some (.cG (tV t) 0):=fun H=>aH (f:=tV) (t := .op) (size:=1) (k := .i64) htd rfl
 have h1':¬(((n+2:Nat):Int)=1):=by omega
 obtain⟨N,hN⟩:∃N,N=(aD 1000000000 a).length+1:=⟨_,rfl⟩
 have wN:IntKind.i64.wrap (((aD 1000000000 a).length:Int)+1)=(N:Int):=wrapN _ (by omega) (by omega)
 have mkN:=Ty N (by omega)
 have c3:=BD a s Vq hsT ha
 have c4:=BD b s Vq hsT zD
 have ayE:b*s<1000000000^(n+2):=by
  have h2:=(Cm (n:=n+1) (gH (b:=1000000000) (by decide) b) hn htd).2
  rw[cL (by decide)] at h2
  have h3:b*s<(t+1)*1000000000^(n+1)*s:=aM9 h2 Vq
  have h4:(t+1)*1000000000^(n+1)*s=(t+1)*s*1000000000^(n+1):=by grind
  have h9:(t+1)*s*1000000000^(n+1)≤1000000000*1000000000^(n+1):=aK5 _ vL
  have h10:1000000000*1000000000^(n+1)=1000000000^(n+2):=by rw[Nat.pow_succ 1000000000 (n+1)];exact aL6 _ _
  rw[h4] at h3
  rw[h10] at h9
  exact Nat.lt_of_lt_of_le h3 h9
 have hVl:(aD 1000000000 (b*s)).length=n+2:=by
  have h2:=oP (b:=1000000000) (by decide) ayE
  have h3:b≤b*s:=Nat.le_mul_of_pos_right b Vq
  have h4:=eW (b:=1000000000) (by decide) h3
  omega
 have hAl:(aD 1000000000 (a*s)).length≤N:=by
  have h2:=SH (b:=1000000000) (by decide) a s
  have h3:(aD 1000000000 s).length≤1:=oP (by decide) (by rw[Nat.pow_one];exact hsT)
  omega
 have cp:=aBU hAl
 obtain⟨m,hm⟩:∃m,m+(n+2)=N:=⟨N-(n+2),by omega⟩
 have wm:IntKind.i64.wrap ((N:Int)-((n+2:Nat):Int))=(m:Int):=wrapN _ (by omega) (by omega)
 have wm1:IntKind.i64.wrap ((m:Int)-1)=(m:Int)-1:=wrap64 (by omega) (by omega)
 obtain⟨Hi,aqU⟩:∃Hi,Hi=aD 1000000000 (a*s)++aLu (N-(aD 1000000000 (a*s)).length) 0:=⟨_,rfl⟩
 rw[←aqU] at cp
 have mkm:Bc [.int .i64 0] 8 (VI (m:Int)) (VI (m:Int)) [.row 0 (Hi.map tV) 1 true]=some (.ref 1 0 0 m m,[.row 0 (Hi.map tV) 1 true]++[.row 0 ((aLu m 0).map tV) 1 true]):=oB (f:=tV) (x:=0) (H:=[.row 0 (Hi.map tV) 1 true]) rfl (by omega) (by omega)
 have lN:∀K,aG K 0 0=some (Hi.map tV,1,true)→sE (.ref 0 0 0 N N) K=some (VI (N:Int)):=fun K h=>eI h
 have l1:=lN [.row 0 (Hi.map tV) 1 true] rfl
 have l2:=lN (H2 Hi (aLu m 0)) rfl
 have azI:Hi.length=N:=by rw[aqU,aKP,aMt];omega
 have aBZ:∀d∈Hi,d<1000000000:=fun d hd=>by
  rw[aqU] at hd
  rcases List.mem_append.1 hd with h | h
  ·exact gH (by decide) _ d h
  ·rw[List.eq_of_mem_replicate h];decide
 have azQ:val 1000000000 Hi=a*s:=by rw[aqU,Bh,uY,Nat.mul_zero,Nat.add_zero,cL (by decide)]
 generalize TW:aD 1000000000 (b*s)=vs at *
 have I9:∀d∈vs,d<1000000000:=by rw[←TW];exact gH (by decide) _
 have QG:val 1000000000 vs=b*s:=by rw[←TW];exact cL (by decide) _
 have lV:∀H,sE (cA (b*s)) H=some (VI ((n+2:Nat):Int)):=fun H=>by rw[cN,TW,hVl]
 obtain⟨v1,f1⟩:∃v1,vs[n+1]? = some v1:=⟨_,aKL (by omega)⟩
 obtain⟨v0,f0⟩:∃v0,vs[n]? = some v0:=⟨_,aKL (by omega)⟩
 have hv1:1≤v1:=by
  obtain⟨d,hd,FD,_⟩:=KE (a:=b*s) (n:=n+1) (by rw[TW];exact hVl)
  rw[TW,f1] at hd
  cases hd
  omega
 have E2:val 1000000000 (Hi.drop m)<val 1000000000 vs:=by
  have h2:=tB (b:=1000000000) Hi m
  rw[List.length_take,azI,Nat.min_eq_left (by omega),azQ] at h2
  have h3:a<b*1000000000^m:=by
   have y1:=iN (b:=1000000000) (by decide) a
   have y2:=NC (b:=1000000000) (by decide) hb
   rw[hn] at y2
   have y3:1000000000^(n+2-1)*1000000000^m≤b*1000000000^m:=aK5 _ y2
   rw[←Nat.pow_add,show n+2-1+m=(aD 1000000000 a).length by omega] at y3
   exact Nat.lt_of_lt_of_le y1 y3
  have h4:a*s<b*1000000000^m*s:=aM9 h3 Vq
  have h5:b*1000000000^m*s=1000000000^m*(b*s):=by grind
  rw[QG]
  have h6:1000000000^m*val 1000000000 (Hi.drop m)<1000000000^m*(b*s):=by
   rw[←h5]
   exact Nat.lt_of_le_of_lt (by rw[h2];exact Nat.le_add_left _ _) h4
  exact Nat.lt_of_mul_lt_mul_left h6
 have body:VW ⟨true,false⟩ 0 (.loop kI)=VW ⟨true,false⟩ 0 (.loop kI):=rfl
 have tail:∀(us os:List Nat),us.length=N→(∀d∈us,d<1000000000)→os.length=m→(∀d∈os,d<1000000000)→val 1000000000 us+val 1000000000 vs*val 1000000000 os=a*s→val 1000000000 us<val 1000000000 vs →
   (∀lo K,dH 184 [.ref 0 0 0 N N] lo (H2 us os) K=K (cA (a % b*s)) (dC (H2 us os) [0])) ∧
   (∀lo K,dH 184 [.ref 1 0 0 m m] lo (dC (H2 us os) [0]) K=K (cA (a / b)) (dC (dC (H2 us os) [0]) [1]))∧TC 202 [cA (a % b*s),VI (s:Int)] (.dW [cA (a % b),VI ((a % b*s % s:Nat):Int)]):=by
  intro us os TU Mz gZ nO hv bI
  rw[QG] at hv bI
  have hq:val 1000000000 os=a / b:=by
   rw[←Nat.mul_div_mul_right a b Vq,←hv,Nat.add_mul_div_left _ _ (Nat.lt_of_le_of_lt (Nat.zero_le _) bI),Nat.div_eq_of_lt bI,aMc]
  have hr:val 1000000000 us=a % b*s:=by
   rw[←Nat.mul_mod_mul_right,←hv,Nat.add_mul_mod_self_left,Nat.mod_eq_of_lt bI]
  refine⟨fun lo K => ?_,fun lo K => ?_,?_⟩
  ·have h:=wT us Mz (by omega)
   rw[hr] at h
   exact TC.aqF (f:=tV) h XZ TU.symm (aKE _) Iu (fun _=>rfl) rfl rfl lo K
  ·have h:=wT os nO (by omega)
   rw[hq] at h
   have mA:aG (dC (H2 us os) [0]) 1 0=some (os.map tV,1,true):=rfl
   exact TC.aqF (f:=tV) h mA gZ.symm (aKE _) Iu (fun _=>rfl) rfl rfl lo K
  ·have h:=Bf (a % b*s) s Vq hsT (by
    have h2:=eW (b:=1000000000) (by decide) (aKF (aLl bI) (show b*s≤b*s from aKE _))
    rw[hr,TW] at h2
    omega)
   rwa [Nat.mul_div_cancel _ Vq] at h
 clear body
 have nV:cA (b*s)=jJ vs:=by rw[cA,TW]
 cases t1 with
 |
  false =>
  simp only[fZ,dX,s1,s2,c1,IW,cN,hn,h1',w0,w1,q0,et,wN,mkN,c3,c4,cp,lV,l1,l2,wm,wm1,mkm,List.cons_append,aLW,VX,Nat.reduceEqDiff,Nat.reduceAdd]
  refine R8 (Hi:=Hi) (os0:=aLu m 0) (vs:=vs) (N:=N) (m:=m) (n:=n) (A:=a*s) (s:=s) azI hm (by omega) aBZ hVl I9 f1 f0 hv1 azQ E2 (by simp) (CA (by decide) _) (by rfl) (by rfl) (by simp only[VX,Nat.reduceEqDiff,Nat.reduceAdd];exact nV) (by rfl) (by rfl) (by rfl) ?_
  intro AS us os r12 r13 r16 TU Mz gZ nO hv bI
  obtain⟨x1,x2,x3⟩:=tail us os TU Mz gZ nO hv bI
  simp only[r12,r13,r16,x1,x2,x3,VX,Nat.reduceEqDiff,Nat.reduceAdd]
  exact fin
 |
  true =>
  rw[ht rfl] at s2
  simp only[fZ,dX,s1,s2,c1,IW,cN,hn,h1',w0,w1,q0,et,wN,mkN,c3,c4,cp,lV,l1,l2,wm,wm1,mkm,List.cons_append,aLW,VX,Nat.reduceEqDiff,Nat.reduceAdd]
  refine R8 (Hi:=Hi) (os0:=aLu m 0) (vs:=vs) (N:=N) (m:=m) (n:=n) (A:=a*s) (s:=s) azI hm (by omega) aBZ hVl I9 f1 f0 hv1 azQ E2 (by simp) (CA (by decide) _) (by rfl) (by rfl) (by simp only[VX,Nat.reduceEqDiff,Nat.reduceAdd];exact nV) (by rfl) (by rfl) (by rfl) ?_
  intro AS us os r12 r13 r16 TU Mz gZ nO hv bI
  obtain⟨x1,x2,x3⟩:=tail us os TU Mz gZ nO hv bI
  simp only[r12,r13,r16,x1,x2,x3,VX,Nat.reduceEqDiff,Nat.reduceAdd]
  exact fin
end Go.PM
namespace Go.PM
theorem dM (n:Nat) {H:aA}:sE (bR n) H=some (VI (aD 4294967296 n).length):=eR
theorem AB {n:Nat}:(0:Int)<((aD 4294967296 n).length:Int)↔n≠0:=by
 constructor
 ·intro h h0
  subst h0
  rw[cE] at h
  simp at h
 ·intro h
  have:=(nU (b:=4294967296) (by decide) (n:=n))
  have h2:aD 4294967296 n≠[]:=fun hx=>h (this.1 hx)
  have:=aNC.2 h2
  omega
theorem Wq {n:Nat} (h:(aD 4294967296 n).length≤2):n<18446744073709551616:=by
 have h1:=iN (b:=4294967296) (by decide) n
 have h2:4294967296^(aD 4294967296 n).length≤4294967296^2:=aMH (by decide) h
 omega
theorem FI (a b:Nat) (ha:(aD 4294967296 a).length≤17592186044416) (hb:(aD 4294967296 b).length≤17592186044416):TC 175 [bR a,bR b] (bR (aNm a b)):=by
 refine TC.walk ⟨true,false⟩ K8 rfl (aMs rfl) (by simp[aO,bU]) (uA _) ?_
 simp only[FM,C2,VX,Nat.reduceEqDiff,Nat.reduceAdd]
 refine aP (fun(t:Nat×Nat) ρ H=>H=[]∧aNm t.1 t.2=aNm a b∧(aD 4294967296 t.1).length≤17592186044416∧(aD 4294967296 t.2).length≤17592186044416∧ρ 0=bR t.1∧ρ 1=bR t.2) (fun t=>t.2) (a,b) ⟨rfl,rfl,ha,hb,rfl,rfl⟩ ?_
 rintro⟨x,y⟩ ρ H ⟨rfl,hg,hx,hy,g0,g1⟩
 simp only at hg hx hy g0 g1
 have c1:=Dt x hx
 have c2:=Dt y hy
 by_cases hy0:y=0
 ·subst hy0
  have hl:¬(0:Int)<((aD 4294967296 0).length:Int):=by rw[AB];omega
  rw[aND] at hg
  simp only[kC,g0,g1,dM,hl,VX,Nat.reduceEqDiff,Nat.reduceAdd]
  rw[hg]
  exact aJ (bU _)
 have hl:(0:Int)<((aD 4294967296 y).length:Int):=AB.2 hy0
 by_cases h1:(aD 4294967296 x).length≤2∧(aD 4294967296 y).length≤2
 ·rw[if_pos h1.1] at c1
  rw[if_pos h1.2] at c2
  simp only[kC,g0,g1,dM,hl,c1,c2,VX,Nat.reduceEqDiff,Nat.reduceAdd]
  refine aP (fun(t:Nat×Nat) ρ H=>H=[]∧aNm t.1 t.2=aNm a b∧t.1<18446744073709551616∧t.2<18446744073709551616∧ρ 5=VK .u64 t.1∧ρ 7=VK .u64 t.2) (fun t=>t.2) (x,y) ⟨rfl,hg,Wq h1.1,Wq h1.2,rfl,rfl⟩ ?_
  rintro⟨u,v⟩ tK H ⟨rfl,hg2,hu,hv,k5,k7⟩
  simp only at hg2 hu hv k5 k7
  by_cases hv0:v=0
  ·subst hv0
   rw[aND] at hg2
   have hz:¬(0:Int)<((0:Nat):Int):=by omega
   have c3:=oS u hu
   simp only[wA,k5,k7,hz,c3,VX,Nat.reduceEqDiff,Nat.reduceAdd]
   rw[hg2]
   exact aJ (bU _)
  ·have hz:(0:Int)<(v:Int):=by omega
   have r1:=S6 u v (by omega)
   simp only[wA,k5,k7,hz,r1,VX,Nat.reduceEqDiff,Nat.reduceAdd]
   refine⟨(v,u % v),?_,?_,hv,?_,rfl,rfl⟩
   ·exact aK6 _ (by omega)
   ·simp only
    rw[←hg2,aNE u v,Nat.gcd_rec v u,aNE]
   ·simp only
    have:=aK6 u (show 0<v by omega)
    omega
 ·have c3:=Bw x y hy0 hx hy
  have next:∃s':Nat×Nat,s'.2<y∧aNm s'.1 s'.2=aNm a b∧(aD 4294967296 s'.1).length≤17592186044416∧(aD 4294967296 s'.2).length≤17592186044416∧bR y=bR s'.1∧bR (x % y)=bR s'.2:=by
   have hm:=aK6 x (show 0<y by omega)
   refine⟨(y,x % y),hm,?_,hy,?_,rfl,rfl⟩
   ·simp only
    rw[←hg,aNE x y,Nat.gcd_rec y x,aNE]
   ·simp only
    have:=eW (b:=4294967296) (by decide) (aLl hm)
    omega
  by_cases h2:(aD 4294967296 x).length≤2
  ·have h3:¬(aD 4294967296 y).length≤2:=fun h=>h1 ⟨h2,h⟩
   rw[if_pos h2] at c1
   rw[if_neg h3] at c2
   simp only[kC,g0,g1,dM,hl,c1,c2,c3,VX,Nat.reduceEqDiff,Nat.reduceAdd]
   exact next
  ·rw[if_neg h2] at c1
   by_cases h3:(aD 4294967296 y).length≤2
   ·rw[if_pos h3] at c2
    simp only[kC,g0,g1,dM,hl,c1,c2,c3,VX,Nat.reduceEqDiff,Nat.reduceAdd]
    exact next
   ·rw[if_neg h3] at c2
    simp only[kC,g0,g1,dM,hl,c1,c2,c3,VX,Nat.reduceEqDiff,Nat.reduceAdd]
    exact next
end Go.PM
namespace Go.PM
open Go.Lib
theorem yU (a b:List UInt8) (h:a.length+b.length≤9223372036854775807):dK .add (.string ⟨a.toArray⟩) (.string ⟨b.toArray⟩)=some (.string ⟨(a++b).toArray⟩):=by
 have h1:(⟨a.toArray⟩:ByteArray).size=a.length:=by simp[ByteArray.size]
 have h2:(⟨b.toArray⟩:ByteArray).size=b.length:=by simp[ByteArray.size]
 have h3:¬(((⟨a.toArray⟩:ByteArray).size+(⟨b.toArray⟩:ByteArray).size:Nat):Int)>IntKind.i64.max:=by
  rw[h1,h2]
  show ¬_>(9223372036854775807:Int)
  omega
 simp only[dK,h3,if_false]
 congr 2
theorem bO (a:List UInt8):DE (.string ⟨a.toArray⟩)=some (.int .i64 (a.length:Int)):=by simp[DE,ByteArray.size]
theorem asI:∀a:List UInt8,(aB (bD a)).length=1:=fun _=>rfl
theorem acK {xs:List (List UInt8)} {H:aA} {lo b g n:Nat} (hr:aG H b g=some (xs.map bD,1,true)) (hn:xs.length=n) (dS:lo≤b) (FH:n≤9223372036854775806) :
  jD 216 [.ref b g 0 n n] lo H fun r H'=>r = .dW []∧H'=H.set b (.row g (xs.reverse.map bD) 1 true):=by
 refine jD.walk ⟨true,false⟩ vI (aMs rfl) ?_
 have e0:sE (.ref b g 0 n n) H=some (VI n):=eI hr
 have w0:IntKind.i64.wrap ((n:Int)-1)=(n:Int)-1:=wrap64 (by omega) (by omega)
 simp only[nL,mE,e0,w0,VX,Nat.reduceEqDiff,Nat.reduceAdd]
 refine aP (fun(t:Nat×List (List UInt8)) ρ K=>t.1≤n∧K=H.set b (.row g (t.2.map bD) 1 true)∧t.2.length=n∧(∀k,k<n→t.2[k]? = if k<t.1∨n≤k+t.1 then xs[n-1-k]? else xs[k]?)∧ρ 0 = .ref b g 0 n n∧ρ 2=VI t.1∧ρ 3=VI ((n:Int)-1-(t.1:Int))) (fun t=>n-t.1) (0,xs) ⟨Nat.zero_le _,(AH hr).symm,hn,fun k hk=>by rw[if_neg (by simp only;omega)],rfl,rfl,by show VI ((n:Int)-1)=VI ((n:Int)-1-((0:Nat):Int));rw[Int.natCast_zero,Int.sub_zero]⟩ ?_
 rintro⟨i,ys⟩ ρ K ⟨hi,rfl,hl,hy,g0,g2,g3⟩
 simp only at hi hl hy g2 g3
 have hr2:aG (H.set b (.row g (ys.map bD) 1 true)) b g=some (ys.map bD,1,true):=qA hr
 by_cases bW:(i:Int)<(n:Int)-1-(i:Int)
 ·have hj:(n:Int)-1-(i:Int)=((n-1-i:Nat):Int):=by omega
  obtain⟨x,hx⟩:∃x,ys[i]? = some x:=⟨_,aKL (by omega)⟩
  obtain⟨y,hyy⟩:∃y,ys[n-1-i]? = some y:=⟨_,aKL (by omega)⟩
  rw[hj] at g3 bW
  have a1:∀(zs:List (List UInt8)) (k:Nat),zs.length=n→k<n→bJ 1 (.ref b g 0 n n) (VI (k:Int)) (H.set b (.row g (zs.map bD) 1 true))=some (.ptr b g k 0):=fun zs k h1 h2=>by rw[bB (qA hr) h2,aMc]
  have l1:bF false 1 (.ptr b g (n-1-i) 0) (H.set b (.row g (ys.map bD) 1 true))=some (bD y):=qB hr2 hyy
  have l2:bF false 1 (.ptr b g i 0) (H.set b (.row g (ys.map bD) 1 true))=some (bD x):=qB hr2 hx
  have s1:bL lo 1 (.ptr b g i 0) (bD y) (H.set b (.row g (ys.map bD) 1 true))=some (H.set b (.row g ((ys.set i y).map bD) 1 true)):=by rw[dP (f:=bD) (e:=1) hr2 (by omega) dS rfl rfl,oQ]
  have s2:bL lo 1 (.ptr b g (n-1-i) 0) (bD x) (H.set b (.row g ((ys.set i y).map bD) 1 true))=some (H.set b (.row g (((ys.set i y).set (n-1-i) x).map bD) 1 true)):=by rw[dP (f:=bD) (e:=1) (qA hr) (by rw[aMC];omega) dS rfl rfl,oQ]
  have w1:IntKind.i64.wrap ((i:Int)+1)=((i+1:Nat):Int):=wrapN _ (by omega) (by omega)
  have w2:IntKind.i64.wrap (((n-1-i:Nat):Int)-1)=(n:Int)-1-((i+1:Nat):Int):=by rw[wrap64 (by omega) (by omega)];omega
  have b1:=a1 ys i hl (by omega)
  have b2:=a1 ys (n-1-i) hl (by omega)
  have b3:=a1 (ys.set i y) (n-1-i) (by rw[aMC];exact hl) (by omega)
  simp only[gP,g0,g2,g3,bW,b1,b2,b3,l1,l2,s1,s2,w1,w2,VX,Nat.reduceEqDiff,Nat.reduceAdd]
  refine⟨(i+1,(ys.set i y).set (n-1-i) x),by simp only;omega,by simp only;omega,rfl,by simp only[aMC];exact hl,fun k hk => ?_,by (repeat' apply And.intro)<;>first | rfl | trivial⟩
  simp only
  have hxx:=hy i (by omega)
  rw[if_neg (by omega),hx] at hxx
  have hyx:=hy (n-1-i) (by omega)
  rw[if_neg (by omega),hyy] at hyx
  rw[List.getElem?_set,List.getElem?_set,aMC]
  by_cases h1:n-1-i=k
  ·subst h1
   rw[if_pos rfl,if_pos (by omega),if_pos (by omega),show n-1-(n-1-i)=i by omega]
   exact hxx
  ·rw[if_neg h1]
   by_cases h2:i=k
   ·subst h2
    rw[if_pos rfl,if_pos (by omega),if_pos (by omega)]
    exact hyx
   ·rw[if_neg h2,hy k hk]
    by_cases h3:k<i∨n≤k+i
    ·rw[if_pos h3,if_pos (by omega)]
    ·rw[if_neg h3,if_neg (by omega)]
 ·have aDv:ys=xs.reverse:=by
   apply List.ext_getElem?
   intro k
   rcases Nat.lt_or_ge k n with h | h
   ·rw[hy k h,List.getElem?_reverse (by omega),hn]
    split
    ·rfl
    ·rw[show n-1-k=k by omega]
   ·rw[aK4 (by omega),aK4 (by rw[aNF];omega)]
  subst aDv
  simp only[gP,g0,g2,g3,bW,VX,Nat.reduceEqDiff,Nat.reduceAdd]
  try exact⟨rfl,rfl⟩
theorem aeW (n:Nat):(aD 1000000000 n).length≤2*(aD 4294967296 n).length:=by
 refine oP (by decide) ?_
 have h1:=iN (b:=4294967296) (by decide) n
 have h2:4294967296^(aD 4294967296 n).length≤(1000000000^2)^(aD 4294967296 n).length:=Nat.pow_le_pow_left (by decide) _
 rw[←Nat.pow_mul] at h2
 omega
theorem atQ {n:Nat} (hn:n≠0):(decDigits n).length≤9*(aD 1000000000 n).length:=by
 have h1:=iN (b:=1000000000) (by decide) n
 have h3:(aD 1000000000 n)≠[]:=fun h=>hn ((nU (by decide)).1 h)
 have h4:=aNC.2 h3
 generalize (aD 1000000000 n).length=L at *
 obtain⟨k,hk⟩:∃k,9*L=k+1:=⟨9*L-1,by omega⟩
 have h5:(1000000000:Nat)^L=10^(9*L):=by rw[show (1000000000:Nat)=10^9 by decide,←Nat.pow_mul]
 rw[h5,hk] at h1
 rw[hk]
 exact DP n k h1
def uM (q:Nat):List UInt8:=if q=0 then [] else decDigits q
theorem EB (n:Nat) (hn:(aD 4294967296 n).length≤68719476736):TC 196 [bR n] (bD (decDigits n)):=by
 refine TC.walk ⟨true,false⟩ Ka rfl (aMs rfl) (by simp[aO,bU]) rfl ?_
 by_cases h0:n=0
 ·subst h0
  have hl:(((aD 4294967296 0).length:Nat):Int)=0:=by rw[cE];rfl
  simp only[Ap,vK,dM,hl,VX,Nat.reduceEqDiff,Nat.reduceAdd]
  rw[kD (by decide)]
  exact aJ rfl
 have hl:¬(((aD 4294967296 n).length:Nat):Int)=0:=by have:=AB.2 h0;omega
 have e1:∀lr,mV lr [.string ⟨#[]⟩] 0 [] []=some (.ref 0 0 0 0 0,[.row 0 (([]:List (List UInt8)).map bD) 1 true]):=fun lr=>mX (H:=[]) (lr:=lr) (z:=[.string ⟨#[]⟩]) rfl
 have hTn:=aeW n
 have hdl:=atQ h0
 simp only[Ap,vK,dM,hl,e1,VX,Nat.reduceEqDiff,Nat.reduceAdd]
 refine aP (fun(t:Nat×List (List UInt8)) ρ H=>H=[.row t.2.length (t.2.map bD) 1 true]∧t.1≤n∧t.2.length+(aD 1000000000 t.1).length=(aD 1000000000 n).length∧decDigits n=uM t.1++t.2.reverse.flatten∧ρ 0=bR t.1∧ρ 3 = .ref 0 t.2.length 0 t.2.length t.2.length) (fun t=>t.1) (n,[]) ⟨rfl,aKE _,by simp,by simp[uM,h0],rfl,rfl⟩ ?_
 rintro⟨q,ps⟩ ρ H ⟨rfl,hq,hlen,adU,g0,g3⟩
 simp only at hq hlen adU g0 g3
 by_cases T0:q=0
 ·subst T0
  have hz:¬(0:Int)<((aD 4294967296 0).length:Int):=by rw[AB];omega
  rw[uM,if_pos rfl,aLW] at adU
  have hr:aG [.row ps.length (ps.map bD) 1 true] 0 ps.length=some (ps.map bD,1,true):=aU
  simp only[pM,g0,g3,dM,hz,VX,Nat.reduceEqDiff,Nat.reduceAdd]
  refine fU rfl ((acK hr rfl (aKE _) (by omega)).mono ?_)
  rintro r H' ⟨rfl,rfl⟩
  have Lp:([.row ps.length (ps.map bD) 1 true]:aA).set 0 (.row ps.length (ps.reverse.map bD) 1 true)=[.row ps.length (ps.reverse.map bD) 1 true]:=rfl
  have hr2:aG [.row ps.length (ps.reverse.map bD) 1 true] 0 ps.length=some (ps.reverse.map bD,1,true):=aU
  have hfl:ps.reverse.flatten.length≤140737488355328:=by rw[←adU];omega
  have cj:=(ayO ps.reverse (by rw[aNF];omega) hfl).flat (H:=[.row ps.length (ps.reverse.map bD) 1 true]) (args:=[.ref 0 ps.length 0 ps.length ps.length,bD []]) rfl (by simp only[aO,mR (f:=bD) asI (fun _=>rfl),Bool.and_true];rfl) (fz2 (IA hr2 (by simp) (aKE _) (fN fun _=>rfl)) (aJ rfl)) rfl
  simp only[Lp,g3,cj,VX,Nat.reduceEqDiff,Nat.reduceAdd]
  rw[←adU]
  exact aJ rfl
 ·have hz:(0:Int)<((aD 4294967296 q).length:Int):=AB.2 T0
  have hql:=eW (b:=4294967296) (by decide) hq
  have c1:TC 197 [bR q,.sc (.int .u32 1000000000)] (.dW [bR (q / 1000000000),uV (q % 1000000000)]):=Av q 1000000000 (by decide) (by decide) (by omega)
  have hm:=aK6 q (show 0<1000000000 by decide)
  have c2:=awC (q % 1000000000) (by omega)
  have wm:IntKind.u64.wrap ((q % 1000000000:Nat):Int)=((q % 1000000000:Nat):Int):=eT _ (by omega)
  have hdq:=kU (b:=1000000000) (by decide) T0
  have aHu:(aD 1000000000 q).length=(aD 1000000000 (q / 1000000000)).length+1:=by rw[hdq];rfl
  have hdr:=DP (q % 1000000000) 8 hm
  have hqq:=Nat.mod_add_div q 1000000000
  have e2:∀x:List UInt8,mV false [.string ⟨#[]⟩] 1 [(0,bD x)] [.row ps.length (ps.map bD) 1 true]=some (.tree [bD x] (.cl 1),[.row ps.length (ps.map bD) 1 true]):=fun x=>iU (z:=[.string ⟨#[]⟩]) rfl rfl rfl
  have e3:∀x:List UInt8,cW 1 (.tree [bD x] (.cl 1)) [.row ps.length (ps.map bD) 1 true]=some [bD x]:=fun x=>eU rfl rfl
  have e4:∀x:List UInt8,dO 0 1 16 (.ref 0 ps.length 0 ps.length ps.length) [bD x] [.row ps.length (ps.map bD) 1 true]=some (.ref 0 (ps.length+1) 0 (ps.length+1) (ps.length+1),[.row (ps.length+1) ((ps++[x]).map bD) 1 true]):=fun x=>by
   rw[jV (f:=bD) (x:=x) aU rfl (aKE _) (by decide) (by decide) (by omega)]
   rfl
  have hle:q / 1000000000<q:=Nat.div_lt_self (by omega) (by decide)
  by_cases hqz:q / 1000000000=0
  ·have Nz:¬(0:Int)<((aD 4294967296 (q / 1000000000)).length:Int):=by rw[AB];omega
   simp only[pM,g0,g3,dM,hz,c1,c2,wm,Nz,e2,e3,e4,VX,Nat.reduceEqDiff,Nat.reduceAdd]
   refine⟨(q / 1000000000,ps++[decDigits (q % 1000000000)]),hle,by simp,by simp only;omega,by simp only[aKP,aMT];omega,?_,rfl,by simp⟩
   rw[adU,uM,if_neg T0,uM,if_pos hqz,aNG,aLW,aNH,aNI,List.flatten_cons,show q % 1000000000=q by omega]
  ·have Nz:(0:Int)<((aD 4294967296 (q / 1000000000)).length:Int):=AB.2 hqz
   have ws:IntKind.i64.wrap ((9:Int)-((decDigits (q % 1000000000)).length:Int))=((9-(decDigits (q % 1000000000)).length:Nat):Int):=wrapN _ (by omega) (by omega)
   have c3:=amZ [48] (9-(decDigits (q % 1000000000)).length) (by simp;omega) (by omega)
   have agX:repeatL [48] (9-(decDigits (q % 1000000000)).length)++decDigits (q % 1000000000)=Fb 9 (q % 1000000000):=by
    rw[aAj 8 _ hm]
    congr 1
    have:=repeatL_replicate 48 1 (9-(decDigits (q % 1000000000)).length)
    rw[Nat.mul_one] at this
    exact this
   have c4:=yU (repeatL [48] (9-(decDigits (q % 1000000000)).length)) (decDigits (q % 1000000000)) (by rw[←aKP,agX,apK];decide)
   rw[agX] at c4
   simp only[pM,g0,g3,dM,hz,c1,c2,wm,Nz,bO,ws,c3,c4,e2,e3,e4,VX,Nat.reduceEqDiff,Nat.reduceAdd]
   refine⟨(q / 1000000000,ps++[Fb 9 (q % 1000000000)]),hle,by simp,by simp only;omega,by simp only[aKP,aMT];omega,?_,rfl,by simp⟩
   rw[adU,uM,if_neg T0,uM,if_neg hqz,aNG,aNH,aNI,List.flatten_cons,←List.append_assoc,←KM (by omega) hm]
   congr 2
   omega
end Go.PM
namespace Go.PM
open Go.Lib
def aF (q:Rat):VV := .agg [VB (decide (q.num<0)),bR q.num.natAbs,bR q.den]
theorem fV (q:Rat):aY (aF q)=true:=by simp[aF,aY,aO,bU,qH]
theorem pX (q:Rat):gU (aF q)=true:=by simp[aF,gU,sO,uA,qH]
theorem Ek {q:Rat} {neg:Bool} {t b:Nat} (h0:q.num<0↔neg=true) (h1:q.num.natAbs=t) (h2:q.den=b):aF q = .agg [VB neg,bR t,bR b]:=by
 subst h1 h2
 unfold aF
 congr 4
 cases neg<;>simp_all
theorem atS {neg:Bool} {t b:Nat} (hb:b≠0) (ht:t≠0):aF (mkRat (mI neg t) b) = .agg [VB neg,bR (t / aNm t b),bR (b / aNm t b)]:=by
 refine Ek ?_ ?_ (Sk hb)
 ·rw[IM hb,Tf]
  have h1:t / aNm t b≠0:=by
   have:=Nat.div_pos (aNn (by omega) (aNo t b)) (aNp b (by omega))
   omega
  simp[h1]
 ·rw[IM hb,qY]
theorem aeB:aF 0 = .agg [VB false,.tree [] .op,bR 1]:=by
 rw[Ek (q:=0) (neg:=false) (t:=0) (b:=1) (by simp) rfl rfl,GZ]
theorem aZ (n:Nat):bP (bR n)=true:=rfl
theorem bA (n:Nat):isAny (bR n)=false:=rfl
theorem aS (n:Nat):aB (bR n)=[bR n]:=rfl
theorem cM (q:Rat):isAny (aF q)=false:=rfl
theorem aK (q:Rat):aB (aF q)=[VB (decide (q.num<0)),bR q.num.natAbs,bR q.den]:=rfl
theorem bH (q:Rat):dQ true 3 (aF q) 0=some (aF q):=rfl
theorem kZ (q:Rat):dQ false 1 (aF q) 0=some (VB (decide (q.num<0))):=rfl
theorem lC (q:Rat):dQ false 1 (aF q) 1=some (bR q.num.natAbs):=rfl
theorem nP (q:Rat):dQ false 1 (aF q) 2=some (bR q.den):=rfl
theorem uD {d:Nat} {H:aA} {u u' v v' w w':VV} (h1:fz (d+1) H u=some u') (h2:fz (d+1) H v=some v') (h3:fz (d+1) H w=some w'):fz (d+2) H (.agg [u,v,w])=some (.agg [u',v',w']):=by
 have e:fz (d+2) H (.agg [u,v,w])=if aY (.agg [u,v,w])=true then some (.agg [u,v,w]) else ([u,v,w].mapM (fz (d+1) H)).map .agg:=rfl
 rw[e]
 by_cases hp:aY (.agg [u,v,w])=true
 ·rw[if_pos hp]
  simp only[aY,aO,Bool.and_eq_true,and_true] at hp
  rw[aM hp.1] at h1
  rw[aM hp.2.1] at h2
  rw[aM hp.2.2] at h3
  cases h1
  cases h2
  cases h3
  rfl
 ·rw[if_neg hp,aL1,h1,aL1,h2,aL1,h3]
  rfl
theorem akI {d:Nat} {H:aA} {v:Value} (h:qH v=true):fz (d+1) H (.sc v)=some (.sc v):=aM h
theorem zT {H:aA} {neg:Bool} {t b:Nat}:fz depth H (.agg [VB neg,bR t,bR b])=some (.agg [VB neg,bR t,bR b]):=aJ (by simp[aY,aO,bU,qH])
theorem uG {H:aA} (q:Rat):fz depth H (aF q)=some (aF q):=aJ (fV q)
theorem aCl {n:Nat} (h:bl n≤2199023255552):(aD 4294967296 n).length≤68719476736:=by
 have:=auE n
 omega
theorem gK {n:Nat} (h:bl n≤4398046511104):(aD 4294967296 n).length≤17592186044416:=by
 have:=auE n
 omega
theorem tY (neg:Bool) (t b:Nat) (hb:b≠0) (ht:bl t≤4398046511104) (zD:bl b≤4398046511104):TC 144 [VB neg,bR t,bR b] (aF (mkRat (mI neg t) b)):=by
 refine TC.walk ⟨true,false⟩ Qp rfl (aMs rfl) (by simp[aO,bU,aY,qH]) (pX _) ?_
 by_cases h0:t=0
 ·subst h0
  have hl:(((aD 4294967296 0).length:Nat):Int)=0:=by rw[cE];rfl
  have c1:TC 139 [.sc (.int .u64 1)] (bR 1):=oS 1 (by decide)
  rw[Bu,Rat.zero_mkRat,aeB,←GZ]
  simp only[zM,tT,dM,hl,c1,aZ,bA,aS,gG,Nat.reduceLeDiff,Nat.reduceLT,Nat.reduceSub,VX,Nat.reduceEqDiff,Nat.reduceAdd]
  exact uD (akI rfl) AI (aM (bU _))
 ·have hl:¬(((aD 4294967296 t).length:Nat):Int)=0:=by have:=AB.2 h0;omega
  have c1:=FI t b (gK ht) (gK zD)
  have hg0:aNm t b≠0:=aNJ hb
  have hgl:bl (aNm t b)≤4398046511104:=aKF (mB (Nat.gcd_le_right t (by omega))) zD
  have c2:=Bw t _ hg0 (gK ht) (gK hgl)
  have c3:=Bw b _ hg0 (gK zD) (gK hgl)
  rw[atS hb h0]
  by_cases h1:((aD 4294967296 (aNm t b)).length:Int)=1
  ·obtain⟨d,hd⟩:∃d,aD 4294967296 (aNm t b)=[d]:=aNB.1 (by omega)
   obtain⟨hgd,_,_⟩:=UN hd
   have e1:bJ 1 (bR (aNm t b)) (.sc (.int .i64 0)) [.row 0 [.agg [VB false,.tree [] .nil,.tree [] .nil]] 3 true]=some (.cG (uV d) 0):=aH (f:=uV) (xs:=aD 4294967296 (aNm t b)) (i:=0) (k := .i64) (by rw[hd];rfl) rfl
   by_cases h2:(d:Int)=1
   ·have hg1:aNm t b=1:=by omega
    simp only[zM,tT,dM,hl,c1,h1,h2,e1,aZ,bA,aS,gG,Nat.reduceLeDiff,Nat.reduceLT,Nat.reduceSub,VX,Nat.reduceEqDiff,Nat.reduceAdd]
    rw[hg1,aNt,aNt]
    exact zT
   ·simp only[zM,tT,dM,hl,c1,c2,c3,h1,h2,e1,aZ,bA,aS,gG,Nat.reduceLeDiff,Nat.reduceLT,Nat.reduceSub,VX,Nat.reduceEqDiff,Nat.reduceAdd]
    exact zT
  ·simp only[zM,tT,dM,hl,c1,c2,c3,h1,aZ,bA,aS,gG,Nat.reduceLeDiff,Nat.reduceLT,Nat.reduceSub,VX,Nat.reduceEqDiff,Nat.reduceAdd]
   exact zT
theorem abR {n:Int} (h0 : -9223372036854775808≤n) (h:n<0):IntKind.u64.wrap (0-IntKind.u64.wrap n)=(n.natAbs:Int):=by
 rw[wrap_u64,wrap_u64]
 omega
theorem Lq (n:Int) (h0 : -9223372036854775808≤n) (h1:n≤9223372036854775807):TC 140 [VI n] (VK .u64 (n.natAbs:Int)):=by
 refine TC.walk ⟨true,false⟩ Lr rfl (aMs rfl) rfl rfl ?_
 by_cases h:n<0
 ·simp only[BM,yS,h,abR h0 h,VX,Nat.reduceEqDiff,Nat.reduceAdd]
  exact aJ rfl
 ·have w:IntKind.u64.wrap n=(n.natAbs:Int):=by rw[wrap_u64];omega
  simp only[BM,yS,h,w,VX,Nat.reduceEqDiff,Nat.reduceAdd]
  exact aJ rfl
theorem anA (n:Int):aF (n:Rat) = .agg [VB (decide (n<0)),bR n.natAbs,bR 1]:=Ek (by simp) (by simp) (by simp)
theorem nB (n:Int) (h0 : -9223372036854775808≤n) (h1:n≤9223372036854775807):TC 64 [VI n] (aF (n:Rat)):=by
 refine TC.walk ⟨true,false⟩ TM rfl (aMs rfl) rfl (pX _) ?_
 have c1:=Lq n h0 h1
 have c2:=oS n.natAbs (by omega)
 have c3:TC 139 [.sc (.int .u64 1)] (bR 1):=oS 1 (by decide)
 rw[anA]
 simp only[Oq,Kj,c1,c2,c3,aZ,bA,aS,gG,Nat.reduceLeDiff,Nat.reduceLT,Nat.reduceSub,VX,Nat.reduceEqDiff,Nat.reduceAdd]
 exact zT
theorem NI {q:Rat}:(((aD 4294967296 q.num.natAbs).length:Nat):Int)=0↔q.num=0:=by
 have:=AB (n:=q.num.natAbs)
 omega
theorem dI (q:Rat):TC 68 [aF q] (VI (jI q)):=by
 refine TC.walk ⟨true,false⟩ Jv rfl (aMs rfl) (by simp[aO,fV]) rfl ?_
 unfold jI
 by_cases h0:q.num=0
 ·have hl:=NI.2 h0
  rw[if_pos h0]
  simp only[uK,qT,dM,hl,aK,kZ,lC,aZ,bA,aS,gG,Nat.reduceLeDiff,Nat.reduceLT,Nat.reduceSub,VX,Nat.reduceEqDiff,Nat.reduceAdd]
  exact aJ rfl
 ·have hl:¬(((aD 4294967296 q.num.natAbs).length:Nat):Int)=0:=fun h=>h0 (NI.1 h)
  rw[if_neg h0]
  by_cases h1:q.num<0
  ·simp only[uK,qT,dM,hl,h1,aK,kZ,lC,aZ,bA,aS,gG,Nat.reduceLeDiff,Nat.reduceLT,Nat.reduceSub,VX,Nat.reduceEqDiff,Nat.reduceAdd]
   exact aJ rfl
  ·simp only[uK,qT,dM,hl,h1,aK,kZ,lC,aZ,bA,aS,gG,Nat.reduceLeDiff,Nat.reduceLT,Nat.reduceSub,VX,Nat.reduceEqDiff,Nat.reduceAdd]
   exact aJ rfl
theorem DF (q:Rat):TC 177 [aF q] (aF (-q)):=by
 refine TC.walk ⟨true,false⟩ Ij rfl (aMs rfl) (by simp[aO,fV]) (pX _) ?_
 have hq:aF (-q) = .agg [VB (decide (0<q.num)),bR q.num.natAbs,bR q.den]:=Ek (by simp) (by simp) (by simp)
 rw[hq]
 by_cases h1:q.num<0
 ·have h2:¬0<q.num:=by omega
  simp only[sU,pI,dM,h1,h2,aK,kZ,lC,nP,aZ,bA,aS,gG,Nat.reduceLeDiff,Nat.reduceLT,Nat.reduceSub,VX,Nat.reduceEqDiff,Nat.reduceAdd]
  exact zT
 ·by_cases h0:q.num=0
  ·have hl:¬(0:Int)<((aD 4294967296 q.num.natAbs).length:Int):=by have:=NI.2 h0;omega
   have h2:¬0<q.num:=by omega
   simp only[sU,pI,dM,hl,h1,h2,aK,kZ,lC,nP,aZ,bA,aS,gG,Nat.reduceLeDiff,Nat.reduceLT,Nat.reduceSub,VX,Nat.reduceEqDiff,Nat.reduceAdd]
   exact zT
  ·have hl:(0:Int)<((aD 4294967296 q.num.natAbs).length:Int):=by have:=mt NI.1 h0;omega
   have h2:0<q.num:=by omega
   simp only[sU,pI,dM,hl,h1,h2,aK,kZ,lC,nP,aZ,bA,aS,gG,Nat.reduceLeDiff,Nat.reduceLT,Nat.reduceSub,VX,Nat.reduceEqDiff,Nat.reduceAdd]
   exact zT
end Go.PM
namespace Go.PM
open Go.Lib
theorem xW (a b:Bool):OO false (.bool a) (.bool b)=some (.bool (a == b)):=by
 show some (Value.bool ((a == b) != false))=_
 rw[Bool.bne_false]
theorem Ai (a b:Bool):OO true (.bool a) (.bool b)=some (.bool (a != b)):=by
 show some (Value.bool ((a == b) != true))=_
 cases a<;>cases b<;>rfl
theorem uW {q:Rat} {k:Nat} (h:aL q≤k):bl q.num.natAbs≤k:=aKF pZ h
theorem uX {q:Rat} {k:Nat} (h:aL q≤k):bl q.den≤k:=aKF oA h
theorem Ll {X Y B:Nat} {a b:Rat} (hB:B≠0) (ha:mkRat (mI (decide (a.num<0)) X) B=a) (hb:mkRat (mI (decide (b.num<0)) Y) B=b) :
  ((decide (a.num<0))=(decide (b.num<0))→mkRat (mI (decide (a.num<0)) (X+Y)) B=a+b) ∧
  ((decide (a.num<0))≠(decide (b.num<0))→Y≤X→mkRat (mI (decide (a.num<0)) (X-Y)) B=a+b) ∧
  ((decide (a.num<0))≠(decide (b.num<0))→X≤Y→mkRat (mI (decide (b.num<0)) (Y-X)) B=a+b):=by
 refine⟨fun h => ?_,fun h hx => ?_,fun h hx => ?_⟩
 ·conv=>rhs;rw[←ha,←hb,Gl _ _ hB,←h,Sr]
 ·conv=>rhs;rw[←ha,←hb,Gl _ _ hB,XR h hx]
 ·conv=>rhs;rw[←ha,←hb,Gl _ _ hB,Xm h hx]
theorem oJ (a b:Rat) (Mg:aL a≤1099511627776) (IV:aL b≤1099511627776):TC 69 [aF a,aF b] (aF (a+b)):=by
 refine TC.walk ⟨true,false⟩ Lk rfl (aMs rfl) (by simp[aO,fV]) (pX _) ?_
 have ca:=dI a
 have cb:=dI b
 by_cases ha0:a.num=0
 ·have:a=0:=aNz.1 ha0
  rw[kX ha0] at ca
  rw[this,Rat.zero_add,←this]
  simp only[iK,fE,ca,cb,aK,bH,cM,aZ,bA,aS,gG,Nat.reduceLeDiff,Nat.reduceLT,Nat.reduceSub,VX,Nat.reduceEqDiff,Nat.reduceAdd]
  exact uG _
 have hsa:¬jI a=0:=fun h=>ha0 (aNz.2 (Ep.1 h))
 by_cases Qn:b.num=0
 ·have:b=0:=aNz.1 Qn
  rw[kX Qn] at cb
  rw[this,Rat.add_zero,←this]
  simp only[iK,fE,ca,cb,hsa,aK,bH,cM,aZ,bA,aS,gG,Nat.reduceLeDiff,Nat.reduceLT,Nat.reduceSub,VX,Nat.reduceEqDiff,Nat.reduceAdd]
  exact uG _
 have hsb:¬jI b=0:=fun h=>Qn (aNz.2 (Ep.1 h))
 have la:=uW Mg
 have lb:=uW IV
 have lda:=uX Mg
 have ldb:=uX IV
 have fin:∀(X Y B:Nat),bl X≤2199023255552→bl Y≤2199023255552→bl B≤2199023255552→B≠0→mkRat (mI (decide (a.num<0)) X) B=a→mkRat (mI (decide (b.num<0)) Y) B=b →
   TC 145 [bR X,bR Y] (bR (X+Y))∧TC 142 [bR X,bR Y] (VI (gC X Y)) ∧
   (Y≤X→TC 146 [bR X,bR Y] (bR (X-Y)))∧(X≤Y→TC 146 [bR Y,bR X] (bR (Y-X))) ∧
   (∀neg,TC 144 [VB neg,bR (X+Y),bR B] (aF (mkRat (mI neg (X+Y)) B))) ∧
   (∀neg,TC 144 [VB neg,bR (X-Y),bR B] (aF (mkRat (mI neg (X-Y)) B))) ∧
   (∀neg,TC 144 [VB neg,bR (Y-X),bR B] (aF (mkRat (mI neg (Y-X)) B))):=by
  intro X Y B hX hY hB hB0 _ _
  refine⟨Fu X Y (gK (by omega)) (gK (by omega)),lQ X Y (gK (by omega)) (gK (by omega)),fun h=>Fq X Y h (gK (by omega)),fun h=>Fq Y X h (gK (by omega)),fun neg=>tY neg _ _ hB0 ?_ (by omega),fun neg=>tY neg _ _ hB0 ?_ (by omega),fun neg=>tY neg _ _ hB0 ?_ (by omega)⟩
  ·exact aKF (Xo hX hY) (by omega)
  ·exact aKF (mB (aNK _ _)) (by omega)
  ·exact aKF (mB (aNK _ _)) (by omega)
 by_cases hd:a.den=b.den
 ·have hBn:=a.den_nz
  have cc:=lQ a.den b.den (gK (by omega)) (gK (by omega))
  rw[show gC a.den b.den=0 from AT.2 hd] at cc
  have eb:mkRat (mI (decide (b.num<0)) b.num.natAbs) a.den=b:=by rw[hd,Ny]
  obtain⟨f1,f2,f3,f4,f5,f6,f7⟩:=fin a.num.natAbs b.num.natAbs a.den (by omega) (by omega) (by omega) hBn (Ny a) eb
  obtain⟨p1,p2,p3⟩:=Ll hBn (Ny a) eb
  by_cases hn:decide (a.num<0)=decide (b.num<0)
  ·have W3:(decide (a.num<0) == decide (b.num<0))=true:=by simpa using hn
   rw[←p1 hn]
   simp only[iK,fE,ca,cb,hsa,hsb,cc,f1,f5,xW,Ai,W3,aK,bH,kZ,lC,nP,cM,aZ,bA,aS,gG,Nat.reduceLeDiff,Nat.reduceLT,Nat.reduceSub,VX,Nat.reduceEqDiff,Nat.reduceAdd]
   exact uG _
  ·have W3:(decide (a.num<0) == decide (b.num<0))=false:=by simpa using hn
   by_cases hx:(0:Int)≤gC a.num.natAbs b.num.natAbs
   ·have hle:b.num.natAbs≤a.num.natAbs:=by have := @AJ a.num.natAbs b.num.natAbs;omega
    have c3:=f3 hle
    rw[←p2 hn hle]
    simp only[iK,fE,ca,cb,hsa,hsb,cc,f2,c3,f6,hx,xW,Ai,W3,aK,bH,kZ,lC,nP,cM,aZ,bA,aS,gG,Nat.reduceLeDiff,Nat.reduceLT,Nat.reduceSub,VX,Nat.reduceEqDiff,Nat.reduceAdd]
    exact uG _
   ·have hle:a.num.natAbs≤b.num.natAbs:=by have := @AJ a.num.natAbs b.num.natAbs;omega
    have c3:=f4 hle
    rw[←p3 hn hle]
    simp only[iK,fE,ca,cb,hsa,hsb,cc,f2,c3,f7,hx,xW,Ai,W3,aK,bH,kZ,lC,nP,cM,aZ,bA,aS,gG,Nat.reduceLeDiff,Nat.reduceLT,Nat.reduceSub,VX,Nat.reduceEqDiff,Nat.reduceAdd]
    exact uG _
 ·have hBn:=aNq a.den_nz b.den_nz
  have cc:=lQ a.den b.den (gK (by omega)) (gK (by omega))
  have TX:¬gC a.den b.den=0:=fun h=>hd (AT.1 h)
  have m1:=jS a.num.natAbs b.den (gK (by omega)) (gK (by omega))
  have m2:=jS b.num.natAbs a.den (gK (by omega)) (gK (by omega))
  have m3:=jS a.den b.den (gK (by omega)) (gK (by omega))
  have ea:mkRat (mI (decide (a.num<0)) (a.num.natAbs*b.den)) (a.den*b.den)=a:=GY a b.den_nz
  have eb:mkRat (mI (decide (b.num<0)) (b.num.natAbs*a.den)) (a.den*b.den)=b:=by rw[aL6 a.den];exact GY b a.den_nz
  have k1:=oC a.num.natAbs b.den
  have k2:=oC b.num.natAbs a.den
  have k3:=oC a.den b.den
  obtain⟨f1,f2,f3,f4,f5,f6,f7⟩:=fin _ _ _ (by omega) (by omega) (by omega) hBn ea eb
  obtain⟨p1,p2,p3⟩:=Ll hBn ea eb
  by_cases hn:decide (a.num<0)=decide (b.num<0)
  ·have W3:(decide (a.num<0) == decide (b.num<0))=true:=by simpa using hn
   rw[←p1 hn]
   simp only[iK,fE,ca,cb,hsa,hsb,cc,TX,m1,m2,m3,f1,f5,xW,Ai,W3,aK,bH,kZ,lC,nP,cM,aZ,bA,aS,gG,Nat.reduceLeDiff,Nat.reduceLT,Nat.reduceSub,VX,Nat.reduceEqDiff,Nat.reduceAdd]
   exact uG _
  ·have W3:(decide (a.num<0) == decide (b.num<0))=false:=by simpa using hn
   by_cases hx:(0:Int)≤gC (a.num.natAbs*b.den) (b.num.natAbs*a.den)
   ·have hle:b.num.natAbs*a.den≤a.num.natAbs*b.den:=by have := @AJ (a.num.natAbs*b.den) (b.num.natAbs*a.den);omega
    have c3:=f3 hle
    rw[←p2 hn hle]
    simp only[iK,fE,ca,cb,hsa,hsb,cc,TX,m1,m2,m3,f2,c3,f6,hx,xW,Ai,W3,aK,bH,kZ,lC,nP,cM,aZ,bA,aS,gG,Nat.reduceLeDiff,Nat.reduceLT,Nat.reduceSub,VX,Nat.reduceEqDiff,Nat.reduceAdd]
    exact uG _
   ·have hle:a.num.natAbs*b.den≤b.num.natAbs*a.den:=by have := @AJ (a.num.natAbs*b.den) (b.num.natAbs*a.den);omega
    have c3:=f4 hle
    rw[←p3 hn hle]
    simp only[iK,fE,ca,cb,hsa,hsb,cc,TX,m1,m2,m3,f2,c3,f7,hx,xW,Ai,W3,aK,bH,kZ,lC,nP,cM,aZ,bA,aS,gG,Nat.reduceLeDiff,Nat.reduceLT,Nat.reduceSub,VX,Nat.reduceEqDiff,Nat.reduceAdd]
    exact uG _
theorem BF (a b:Rat) (Mg:aL a≤1099511627776) (IV:aL b≤1099511627776):TC 128 [aF a,aF b] (aF (a-b)):=by
 refine TC.walk ⟨true,false⟩ K2 rfl (aMs rfl) (by simp[aO,fV]) (pX _) ?_
 have c1:=DF b
 have c2:=oJ a (-b) Mg (by rw[G9];exact IV)
 rw[←Rat.sub_eq_add_neg] at c2
 simp only[F3,Du,c1,c2,aK,bH,cM,aZ,bA,aS,gG,Nat.reduceLeDiff,Nat.reduceLT,Nat.reduceSub,VX,Nat.reduceEqDiff,Nat.reduceAdd]
 exact uG _
theorem lJ (a b:Rat) (Mg:aL a≤1099511627776) (IV:aL b≤1099511627776):TC 132 [aF a,aF b] (aF (a*b)):=by
 refine TC.walk ⟨true,false⟩ KN rfl (aMs rfl) (by simp[aO,fV]) (pX _) ?_
 have ca:=dI a
 have cb:=dI b
 have c0:TC 64 [VI 0] (aF 0):=nB 0 (by decide) (by decide)
 by_cases ha0:a.num=0
 ·have:a=0:=aNz.1 ha0
  rw[kX ha0] at ca
  rw[show a*b=0 by rw[this,Rat.zero_mul]]
  simp only[wK,sJ,ca,cb,c0,aK,bH,cM,aZ,bA,aS,gG,Nat.reduceLeDiff,Nat.reduceLT,Nat.reduceSub,VX,Nat.reduceEqDiff,Nat.reduceAdd]
  exact uG _
 have hsa:¬jI a=0:=fun h=>ha0 (aNz.2 (Ep.1 h))
 by_cases Qn:b.num=0
 ·have:b=0:=aNz.1 Qn
  rw[kX Qn] at cb
  rw[show a*b=0 by rw[this,Rat.mul_zero]]
  simp only[wK,sJ,ca,cb,hsa,c0,aK,bH,cM,aZ,bA,aS,gG,Nat.reduceLeDiff,Nat.reduceLT,Nat.reduceSub,VX,Nat.reduceEqDiff,Nat.reduceAdd]
  exact uG _
 have hsb:¬jI b=0:=fun h=>Qn (aNz.2 (Ep.1 h))
 have la:=uW Mg
 have lb:=uW IV
 have lda:=uX Mg
 have ldb:=uX IV
 have l1:=tY false a.num.natAbs b.den b.den_nz (by omega) (by omega)
 have l2:=tY false b.num.natAbs a.den a.den_nz (by omega) (by omega)
 obtain⟨d1,d2⟩:=El a.num.natAbs b.den_nz
 obtain⟨d3,d4⟩:=El b.num.natAbs a.den_nz
 have b1:=mB (aNn (by omega) d1)
 have b2:=mB (aNn (Nat.pos_of_ne_zero b.den_nz) d2)
 have b3:=mB (aNn (by omega) d3)
 have b4:=mB (aNn (Nat.pos_of_ne_zero a.den_nz) d4)
 obtain⟨e1,e2⟩:=aeE a b
 have e3:=UR ha0 Qn
 generalize mkRat (mI false a.num.natAbs) b.den=u at *
 generalize mkRat (mI false b.num.natAbs) a.den=v at *
 have m1:=jS u.num.natAbs v.num.natAbs (gK (by omega)) (gK (by omega))
 have m2:=jS u.den v.den (gK (by omega)) (gK (by omega))
 rw[Ek e3 e1 e2]
 simp only[wK,sJ,ca,cb,hsa,hsb,l1,l2,m1,m2,xW,Ai,aK,bH,kZ,lC,nP,cM,aZ,bA,aS,gG,Nat.reduceLeDiff,Nat.reduceLT,Nat.reduceSub,VX,Nat.reduceEqDiff,Nat.reduceAdd]
 exact zT
theorem alK {b:Rat} (h:b≠0):aF b⁻¹ = .agg [VB (decide (b.num<0)),bR b.den,bR b.num.natAbs]:=by
 have hn:b.num≠0:=fun hn=>h (aNz.1 hn)
 have hd:(0:Int)<b.den:=by have:=b.den_nz;omega
 refine Ek ?_ ?_ ?_
 ·rw[Rat.num_inv,decide_eq_true_eq]
  rcases aNu hn with h1 | h1
  ·rw[aNL h1];omega
  ·rw[aNM h1];omega
 ·rw[Rat.num_inv,aNi,Int.natAbs_natCast]
  rcases aNu hn with h1 | h1
  ·rw[aNL h1];simp
  ·rw[aNM h1];simp
 ·rw[Rat.den_inv,if_neg hn]
theorem ED (a b:Rat) (hb:b≠0) (Mg:aL a≤1099511627776) (IV:aL b≤1099511627776):TC 129 [aF a,aF b] (aF (a / b)):=by
 refine TC.walk ⟨true,false⟩ JN rfl (aMs rfl) (by simp[aO,fV]) (pX _) ?_
 have c1:=lJ a b⁻¹ Mg (aKF (QL b) IV)
 rw[←Rat.div_def,alK hb] at c1
 simp only[E0,B2,c1,aK,bH,kZ,lC,nP,cM,aZ,bA,aS,gG,Nat.reduceLeDiff,Nat.reduceLT,Nat.reduceSub,VX,Nat.reduceEqDiff,Nat.reduceAdd]
 exact uG _
theorem Mo (q:Rat) : -1≤jI q∧jI q≤1:=by
 rcases aNx q.num 0 with h | h | h
 ·rw[oW h];omega
 ·rw[kX h];omega
 ·rw[oZ h];omega
theorem Xe (m n:Nat) : -1≤gC m n∧gC m n≤1:=by
 rcases Nat.lt_trichotomy m n with h | h | h
 ·rw[gC,if_pos h];omega
 ·subst h;rw[gC,if_neg (by omega),if_pos rfl];omega
 ·rw[gC,if_neg (by omega),if_neg (by omega)];omega
theorem NP (a b:Rat) (Mg:aL a≤1099511627776) (IV:aL b≤1099511627776):TC 148 [aF a,aF b] (VI (QD a b)):=by
 refine TC.walk ⟨true,false⟩ LD rfl (aMs rfl) (by simp[aO,fV]) rfl ?_
 have ca:=dI a
 have cb:=dI b
 have la:=uW Mg
 have lb:=uW IV
 have lda:=uX Mg
 have ldb:=uX IV
 have k1:=oC a.num.natAbs b.den
 have k2:=oC b.num.natAbs a.den
 have m1:=jS a.num.natAbs b.den (gK (by omega)) (gK (by omega))
 have m2:=jS b.num.natAbs a.den (gK (by omega)) (gK (by omega))
 have c1:=lQ (a.num.natAbs*b.den) (b.num.natAbs*a.den) (gK (by omega)) (gK (by omega))
 have ra:=Mo a
 have rb:=Mo b
 have rc:=Xe (a.num.natAbs*b.den) (b.num.natAbs*a.den)
 unfold QD
 by_cases hs:jI a=jI b
 ·rw[if_pos hs]
  have w:IntKind.i64.wrap (0-gC (a.num.natAbs*b.den) (b.num.natAbs*a.den)) = -gC (a.num.natAbs*b.den) (b.num.natAbs*a.den):=by rw[wrap64 (by omega) (by omega)];omega
  by_cases hn:a.num<0
  ·rw[if_pos hn]
   simp only[wI,sY,ca,cb,hs,m1,m2,c1,hn,w,aK,bH,kZ,lC,nP,cM,aZ,bA,aS,gG,Nat.reduceLeDiff,Nat.reduceLT,Nat.reduceSub,VX,Nat.reduceEqDiff,Nat.reduceAdd]
   exact aJ rfl
  ·rw[if_neg hn]
   simp only[wI,sY,ca,cb,hs,m1,m2,c1,hn,aK,bH,kZ,lC,nP,cM,aZ,bA,aS,gG,Nat.reduceLeDiff,Nat.reduceLT,Nat.reduceSub,VX,Nat.reduceEqDiff,Nat.reduceAdd]
   exact aJ rfl
 ·rw[if_neg hs]
  have w:IntKind.i64.wrap (jI a-jI b)=jI a-jI b:=wrap64 (by omega) (by omega)
  simp only[wI,sY,ca,cb,hs,w,aK,bH,kZ,lC,nP,cM,aZ,bA,aS,gG,Nat.reduceLeDiff,Nat.reduceLT,Nat.reduceSub,VX,Nat.reduceEqDiff,Nat.reduceAdd]
  exact aJ rfl
theorem Lz (a:Rat) (Mg:aL a≤1099511627776):TC 161 [aF a] (VB (decide (a=1))):=by
 refine TC.walk ⟨true,false⟩ Ib rfl (aMs rfl) (by simp[aO,fV]) rfl ?_
 have c1:=NP a 1 Mg (by rw[AR];decide)
 have c2:TC 64 [VI 1] (aF 1):=nB 1 (by decide) (by decide)
 by_cases h:QD a 1=0
 ·rw[decide_eq_true (RS.1 h)]
  simp only[xU,uR,c1,c2,h,aK,bH,cM,aZ,bA,aS,gG,Nat.reduceLeDiff,Nat.reduceLT,Nat.reduceSub,VX,Nat.reduceEqDiff,Nat.reduceAdd]
  exact aJ rfl
 ·rw[decide_eq_false (mt RS.2 h)]
  simp only[xU,uR,c1,c2,h,aK,bH,cM,aZ,bA,aS,gG,Nat.reduceLeDiff,Nat.reduceLT,Nat.reduceSub,VX,Nat.reduceEqDiff,Nat.reduceAdd]
  exact aJ rfl
end Go.PM
namespace Go.PM
theorem tS {n:Nat}:(0:Int)<((aD 1000000000 n).length:Int)↔n≠0:=by
 constructor
 ·intro h h0
  subst h0
  rw[cE] at h
  simp at h
 ·intro h
  have:=(nU (b:=1000000000) (by decide) (n:=n))
  have h2:aD 1000000000 n≠[]:=fun hx=>h (this.1 hx)
  have:=aNC.2 h2
  omega
theorem pO {n:Nat} (h:bl n≤4398046511104):(aD 1000000000 n).length<17592186044416:=by
 have:=avL n
 omega
theorem Hu (a b:Nat) (ha:(aD 1000000000 a).length<17592186044416) (hb:(aD 1000000000 b).length<17592186044416):TC 170 [cA a,cA b] (cA (aNm a b)):=by
 refine TC.walk ⟨true,false⟩ Qt rfl (aMs rfl) (by simp[aO,cK]) (pW _) ?_
 simp only[MC,HV,VX,Nat.reduceEqDiff,Nat.reduceAdd]
 refine aP (fun(t:Nat×Nat) ρ H=>H=[]∧aNm t.1 t.2=aNm a b∧(aD 1000000000 t.1).length<17592186044416∧(aD 1000000000 t.2).length<17592186044416∧ρ 0=cA t.1∧ρ 1=cA t.2) (fun t=>t.2) (a,b) ⟨rfl,rfl,ha,hb,rfl,rfl⟩ ?_
 rintro⟨x,y⟩ ρ H ⟨rfl,hg,hx,hy,g0,g1⟩
 simp only at hg hx hy g0 g1
 by_cases hy0:y=0
 ·subst hy0
  have hl:¬(0:Int)<((aD 1000000000 0).length:Int):=by rw[tS];omega
  rw[aND] at hg
  simp only[Bb,g0,g1,cN,hl,VX,Nat.reduceEqDiff,Nat.reduceAdd]
  rw[hg]
  exact aJ (cK _)
 ·have hl:(0:Int)<((aD 1000000000 y).length:Int):=tS.2 hy0
  have c3:=yM x y hy0 hx hy
  have hm:=aK6 x (show 0<y by omega)
  simp only[Bb,g0,g1,cN,hl,c3,VX,Nat.reduceEqDiff,Nat.reduceAdd]
  refine⟨(y,x % y),hm,?_,hy,?_,rfl,rfl⟩
  ·simp only
   rw[←hg,aNE x y,Nat.gcd_rec y x,aNE]
  ·simp only
   have:=eW (b:=1000000000) (by decide) (aLl hm)
   omega
def aN (q:Rat):VV := .agg [VB (decide (q.num<0)),cA q.num.natAbs,cA q.den]
theorem qG (q:Rat):aY (aN q)=true:=by simp[aN,aY,aO,cK,qH]
theorem wB (q:Rat):gU (aN q)=true:=by simp[aN,gU,sO,pW,qH]
theorem NM {q:Rat} {neg:Bool} {t b:Nat} (h0:q.num<0↔neg=true) (h1:q.num.natAbs=t) (h2:q.den=b):aN q = .agg [VB neg,cA t,cA b]:=by
 subst h1 h2
 unfold aN
 congr 4
 cases neg<;>simp_all
theorem aR (n:Nat):bP (cA n)=true:=rfl
theorem bC (n:Nat):isAny (cA n)=false:=rfl
theorem aW (n:Nat):aB (cA n)=[cA n]:=rfl
theorem gL (q:Rat):isAny (aN q)=false:=rfl
theorem bT (q:Rat):aB (aN q)=[VB (decide (q.num<0)),cA q.num.natAbs,cA q.den]:=rfl
theorem cI (q:Rat):dQ true 3 (aN q) 0=some (aN q):=rfl
theorem iE (q:Rat):dQ false 1 (aN q) 0=some (VB (decide (q.num<0))):=rfl
theorem jY (q:Rat):dQ false 1 (aN q) 1=some (cA q.num.natAbs):=rfl
theorem jR (q:Rat):dQ false 1 (aN q) 2=some (cA q.den):=rfl
theorem sL {H:aA} {neg:Bool} {t b:Nat}:fz depth H (.agg [VB neg,cA t,cA b])=some (.agg [VB neg,cA t,cA b]):=aJ (by simp[aY,aO,cK,qH])
theorem Cl {H:aA} (q:Rat):fz depth H (aN q)=some (aN q):=aJ (qG q)
theorem ajQ (n:Int):aN (n:Rat) = .agg [VB (decide (n<0)),cA n.natAbs,cA 1]:=NM (by simp) (by simp) (by simp)
theorem NK {n lo:Nat} {H:aA} {K:VV→aA→Prop} (h:(aD 1000000000 n).length≤17592186044416):dH 155 [cA n,.tree [VI 1] (.cl 1)] lo H K=K (VI (gC n 1)) H:=by
 have c:=yY n 1 h (by rw[FE (by decide) (by decide) (by decide)];simp)
 have e:cA 1 = .tree [VI 1] .op:=by rw[cA,FE (by decide) (by decide) (by decide)];rfl
 rw[e] at c
 exact TC.args c rfl (by simp only[aO,cK];rfl) (fz2 (aJ (cK n)) (avO rfl)) (by simp only[List.flatMap_cons,List.flatMap_nil,Ec (cK n),anU (es:=[VI 1]) rfl,List.append_nil]) lo K
theorem eQ {d:Int} {H:aA}:mV false [.int .i64 0] 1 [(0,VI d)] H=some (.tree [VI d] (.cl 1),H):=wZ
theorem gS {e:Nat} {es:List VV}:bP (.tree es (.cl e))=true:=rfl
theorem eK {k:TK} {es:List VV}:aB (.tree es k)=[.tree es k]:=rfl
theorem gQ {k:TK} {es:List VV}:isAny (.tree es k)=false:=rfl
theorem Tc {d:Nat} {H:aA}:fz (d+2) H (.tree [VI 1] (.cl 1))=some (cA 1):=by
 rw[ahO]
 unfold fz
 have:aY (.tree [VI 1] (.cl 1))=false:=by simp[aY]
 simp only[this,aLg,if_false]
 rfl
theorem rR (neg:Bool) (t b:Nat) (hb:b≠0) (ht:bl t≤4398046511104) (zD:bl b≤4398046511104):TC 153 [VB neg,cA t,cA b] (aN (mkRat (mI neg t) b)):=by
 refine TC.walk ⟨true,false⟩ PN rfl (aMs rfl) (by simp[aO,cK,aY,qH]) (wB _) ?_
 have hg0:aNm t b≠0:=aNJ hb
 have hgl:bl (aNm t b)≤4398046511104:=aKF (mB (Nat.gcd_le_right t (by omega))) zD
 have c1:=Hu t b (pO ht) (pO zD)
 have c2:=yM t _ hg0 (pO ht) (pO hgl)
 have c3:=yM b _ hg0 (pO zD) (pO hgl)
 have c4:∀lo H K,_:=fun lo H K=>NK (n:=aNm t b) (lo:=lo) (H:=H) (K:=K) (aLl (pO hgl))
 have XD:aN (mkRat (mI neg t) b) = .agg [VB (neg&&decide (t / aNm t b≠0)),cA (t / aNm t b),cA (b / aNm t b)]:=by
  refine NM ?_ (by rw[IM hb,qY]) (Sk hb)
  rw[IM hb,Tf,Bool.and_eq_true,decide_eq_true_eq]
 rw[XD]
 by_cases h1:gC (aNm t b) 1=0
 ·have hg1:=AT.1 h1
  have e1:t / aNm t b=t:=by rw[hg1,aNt]
  have e2:b / aNm t b=b:=by rw[hg1,aNt]
  rw[e1,e2]
  cases neg with
  |
   false =>
   simp only[pD,lL,c1,c4,h1,eQ,aR,bC,aW,gG,Nat.reduceLeDiff,Nat.reduceLT,Nat.reduceSub,VX,Nat.reduceEqDiff,Nat.reduceAdd]
   exact sL
  |
   true =>
   by_cases h0:t=0
   ·have hl:¬(0:Int)<((aD 1000000000 t).length:Int):=by rw[tS];omega
    simp only[pD,lL,c1,c4,h1,hl,cN,eQ,aR,bC,aW,gG,Nat.reduceLeDiff,Nat.reduceLT,Nat.reduceSub,VX,Nat.reduceEqDiff,Nat.reduceAdd]
    rw[h0]
    exact sL
   ·have hl:(0:Int)<((aD 1000000000 t).length:Int):=tS.2 h0
    simp only[pD,lL,c1,c4,h1,hl,cN,eQ,aR,bC,aW,gG,Nat.reduceLeDiff,Nat.reduceLT,Nat.reduceSub,VX,Nat.reduceEqDiff,Nat.reduceAdd]
    rw[decide_eq_true h0]
    exact sL
 ·cases neg with
  |
   false =>
   simp only[pD,lL,c1,c2,c3,c4,h1,eQ,aR,bC,aW,gG,Nat.reduceLeDiff,Nat.reduceLT,Nat.reduceSub,VX,Nat.reduceEqDiff,Nat.reduceAdd]
   exact sL
  |
   true =>
   generalize t / aNm t b=t' at *
   by_cases h0:t'=0
   ·have hl:¬(0:Int)<((aD 1000000000 t').length:Int):=by rw[tS];omega
    simp only[pD,lL,c1,c2,c3,c4,h1,hl,cN,eQ,aR,bC,aW,gG,Nat.reduceLeDiff,Nat.reduceLT,Nat.reduceSub,VX,Nat.reduceEqDiff,Nat.reduceAdd]
    rw[h0]
    exact sL
   ·have hl:(0:Int)<((aD 1000000000 t').length:Int):=tS.2 h0
    simp only[pD,lL,c1,c2,c3,c4,h1,hl,cN,eQ,aR,bC,aW,gG,Nat.reduceLeDiff,Nat.reduceLT,Nat.reduceSub,VX,Nat.reduceEqDiff,Nat.reduceAdd]
    rw[decide_eq_true h0]
    exact sL
theorem CF (n:Int) (h0 : -9223372036854775808<n) (h1:n≤9223372036854775807):TC 130 [VI n] (aN (n:Rat)):=by
 refine TC.walk ⟨true,false⟩ Qj rfl (aMs rfl) rfl (wB _) ?_
 rw[ajQ]
 by_cases h:n<0
 ·have w:IntKind.i64.wrap (0-n)=(n.natAbs:Int):=wrapN _ (by omega) (by omega)
  have c1:TC 178 [VI (n.natAbs:Int)] (cA n.natAbs):=tN (n.natAbs:Int) (by omega)
  rw[decide_eq_true h]
  simp only[FL,CI,h,w,c1,eQ,aR,bC,aW,gS,eK,gQ,gG,Nat.reduceLeDiff,Nat.reduceLT,Nat.reduceSub,VX,Nat.reduceEqDiff,Nat.reduceAdd]
  exact uD (d:=6) (akI rfl) (aM (cK _)) (Tc (d:=5))
 ·have c1:TC 178 [VI n] (cA n.natAbs):=by
   have:=tN n h1
   rwa [show n.toNat=n.natAbs by omega] at this
  rw[decide_eq_false h]
  simp only[FL,CI,h,c1,eQ,aR,bC,aW,gS,eK,gQ,gG,Nat.reduceLeDiff,Nat.reduceLT,Nat.reduceSub,VX,Nat.reduceEqDiff,Nat.reduceAdd]
  exact uD (d:=6) (akI rfl) (aM (cK _)) (Tc (d:=5))
theorem HU:TC 83 [] (aN 1):=by
 refine TC.walk ⟨true,false⟩ QA rfl (aMs rfl) rfl (wB _) ?_
 have c1:TC 130 [VI 1] (aN 1):=CF 1 (by decide) (by decide)
 simp only[L4,HP,c1,bT,cI,gL,aR,gG,Nat.reduceLeDiff,Nat.reduceLT,Nat.reduceSub,VX,Nat.reduceEqDiff,Nat.reduceAdd]
 exact Cl _
theorem BJ:TC 77 [] (aN 0):=by
 refine TC.walk ⟨true,false⟩ P6 rfl (aMs rfl) rfl (wB _) ?_
 have c1:TC 130 [VI 0] (aN 0):=CF 0 (by decide) (by decide)
 simp only[JM,Gr,c1,bT,cI,gL,aR,gG,Nat.reduceLeDiff,Nat.reduceLT,Nat.reduceSub,VX,Nat.reduceEqDiff,Nat.reduceAdd]
 exact Cl _
theorem A1 (q:Rat):TC 157 [aN q] (aN (-q)):=by
 refine TC.walk ⟨true,false⟩ IJ rfl (aMs rfl) (by simp[aO,qG]) (wB _) ?_
 have hq:aN (-q) = .agg [VB (decide (0<q.num)),cA q.num.natAbs,cA q.den]:=NM (by simp) (by simp) (by simp)
 rw[hq]
 by_cases h1:q.num<0
 ·have h2:¬0<q.num:=by omega
  simp only[sZ,pH,cN,h1,h2,bT,iE,jY,jR,aR,bC,aW,gG,Nat.reduceLeDiff,Nat.reduceLT,Nat.reduceSub,VX,Nat.reduceEqDiff,Nat.reduceAdd]
  exact sL
 ·by_cases h0:q.num=0
  ·have hl:¬(0:Int)<((aD 1000000000 q.num.natAbs).length:Int):=by rw[tS];omega
   have h2:¬0<q.num:=by omega
   simp only[sZ,pH,cN,hl,h1,h2,bT,iE,jY,jR,aR,bC,aW,gG,Nat.reduceLeDiff,Nat.reduceLT,Nat.reduceSub,VX,Nat.reduceEqDiff,Nat.reduceAdd]
   exact sL
  ·have hl:(0:Int)<((aD 1000000000 q.num.natAbs).length:Int):=by rw[tS];omega
   have h2:0<q.num:=by omega
   simp only[sZ,pH,cN,hl,h1,h2,bT,iE,jY,jR,aR,bC,aW,gG,Nat.reduceLeDiff,Nat.reduceLT,Nat.reduceSub,VX,Nat.reduceEqDiff,Nat.reduceAdd]
   exact sL
theorem tR (a b:Rat) (Mg:aL a≤1099511627776) (IV:aL b≤1099511627776):TC 79 [aN a,aN b] (aN (a+b)):=by
 refine TC.walk ⟨true,false⟩ Qi rfl (aMs rfl) (by simp[aO,qG]) (wB _) ?_
 have la:=uW Mg
 have lb:=uW IV
 have lda:=uX Mg
 have ldb:=uX IV
 have hBn:=aNq a.den_nz b.den_nz
 have m1:=fD a.num.natAbs b.den (aLl (pO (by omega))) (aLl (pO (by omega)))
 have m2:=fD b.num.natAbs a.den (aLl (pO (by omega))) (aLl (pO (by omega)))
 have m3:=fD a.den b.den (aLl (pO (by omega))) (aLl (pO (by omega)))
 have ea:mkRat (mI (decide (a.num<0)) (a.num.natAbs*b.den)) (a.den*b.den)=a:=GY a b.den_nz
 have eb:mkRat (mI (decide (b.num<0)) (b.num.natAbs*a.den)) (a.den*b.den)=b:=by rw[aL6 a.den];exact GY b a.den_nz
 have k1:=oC a.num.natAbs b.den
 have k2:=oC b.num.natAbs a.den
 have k3:=oC a.den b.den
 obtain⟨p1,p2,p3⟩:=Ll hBn ea eb
 have hX:bl (a.num.natAbs*b.den)≤2199023255552:=by omega
 have hY:bl (b.num.natAbs*a.den)≤2199023255552:=by omega
 have hB:bl (a.den*b.den)≤4398046511104:=by omega
 generalize a.num.natAbs*b.den=X at *
 generalize b.num.natAbs*a.den=Y at *
 generalize a.den*b.den=B at *
 have f1:=Lf X Y (pO (by omega)) (pO (by omega))
 have f2:=yY X Y (aLl (pO (by omega))) (aLl (pO (by omega)))
 have hS:bl (X+Y)≤4398046511104:=aKF (Xo hX hY) (by decide)
 have hD1:bl (X-Y)≤4398046511104:=aKF (mB (aNK _ _)) (by omega)
 have hD2:bl (Y-X)≤4398046511104:=aKF (mB (aNK _ _)) (by omega)
 have f5:=fun neg=>rR neg (X+Y) B hBn hS hB
 have f6:=fun neg=>rR neg (X-Y) B hBn hD1 hB
 have f7:=fun neg=>rR neg (Y-X) B hBn hD2 hB
 by_cases hn:decide (a.num<0)=decide (b.num<0)
 ·have W3:(decide (a.num<0) == decide (b.num<0))=true:=by simpa using hn
  rw[←p1 hn]
  simp only[Cg,zA,m1,m2,m3,f1,f5,xW,Ai,W3,bT,cI,iE,jY,jR,gL,aR,bC,aW,gG,Nat.reduceLeDiff,Nat.reduceLT,Nat.reduceSub,VX,Nat.reduceEqDiff,Nat.reduceAdd]
  exact Cl _
 ·have W3:(decide (a.num<0) == decide (b.num<0))=false:=by simpa using hn
  by_cases hx:(0:Int)≤gC X Y
  ·have hle:Y≤X:=by have := @AJ X Y;omega
   have c3:=B8 X Y hle (aLl (pO (by omega)))
   rw[←p2 hn hle]
   simp only[Cg,zA,m1,m2,m3,f2,c3,f6,hx,xW,Ai,W3,bT,cI,iE,jY,jR,gL,aR,bC,aW,gG,Nat.reduceLeDiff,Nat.reduceLT,Nat.reduceSub,VX,Nat.reduceEqDiff,Nat.reduceAdd]
   exact Cl _
  ·have hle:X≤Y:=by have := @AJ X Y;omega
   have c3:=B8 Y X hle (aLl (pO (by omega)))
   rw[←p3 hn hle]
   simp only[Cg,zA,m1,m2,m3,f2,c3,f7,hx,xW,Ai,W3,bT,cI,iE,jY,jR,gL,aR,bC,aW,gG,Nat.reduceLeDiff,Nat.reduceLT,Nat.reduceSub,VX,Nat.reduceEqDiff,Nat.reduceAdd]
   exact Cl _
theorem Nk (a b:Rat) (Mg:aL a≤1099511627776) (IV:aL b≤1099511627776):TC 82 [aN a,aN b] (aN (a-b)):=by
 refine TC.walk ⟨true,false⟩ Nn rfl (aMs rfl) (by simp[aO,qG]) (wB _) ?_
 have c1:=A1 b
 have c2:=tR a (-b) Mg (by rw[G9];exact IV)
 rw[←Rat.sub_eq_add_neg] at c2
 simp only[HJ,EU,c1,c2,bT,cI,gL,aR,bC,aW,gG,Nat.reduceLeDiff,Nat.reduceLT,Nat.reduceSub,VX,Nat.reduceEqDiff,Nat.reduceAdd]
 exact Cl _
theorem Z1 (a b:Int):mI (decide (a<0) != decide (b<0)) (a.natAbs*b.natAbs)=a*b:=by
 rcases aNx a 0 with h1 | h1 | h1<;>rcases aNx b 0 with h2 | h2 | h2
 ·rw[decide_eq_true h1,decide_eq_true h2]
  simp only[mI,bne_self_eq_false,aLg,if_false,aM4]
  rw[show (a.natAbs:Int) = -a by omega,show (b.natAbs:Int) = -b by omega,Int.neg_mul_neg]
 ·subst h2;simp[Bu]
 ·rw[decide_eq_true h1,decide_eq_false (show ¬b<0 by omega)]
  simp only[mI,Bool.true_bne,Bool.not_false,if_true,aM4]
  rw[show (a.natAbs:Int) = -a by omega,show (b.natAbs:Int)=b by omega,aNl,Int.neg_neg]
 ·subst h1;simp[Bu]
 ·subst h1;simp[Bu]
 ·subst h1;simp[Bu]
 ·rw[decide_eq_false (show ¬a<0 by omega),decide_eq_true h2]
  simp only[mI,Bool.false_bne,if_true,aM4]
  rw[show (a.natAbs:Int)=a by omega,show (b.natAbs:Int) = -b by omega,Int.mul_neg,Int.neg_neg]
 ·subst h2;simp[Bu]
 ·rw[decide_eq_false (show ¬a<0 by omega),decide_eq_false (show ¬b<0 by omega)]
  simp only[mI,bne_self_eq_false,aLg,if_false,aM4]
  rw[show (a.natAbs:Int)=a by omega,show (b.natAbs:Int)=b by omega]
theorem Ad (a b:Rat) (Mg:aL a≤1099511627776) (IV:aL b≤1099511627776):TC 125 [aN a,aN b] (aN (a*b)):=by
 refine TC.walk ⟨true,false⟩ Nj rfl (aMs rfl) (by simp[aO,qG]) (wB _) ?_
 have la:=uW Mg
 have lb:=uW IV
 have lda:=uX Mg
 have ldb:=uX IV
 have k1:=oC a.num.natAbs b.num.natAbs
 have k3:=oC a.den b.den
 have m1:=fD a.num.natAbs b.num.natAbs (aLl (pO (by omega))) (aLl (pO (by omega)))
 have m3:=fD a.den b.den (aLl (pO (by omega))) (aLl (pO (by omega)))
 have c1:=rR (decide (a.num<0) != decide (b.num<0)) (a.num.natAbs*b.num.natAbs) (a.den*b.den) (aNq a.den_nz b.den_nz) (by omega) (by omega)
 rw[Z1,←aNr] at c1
 simp only[HQ,EG,m1,m3,c1,Ai,bT,cI,iE,jY,jR,gL,aR,bC,aW,gG,Nat.reduceLeDiff,Nat.reduceLT,Nat.reduceSub,VX,Nat.reduceEqDiff,Nat.reduceAdd]
 exact Cl _
theorem X6 {a b:Rat} (hb:b≠0):mkRat (mI (decide (a.num<0) != decide (b.num<0)) (a.num.natAbs*b.den)) (a.den*b.num.natAbs)=a / b:=by
 have hn:b.num≠0:=fun h=>hb (aNz.1 h)
 have i1:b⁻¹.num=b.num.sign*b.den:=Rat.num_inv b
 have i2:b⁻¹.den=b.num.natAbs:=by rw[Rat.den_inv,if_neg hn]
 have hd:(0:Int)<b.den:=by have:=b.den_nz;omega
 have i3:b⁻¹.num.natAbs=b.den:=by
  rw[i1,aNi,Int.natAbs_natCast]
  rcases aNu hn with h1 | h1
  ·rw[aNL h1];simp
  ·rw[aNM h1];simp
 have i4:decide (b⁻¹.num<0)=decide (b.num<0):=by
  rw[i1]
  rcases aNu hn with h1 | h1
  ·rw[aNL h1,decide_eq_true h1];simp;omega
  ·rw[aNM h1,decide_eq_false (show ¬b.num<0 by omega)];simp
 rw[Rat.div_def,aNr,←Z1,i2,i3,i4]
theorem F4 (a b:Rat) (hb:b≠0) (Mg:aL a≤1099511627776) (IV:aL b≤1099511627776):TC 81 [aN a,aN b] (aN (a / b)):=by
 refine TC.walk ⟨true,false⟩ OF rfl (aMs rfl) (by simp[aO,qG]) (wB _) ?_
 have hn:b.num≠0:=fun h=>hb (aNz.1 h)
 have la:=uW Mg
 have lb:=uW IV
 have lda:=uX Mg
 have ldb:=uX IV
 have k1:=oC a.num.natAbs b.den
 have k3:=oC a.den b.num.natAbs
 have m1:=fD a.num.natAbs b.den (aLl (pO (by omega))) (aLl (pO (by omega)))
 have m3:=fD a.den b.num.natAbs (aLl (pO (by omega))) (aLl (pO (by omega)))
 have c1:=rR (decide (a.num<0) != decide (b.num<0)) (a.num.natAbs*b.den) (a.den*b.num.natAbs) (aNq a.den_nz (by omega)) (by omega) (by omega)
 rw[X6 hb] at c1
 simp only[JO,F9,m1,m3,c1,Ai,bT,cI,iE,jY,jR,gL,aR,bC,aW,gG,Nat.reduceLeDiff,Nat.reduceLT,Nat.reduceSub,VX,Nat.reduceEqDiff,Nat.reduceAdd]
 exact Cl _
theorem sG (q:Rat):TC 59 [aN q] (VB (decide (q=0))):=by
 refine TC.walk ⟨true,false⟩ N9 rfl (aMs rfl) (by simp[aO,qG]) rfl ?_
 by_cases h0:q=0
 ·have hl:(((aD 1000000000 q.num.natAbs).length:Nat):Int)=0:=by rw[h0];simp[cE]
  simp only[Ea,AZ,cN,hl,bT,iE,jY,jR,aR,bC,aW,gG,Nat.reduceLeDiff,Nat.reduceLT,Nat.reduceSub,VX,Nat.reduceEqDiff,Nat.reduceAdd]
  rw[decide_eq_true h0]
  exact aJ rfl
 ·have hn:q.num≠0:=fun h=>h0 (aNz.1 h)
  have hl:¬(((aD 1000000000 q.num.natAbs).length:Nat):Int)=0:=by have := @tS q.num.natAbs;omega
  simp only[Ea,AZ,cN,hl,bT,iE,jY,jR,aR,bC,aW,gG,Nat.reduceLeDiff,Nat.reduceLT,Nat.reduceSub,VX,Nat.reduceEqDiff,Nat.reduceAdd]
  rw[decide_eq_false h0]
  exact aJ rfl
end Go.PM
namespace Go.PM
open Go.Lib
theorem arK {m n:Nat} (h:decDigits m=decDigits n):m=n:=by
 have key:∀k m n:Nat,m<10^(k+1)→decDigits m=decDigits n→m=n:=by
  intro k
  induction k with
  |
   zero =>
   intro m n hm h
   rw[kD (by omega)] at h
   by_cases hn:n<10
   ·rw[kD hn] at h
    have h1:=aNN.1 h
    unfold d10 at h1
    have:=congrArg UInt8.toNat h1
    simp at this
    omega
   ·rw[Ck hn] at h
    have:=congrArg aNO h
    have h2:=aNC.2 (St (n / 10))
    simp only[aKP,aKO,aMh] at this
    omega
  |
   succ k ih =>
   intro m n hm h
   by_cases h1:m<10
   ·rw[kD h1] at h
    by_cases hn:n<10
    ·rw[kD hn] at h
     have h1:=aNN.1 h
     unfold d10 at h1
     have:=congrArg UInt8.toNat h1
     simp at this
     omega
    ·rw[Ck hn] at h
     have:=congrArg aNO h
     have h2:=aNC.2 (St (n / 10))
     simp only[aKP,aKO,aMh] at this
     omega
   ·rw[Ck h1] at h
    by_cases hn:n<10
    ·rw[kD hn] at h
     have:=congrArg aNO h
     have h2:=aNC.2 (St (m / 10))
     simp only[aKP,aKO,aMh] at this
     omega
    ·rw[Ck hn] at h
     obtain⟨h2,h3⟩:=List.append_inj' h rfl
     have h4:=ih (m / 10) (n / 10) (by rw[Nat.pow_succ] at hm;omega) h2
     have h5:=aNN.1 h3
     unfold d10 at h5
     have:=congrArg UInt8.toNat h5
     simp at this
     omega
 exact key m m n (Nat.lt_trans (Nat.lt_pow_self (by decide)) (Nat.pow_lt_pow_right (by decide) (Nat.lt_succ_self m))) h
def OC (q:Rat):List UInt8:=(if q.num<0 then [45] else [])++decDigits q.num.natAbs++(if q.den=1 then [] else 47::decDigits q.den)
def CW (q:Rat):Bool:=decide ((decDigits q.num.natAbs).length≤200)&&decide ((decDigits q.den).length≤200)
theorem Dn (n:Nat):(decDigits n).length≤bl n+1:=by
 by_cases h:n=0
 ·subst h;rw[kD (by decide)];simp
 ·have h1:=anW h
  obtain⟨k,hk⟩:∃k,bl n=k+1:=⟨bl n-1,by omega⟩
  have h2:=HD n
  rw[hk] at h2 ⊢
  have h3:2^(k+1)≤10^(k+1):=Nat.pow_le_pow_left (by decide) _
  have:=DP n k (by omega)
  omega
end Go.PM
namespace Go.PM
open Go.Lib
theorem TD (a b:List UInt8):dK .neq (.string ⟨a.toArray⟩) (.string ⟨b.toArray⟩)=some (.bool (!decide (a=b))):=by
 have h:∀l:List UInt8,(ByteArray.toList ⟨l.toArray⟩)=l:=fun l=>by rw[ByteArray.toList_eq]
 show some (Value.bool (!(ByteArray.toList ⟨a.toArray⟩ == ByteArray.toList ⟨b.toArray⟩)))=_
 rw[h,h]
 congr 3
 cases h2:a == b
 ·rw[decide_eq_false (by simpa using h2)]
 ·rw[decide_eq_true (by simpa using h2)]
theorem Zt (a b:List UInt8):dK .eql (.string ⟨a.toArray⟩) (.string ⟨b.toArray⟩)=some (.bool (decide (a=b))):=by
 have h:∀l:List UInt8,(ByteArray.toList ⟨l.toArray⟩)=l:=fun l=>by rw[ByteArray.toList_eq]
 show some (Value.bool (ByteArray.toList ⟨a.toArray⟩ == ByteArray.toList ⟨b.toArray⟩))=_
 rw[h,h]
 congr 2
 cases h2:a == b
 ·rw[decide_eq_false (by simpa using h2)]
 ·rw[decide_eq_true (by simpa using h2)]
theorem Og {n:Nat}:(decDigits n=[49])↔n=1:=by
 have e:decDigits 1=[49]:=by rw[kD (by decide)];rfl
 rw[←e]
 exact⟨arK,fun h=>by rw[h]⟩
theorem Nl (q:Rat) (hk:aL q≤1099511627776):TC 180 [aF q] (.dW [bD (OC q),VB (CW q)]):=by
 refine TC.walk ⟨true,false⟩ IY rfl (aMs rfl) (by simp[aO,fV]) rfl ?_
 have la:=uW hk
 have lb:=uX hk
 have t1:=EB q.num.natAbs (aCl (by omega))
 have t2:=EB q.den (aCl (by omega))
 have d1:=Dn q.num.natAbs
 have d2:=Dn q.den
 have a1:dK .add (.string ⟨#[45]⟩) (.string ⟨(decDigits q.num.natAbs).toArray⟩)=some (.string ⟨(45::decDigits q.num.natAbs).toArray⟩):=yU [45] _ (by simp only[aKO,aMh];omega)
 have a2:dK .add (.string ⟨#[47]⟩) (.string ⟨(decDigits q.den).toArray⟩)=some (.string ⟨(47::decDigits q.den).toArray⟩):=yU [47] (decDigits q.den) (by simp only[aKO,aMh];omega)
 have a3:=yU (45::decDigits q.num.natAbs) (47::decDigits q.den) (by simp only[aKO];omega)
 have a4:=yU (decDigits q.num.natAbs) (47::decDigits q.den) (by simp only[aKO];omega)
 have ne:dK .neq (.string ⟨(decDigits q.den).toArray⟩) (.string ⟨#[49]⟩)=_:=TD (decDigits q.den) [49]
 have hf:CW q=(decide (((decDigits q.num.natAbs).length:Int)≤200)&&decide (((decDigits q.den).length:Int)≤200)):=by
  unfold CW
  congr 1<;>exact decide_eq_decide.2 (by omega)
 rw[hf]
 have hs:OC q=(if q.num<0 then (45::decDigits q.num.natAbs) else decDigits q.num.natAbs)++(if q.den=1 then [] else 47::decDigits q.den):=by
  unfold OC
  by_cases hn:q.num<0
  ·rw[if_pos hn,if_pos hn];rfl
  ·rw[if_neg hn,if_neg hn];rfl
 rw[hs]
 by_cases hd:q.den=1
 ·rw[decide_eq_true (Og.2 hd)] at ne
  rw[if_pos hd,List.append_nil]
  by_cases hn:q.num<0<;>by_cases hl:((decDigits q.num.natAbs).length:Int)≤200
  all_goals
   simp only[Al,vZ,t1,t2,a1,a2,a3,a4,ne,hn,hl,bO,aK,bH,kZ,lC,nP,cM,aZ,bA,aS,gG,Nat.reduceLeDiff,Nat.reduceLT,Nat.reduceSub,VX,Nat.reduceEqDiff,Nat.reduceAdd]
   exact aJ rfl
 ·rw[decide_eq_false (mt Og.1 hd)] at ne
  rw[if_neg hd]
  by_cases hn:q.num<0<;>by_cases hl:((decDigits q.num.natAbs).length:Int)≤200
  all_goals
   simp only[Al,vZ,t1,t2,a1,a2,a3,a4,ne,hn,hl,bO,aK,bH,kZ,lC,nP,cM,aZ,bA,aS,gG,Nat.reduceLeDiff,Nat.reduceLT,Nat.reduceSub,VX,Nat.reduceEqDiff,Nat.reduceAdd]
   exact aJ rfl
def Bv (q:Rat):VV:=if CW q=true then .dW [bD (OC q),VB true] else .dW [bD [],VB false]
theorem G4 (q:Rat):gU (Bv q)=true:=by unfold Bv;split<;>rfl
theorem Uf (q:Rat) (hk:aL q≤1099511627776):TC 137 [aF q] (Bv q):=by
 refine TC.walk ⟨true,false⟩ T2 rfl (aMs rfl) (by simp[aO,fV]) (G4 q) ?_
 have t1:=Nl q hk
 unfold Bv
 by_cases h:CW q=true
 ·rw[h] at t1
  rw[if_pos h]
  simp only[Kv,FW,t1,aK,bH,cM,aZ,bA,aS,gG,Nat.reduceLeDiff,Nat.reduceLT,Nat.reduceSub,VX,Nat.reduceEqDiff,Nat.reduceAdd]
  exact aJ rfl
 ·have h':CW q=false:=by simpa using h
  rw[h'] at t1
  rw[if_neg h]
  simp only[Kv,FW,t1,aK,bH,cM,aZ,bA,aS,gG,Nat.reduceLeDiff,Nat.reduceLT,Nat.reduceSub,VX,Nat.reduceEqDiff,Nat.reduceAdd]
  exact aJ rfl
end Go.PM