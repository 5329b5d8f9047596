/- Texts of a claim, in one: part 10. -/
import Derived.Test.YtjmflicajplclaaGreatDoorKBi
open Bool renaming false_eq_true → aLd
open Int renaming lt_or_gt_of_ne → aNr,lt_trichotomy → aNu,mul_neg_of_neg_of_pos → aNs,mul_pos → aNt,natAbs_mul → aNf,natCast_mul → aM1,neg_mul → aNi,ofNat_le → aNx,sign_eq_neg_one_of_neg → aNI,sign_eq_one_of_pos → aNJ,zero_mul → aNv
open List renaming getElem?_eq_getElem → aKI,getElem?_eq_none → aK1,length → aNL,length_append → aKM,length_cons → aKL,length_eq_one_iff → aNy,length_eq_zero_iff → aMJ,length_map → aMi,length_nil → aMe,length_pos_iff → aNz,length_replicate → aMq,length_reverse → aNC,length_set → aMz,length_singleton → aMQ,mapM_cons → aLY,nil_append → aLT,replicate → aLr,reverse_append → aND,reverse_singleton → aNE,singleton_append → aNF,singleton_inj → aNK,take_of_length_le → aLu
open Nat renaming Coprime → aNp,div_one → aNq,gcd → aNj,gcd_comm → aNB,gcd_dvd_left → aNl,gcd_ne_zero_right → aNG,gcd_pos_of_pos_left → aNm,gcd_zero_right → aNA,le_of_ble_eq_true → aMp,le_of_dvd → aNk,le_of_lt → aLi,le_refl → aKB,le_trans → aKC,mod_lt → aK3,mul_comm → aL3,mul_le_mul_right → aK2,mul_lt_mul_of_pos_right → aM6,mul_ne_zero → aNn,pow_le_pow_right → aME,sub_le → aNH,zero_add → aL9
open Rat renaming mul_def' → aNo,num_eq_zero → aNw
set_option linter.unusedSimpArgs false
set_option linter.unusedVariables false
namespace Go.PM
theorem arS (neg:Bool) (t d:Nat):mH neg (t*d)=mH neg t*(d:Int):=by cases neg<;>simp[mH,aNi]
theorem GM (q:Rat) {d:Nat} (hd:d≠0):mkRat (mH (decide (q.num<0)) (q.num.natAbs*d)) (q.den*d)=q:=by
 rw[arS,Rat.mkRat_mul_right hd,NY]
theorem FG (X Y:Int) {B:Nat} (hB:B≠0):mkRat X B+mkRat Y B=mkRat (X+Y) B:=by
 rw[Rat.mkRat_add_mkRat _ _ hB hB,←Int.add_mul,Rat.mkRat_mul_right hB]
theorem S5 (n:Bool) (x y:Nat):mH n x+mH n y=mH n (x+y):=by cases n<;>simp[mH]<;>omega
theorem YB {m n:Bool} (h:m≠n) {x y:Nat} (hx:y≤x):mH m x+mH n y=mH m (x-y):=by
 cases m<;>cases n<;>simp_all [mH]<;>omega
theorem XC {m n:Bool} (h:m≠n) {x y:Nat} (hx:x≤y):mH m x+mH n y=mH n (y-x):=by
 cases m<;>cases n<;>simp_all [mH]<;>omega
theorem SH (n:Int) {d:Nat} (hd:d≠0):(mkRat n d).num.natAbs=n.natAbs / aNj n.natAbs d:=by
 have:=Ik (neg:=decide (n<0)) (t:=n.natAbs) (b:=d) hd
 rw[JI] at this
 rw[this,qK]
theorem NL (n:Int) {d:Nat} (hd:d≠0):(mkRat n d).den=d / aNj n.natAbs d:=by
 have:=TJ (neg:=decide (n<0)) (t:=n.natAbs) (b:=d) hd
 rwa [JI] at this
theorem aAb (n:Int) {d:Nat} (hd:d≠0):(mkRat n d).num<0↔n<0:=by
 have:=Ik (neg:=decide (n<0)) (t:=n.natAbs) (b:=d) hd
 rw[JI] at this
 rw[this,Tu]
 have h:n<0→n.natAbs / aNj n.natAbs d≠0:=fun h=>by
  have:=Nat.div_pos (aNk (by omega) (aNl n.natAbs d)) (aNm d (show 0<n.natAbs by omega))
  omega
 constructor
 ·rintro⟨h1,_⟩;simpa using h1
 ·intro h1;exact⟨by simpa using h1,h h1⟩
theorem D7 (t:Nat) {d:Nat} (hd:d≠0):(mkRat (mH false t) d).num.natAbs ∣ t∧(mkRat (mH false t) d).den ∣ d:=by
 rw[SH _ hd,NL _ hd,qK]
 exact⟨Nat.div_dvd_of_dvd (aNl _ _),Nat.div_dvd_of_dvd (Nat.gcd_dvd_right _ _)⟩
theorem acK (a b:Rat):(a*b).num.natAbs=(mkRat (mH false a.num.natAbs) b.den).num.natAbs*(mkRat (mH false b.num.natAbs) a.den).num.natAbs ∧
  (a*b).den=(mkRat (mH false a.num.natAbs) b.den).den*(mkRat (mH false b.num.natAbs) a.den).den:=by
 have ha:=a.den_nz
 have hb:=b.den_nz
 have I0:a.den*b.den≠0:=aNn ha hb
 obtain⟨u1,u2⟩:=D7 a.num.natAbs hb
 obtain⟨v1,v2⟩:=D7 b.num.natAbs ha
 have e:(mkRat (mH false a.num.natAbs) b.den)*(mkRat (mH false b.num.natAbs) a.den)=mkRat (mH false a.num.natAbs*mH false b.num.natAbs) (b.den*a.den):=Rat.mkRat_mul_mkRat _ _ _ _
 have en:((mkRat (mH false a.num.natAbs) b.den)*(mkRat (mH false b.num.natAbs) a.den)).num.natAbs=(a*b).num.natAbs:=by
  rw[e,aNo,SH _ I0,SH _ (aNn hb ha),aNf,aNf,qK,qK,aL3 b.den]
 have ed:((mkRat (mH false a.num.natAbs) b.den)*(mkRat (mH false b.num.natAbs) a.den)).den=(a*b).den:=by
  rw[e,aNo,NL _ I0,NL _ (aNn hb ha),aNf,aNf,qK,qK,aL3 b.den]
 rw[←en,←ed]
 generalize hu:mkRat (mH false a.num.natAbs) b.den=u at *
 generalize hv:mkRat (mH false b.num.natAbs) a.den=v at *
 have c1:aNp u.num.natAbs u.den:=u.reduced
 have c2:aNp v.num.natAbs v.den:=v.reduced
 have c3:aNp u.num.natAbs v.den:=Nat.Coprime.coprime_dvd_left u1 (Nat.Coprime.coprime_dvd_right v2 a.reduced)
 have c4:aNp v.num.natAbs u.den:=Nat.Coprime.coprime_dvd_left v1 (Nat.Coprime.coprime_dvd_right u2 b.reduced)
 have c:aNj (u.num*v.num).natAbs (u.den*v.den)=1:=by
  rw[aNf]
  exact Nat.Coprime.mul_left (Nat.Coprime.mul_right c1 c3) (Nat.Coprime.mul_right c4 c2)
 rw[aNo,SH _ (aNn u.den_nz v.den_nz),NL _ (aNn u.den_nz v.den_nz),c,aNq,aNq,aNf]
 exact⟨rfl,rfl⟩
theorem Ux {a b:Rat} (ha:a.num≠0) (hb:b.num≠0):(a*b).num<0↔(decide (a.num<0) != decide (b.num<0))=true:=by
 rw[aNo,aAb _ (aNn a.den_nz b.den_nz)]
 rcases aNr ha with h1 | h1<;>rcases aNr hb with h2 | h2
 ·have:=Int.mul_pos_of_neg_of_neg h1 h2
  rw[decide_eq_true h1,decide_eq_true h2]
  simp;omega
 ·have:=aNs h1 h2
  rw[decide_eq_true h1,decide_eq_false (show ¬b.num<0 by omega)]
  simp[this]
 ·have:=Int.mul_neg_of_pos_of_neg h1 h2
  rw[decide_eq_false (show ¬a.num<0 by omega),decide_eq_true h2]
  simp[this]
 ·have:=aNt h1 h2
  rw[decide_eq_false (show ¬a.num<0 by omega),decide_eq_false (show ¬b.num<0 by omega)]
  simp;omega
def jL (q:Rat):Int:=if q.num=0 then 0 else if q.num<0 then -1 else 1
def Qs (a b:Rat):Int:=if jL a=jL b then (if a.num<0 then -gH (a.num.natAbs*b.den) (b.num.natAbs*a.den) else gH (a.num.natAbs*b.den) (b.num.natAbs*a.den)) else jL a-jL b
theorem Ay {m n:Nat}:gH m n<0↔m<n:=by
 unfold gH
 split
 ·omega
 ·split<;>omega
theorem arP {m n:Nat}:0<gH m n↔n<m:=by
 unfold gH
 split
 ·omega
 ·split<;>omega
theorem AP {m n:Nat}:gH m n=0↔m=n:=by
 unfold gH
 split
 ·omega
 ·split<;>omega
theorem oX {q:Rat} (h:q.num<0):jL q = -1:=by unfold jL;rw[if_neg (by omega),if_pos h]
theorem lC {q:Rat} (h:q.num=0):jL q=0:=by unfold jL;rw[if_pos h]
theorem pE {q:Rat} (h:0<q.num):jL q=1:=by unfold jL;rw[if_neg (by omega),if_neg (by omega)]
theorem aaQ {a b:Rat}:Qs a b<0↔a<b:=by
 rw[Rat.lt_iff]
 have hA:(0:Int)<a.den:=by have:=a.den_nz;omega
 have hB:(0:Int)<b.den:=by have:=b.den_nz;omega
 have eA:((a.num.natAbs*b.den:Nat):Int)=(a.num.natAbs:Int)*b.den:=by simp
 have eB:((b.num.natAbs*a.den:Nat):Int)=(b.num.natAbs:Int)*a.den:=by simp
 unfold Qs
 rcases aNu a.num 0 with h1 | h1 | h1<;>rcases aNu b.num 0 with h2 | h2 | h2
 ·rw[oX h1,oX h2,if_pos rfl,if_pos h1]
  have f1:(a.num.natAbs:Int) = -a.num:=by omega
  have f2:(b.num.natAbs:Int) = -b.num:=by omega
  rw[f1,aNi] at eA
  rw[f2,aNi] at eB
  have := @arP (a.num.natAbs*b.den) (b.num.natAbs*a.den)
  omega
 ·rw[oX h1,lC h2,if_neg (by decide),h2,aNv]
  have:=aNs h1 hB
  omega
 ·rw[oX h1,pE h2,if_neg (by decide)]
  have:=aNs h1 hB
  have:=aNt h2 hA
  omega
 ·rw[lC h1,oX h2,if_neg (by decide),h1,aNv]
  have:=aNs h2 hA
  omega
 ·rw[lC h1,lC h2,if_pos rfl,h1,h2];simp[gH]
 ·rw[lC h1,pE h2,if_neg (by decide),h1,aNv]
  have:=aNt h2 hA
  omega
 ·rw[pE h1,oX h2,if_neg (by decide)]
  have:=aNs h2 hA
  have:=aNt h1 hB
  omega
 ·rw[pE h1,lC h2,if_neg (by decide),h2,aNv]
  have:=aNt h1 hB
  omega
 ·rw[pE h1,pE h2,if_pos rfl,if_neg (by omega)]
  have f1:(a.num.natAbs:Int)=a.num:=by omega
  have f2:(b.num.natAbs:Int)=b.num:=by omega
  rw[f1] at eA
  rw[f2] at eB
  have := @Ay (a.num.natAbs*b.den) (b.num.natAbs*a.den)
  omega
theorem amM (m n:Nat):gH n m = -gH m n:=by
 rcases Nat.lt_trichotomy m n with h | h | h
 ·rw[gH,gH,if_neg (by omega),if_neg (by omega),if_pos h];rfl
 ·subst h;rw[gH,if_neg (by omega),if_pos rfl];rfl
 ·rw[gH,gH,if_pos h,if_neg (by omega),if_neg (by omega)]
theorem WB (a b:Rat):Qs b a = -Qs a b:=by
 unfold Qs
 by_cases h:jL a=jL b
 ·have h2:b.num<0↔a.num<0:=by
   rcases aNu a.num 0 with h1 | h1 | h1<;>rcases aNu b.num 0 with h2 | h2 | h2
   ·simp[h1,h2]
   ·rw[oX h1,lC h2] at h;omega
   ·rw[oX h1,pE h2] at h;omega
   ·rw[lC h1,oX h2] at h;omega
   ·omega
   ·rw[lC h1,pE h2] at h;omega
   ·rw[pE h1,oX h2] at h;omega
   ·rw[pE h1,lC h2] at h;omega
   ·omega
  rw[if_pos h,if_pos h.symm,amM]
  by_cases h3:a.num<0
  ·rw[if_pos h3,if_pos (h2.2 h3)]
  ·rw[if_neg h3,if_neg (mt h2.1 h3)]
 ·rw[if_neg h,if_neg (fun h'=>h h'.symm)];omega
theorem arI {a b:Rat}:0<Qs a b↔b<a:=by
 rw[←aaQ,WB a b];omega
theorem Rm {a b:Rat}:Qs a b=0↔a=b:=by
 constructor
 ·intro h
  refine Rat.le_antisymm ?_ ?_
  ·rw[←Rat.not_lt,←arI];omega
  ·rw[←Rat.not_lt,←aaQ];omega
 ·rintro rfl
  have:=WB a a
  omega
theorem azL {q:Rat}:q.num<0↔q<0:=by
 have := @Rat.num_nonneg q
 rw[←Rat.not_le,←this]
 omega
theorem asR {q:Rat}:0<q.num↔0<q:=by
 have h1 := @azL (-q)
 rw[Rat.neg_num] at h1
 have h2 : -q<0↔0<q:=by
  rw[Rat.neg_lt_iff];simp
 rw[←h2,←h1]
 omega
theorem DZ {q:Rat}:jL q=0↔q=0:=by
 rw[←aNw]
 rcases aNu q.num 0 with h | h | h
 ·rw[oX h];omega
 ·rw[lC h];omega
 ·rw[pE h];omega
theorem GL {q:Rat}:0<jL q↔0<q:=by
 rw[←asR]
 rcases aNu q.num 0 with h | h | h
 ·rw[oX h];omega
 ·rw[lC h];omega
 ·rw[pE h];omega
end Go.PM
namespace Go.PM
theorem Ri {ds:List Nat} {H:aA}:cZ 1 (jI ds) H=some (ds.map tV):=by
 have:((ds.map tV).all fun x=>(aB x).length == 1&&(aB x).all bN)=true:=by
  rw[List.all_eq_true]
  intro x hx
  obtain⟨d,_,rfl⟩:=List.mem_map.1 hx
  rfl
 simp only[cZ,jI,aC,this,if_true]
theorem GD (n:Nat) {H:aA}:cZ 1 (cC n) H=some ((aD 1000000000 n).map tV):=Ri
theorem KT {a n:Nat} (hn:(aD 1000000000 a).length=n+1):∃d,(aD 1000000000 a)[n]? = some d∧d≠0∧d<1000000000:=by
 obtain⟨d,hd⟩:∃d,(aD 1000000000 a)[n]? = some d:=⟨_,aKI (by omega)⟩
 refine⟨d,hd,fun h0 => ?_,gK (by decide) a d (List.mem_of_getElem? hd)⟩
 have:=Rb (b:=1000000000) (by decide) a
 rw[List.getLast?_eq_getElem?,hn,Nat.add_sub_cancel,hd,h0] at this
 exact this rfl
theorem aeJ {a d:Nat} (h:aD 1000000000 a=[d]):a=d∧0<d∧d<1000000000:=by
 have h1:=cN (b:=1000000000) (by decide) a
 rw[h,val_one] at h1
 obtain⟨e,h2,h3,h4⟩:=KT (a:=a) (n:=0) (by rw[h];rfl)
 rw[h] at h2
 cases h2
 exact⟨h1.symm,by omega,h4⟩
theorem axD {a:Nat} (h:(aD 1000000000 a).length≤2):a<1000000000000000000:=by
 have h1:=iP (b:=1000000000) (by decide) a
 have h2:1000000000^(aD 1000000000 a).length≤1000000000^2:=aME (by decide) h
 omega
theorem akU {H:aA} {u v:VV} (hu:bA u=true) (hv:bA v=true):fz depth H (.eJ [u,v])=some (.eJ [u,v]):=aL (by simp only[bA,aO,hu,hv,Bool.and_self])
theorem aBK {X N:Nat} (h:(aD 1000000000 X).length≤N):MU 0 1 (.ref 0 0 0 N N) (cC X) [.row 0 ((aLr N 0).map tV) 1 true]=some (VI ((aD 1000000000 X).length:Int),[.row 0 ((aD 1000000000 X++aLr (N-(aD 1000000000 X).length) 0).map tV) 1 true]):=by
 have e:((aD 1000000000 X).map tV).take N=(aD 1000000000 X).map tV:=aLu (by simpa using h)
 simp only[MU,cC,Ri,aT,e,aMi,aMq,aL9]
 rw[if_pos ⟨trivial,aKB _,h⟩]
 simp only[dF,List.set_cons_zero,List.take_zero,aLT,aL9,aMi,List.map_append,List.map_replicate,List.drop_replicate]
theorem yP (a b:Nat) (hb:b≠0) (ha:(aD 1000000000 a).length<17592186044416) (zE:(aD 1000000000 b).length<17592186044416):TC 185 [cC a,cC b] (.eJ [cC (a / b),cC (a % b)]):=by
 refine TC.walk ⟨true,false⟩ LB rfl (aMp rfl) (by simp[aO,cM]) (by simp[hJ,sR,pU]) ?_
 have s1:=EF a (by omega)
 have s2:=EF b (by omega)
 have fin:∀ {H:aA},fz depth H (.eJ [cC (a / b),cC (a % b)])=some (.eJ [cC (a / b),cC (a % b)]):=akU (cM _) (cM _)
 by_cases hsm:(aD 1000000000 a).length≤2∧(aD 1000000000 b).length≤2
 ·rw[if_pos hsm.1] at s1
  rw[if_pos hsm.2] at s2
  have la:=axD hsm.1
  have q1:=NR a b (by omega) (by omega)
  have q2:=Oy a b (by omega)
  have hdl:a / b≤a:=Nat.div_le_self _ _
  have hml:a % b≤a:=Nat.mod_le _ _
  have n1:TC 178 [VI ((a / b:Nat):Int)] (cC (a / b)):=tQ ((a / b:Nat):Int) (aNx.2 (show a / b≤9223372036854775807 from aKC hdl (by omega)))
  have n2:TC 178 [VI ((a % b:Nat):Int)] (cC (a % b)):=tQ ((a % b:Nat):Int) (aNx.2 (show a % b≤9223372036854775807 from aKC hml (by omega)))
  simp only[gJ,eH,s1,s2,q1,q2,n1,n2,VX,Nat.reduceEqDiff,Nat.reduceAdd]
  exact fin
 have c1:=yU a b (by omega) (by omega)
 obtain⟨x1,t1,FP⟩:∃(x:Int) (t:Bool),(if (aD 1000000000 a).length≤2 then VV.eJ [VI a,VB true] else .eJ [VI 0,VB false]) = .eJ [VI x,VB t]:=by split<;>exact⟨_,_,rfl⟩
 have Xj:∃(x:Int) (t:Bool),(if (aD 1000000000 b).length≤2 then VV.eJ [VI b,VB true] else .eJ [VI 0,VB false]) = .eJ [VI x,VB t]∧(t1=true→t=false):=by
  by_cases h:(aD 1000000000 b).length≤2
  ·rw[if_pos h]
   refine⟨_,_,rfl,fun ht => ?_⟩
   rw[if_neg (fun h'=>hsm ⟨h',h⟩)] at FP
   injection FP with FP
   injection FP with _ FP
   injection FP with FP _
   injection FP with FP
   injection FP with FP
   subst ht
   cases FP
  ·rw[if_neg h]
   exact⟨_,_,rfl,fun _=>rfl⟩
 obtain⟨x2,t2,Xj,ht⟩:=Xj
 rw[FP] at s1
 rw[Xj] at s2
 by_cases I0:gH a b<0
 ·have bI:a<b:=Ay.1 I0
  have e0:∀lr,mW lr [.int .i64 0] 0 [] []=some (.ref 0 0 0 0 0,[.row 0 [] 1 true]):=fun lr=>mX (H:=[]) rfl
  have e1:∀lr,mW lr [.int .i64 0] 0 [] [.row 0 [] 1 true]=some (.ref 1 0 0 0 0,[.row 0 [] 1 true,.row 0 [] 1 true]):=fun lr=>mX (H:=[.row 0 [] 1 true]) rfl
  rw[Nat.div_eq_of_lt bI,Nat.mod_eq_of_lt bI]
  have hz:fz (6+1) [.row 0 [] 1 true,.row 0 [] 1 true] (.ref 0 0 0 0 0)=some (cC 0):=by rw[KH];rfl
  by_cases ha0:a=0
  ·subst ha0
   have ap:dR 0 1 8 (.ref 1 0 0 0 0) ((aD 1000000000 0).map tV) [.row 0 [] 1 true,.row 0 [] 1 true]=some (.ref 1 0 0 0 0,[.row 0 [] 1 true,.row 0 [] 1 true]):=by
    rw[cE];rfl
   have Lm:fz (6+1) [.row 0 [] 1 true,.row 0 [] 1 true] (.ref 1 0 0 0 0)=some (cC 0):=by rw[KH];rfl
   cases t1 with
   |
    false =>
    simp only[gJ,eH,s1,s2,c1,I0,e0,e1,ap,GD,VX,Nat.reduceEqDiff,Nat.reduceAdd]
    exact bO (d:=6) hz Lm
   |
    true =>
    rw[ht rfl] at s2
    simp only[gJ,eH,s1,s2,c1,I0,e0,e1,ap,GD,VX,Nat.reduceEqDiff,Nat.reduceAdd]
    exact bO (d:=6) hz Lm
  ·have hln:(aD 1000000000 a).length≠0:=fun h=>ha0 ((nT (b:=1000000000) (by decide)).1 (aMJ.1 h))
   have ap:dR 0 1 8 (.ref 1 0 0 0 0) ((aD 1000000000 a).map tV) [.row 0 [] 1 true,.row 0 [] 1 true]=some (.ref 1 1 0 (aD 1000000000 a).length (aD 1000000000 a).length,[.row 0 [] 1 true,.row 1 ((aD 1000000000 a).map tV) 1 true]):=by
    have hr:aG [.row 0 [] 1 true,.row 0 [] 1 true] 1 0=some ([],1,true):=rfl
    simp only[dR,hr,aMi,aL9,aMe,Nat.add_zero]
    rw[if_pos ⟨by decide,by decide⟩,if_pos ⟨trivial,Nat.zero_le _,aKB _⟩,if_neg (by omega),if_pos (by omega)]
    simp
   have CI:fz (6+1) [.row 0 [] 1 true,.row 1 ((aD 1000000000 a).map tV) 1 true] (.ref 0 0 0 0 0)=some (cC 0):=by rw[KH];rfl
   have Lm:fz (6+1) [.row 0 [] 1 true,.row 1 ((aD 1000000000 a).map tV) 1 true] (.ref 1 1 0 (aD 1000000000 a).length (aD 1000000000 a).length)=some (cC a):=by
    have:bA (.ref 1 1 0 (aD 1000000000 a).length (aD 1000000000 a).length)=false:=rfl
    have hr:aG [.row 0 [] 1 true,.row 1 ((aD 1000000000 a).map tV) 1 true] 1 1=some ((aD 1000000000 a).map tV,1,true):=rfl
    unfold fz
    simp only[this,hr,aLd,if_false]
    rw[if_pos ⟨by simp,aKB _⟩,List.drop_zero,aLu (by simp),mapM_pure (n:=5) (fQ fun _=>rfl)]
    rfl
   cases t1 with
   |
    false =>
    simp only[gJ,eH,s1,s2,c1,I0,e0,e1,ap,GD,VX,Nat.reduceEqDiff,Nat.reduceAdd]
    exact bO (d:=6) CI Lm
   |
    true =>
    rw[ht rfl] at s2
    simp only[gJ,eH,s1,s2,c1,I0,e0,e1,ap,GD,VX,Nat.reduceEqDiff,Nat.reduceAdd]
    exact bO (d:=6) CI Lm
 have Hl:b≤a:=by have := @Ay a b;omega
 have hbn:(aD 1000000000 b).length≠0:=fun h=>hb ((nT (b:=1000000000) (by decide)).1 (aMJ.1 h))
 by_cases h1:(((aD 1000000000 b).length:Nat):Int)=1
 ·obtain⟨d,hd⟩:∃d,aD 1000000000 b=[d]:=aNy.1 (by omega)
  obtain⟨hbd,Ft,hdT⟩:=aeJ hd
  have e1:bK 1 (cC b) (VI 0) []=some (.cJ (tV d) 0):=by
   rw[cC,hd]
   exact aI (f:=tV) (t := .op) (H:=[]) (size:=1) (k := .i64) (xs:=[d]) (i:=0) rfl rfl
  have c2:=Bp a d Ft hdT (by omega)
  rw[←hbd] at c2
  have Yv:a % b≤b:=aLi (aK3 _ (by omega))
  have n2:TC 178 [VI ((a % b:Nat):Int)] (cC (a % b)):=tQ ((a % b:Nat):Int) (aNx.2 (show a % b≤9223372036854775807 from aKC Yv (by omega)))
  have e2:tV d=tV b:=by rw[hbd]
  rw[e2] at e1
  cases t1 with
  |
   false =>
   simp only[gJ,eH,s1,s2,c1,I0,cQ,h1,e1,c2,n2,VX,Nat.reduceEqDiff,Nat.reduceAdd]
   exact fin
  |
   true =>
   rw[ht rfl] at s2
   simp only[gJ,eH,s1,s2,c1,I0,cQ,h1,e1,c2,n2,VX,Nat.reduceEqDiff,Nat.reduceAdd]
   exact fin
 obtain⟨n,hn⟩:∃n,(aD 1000000000 b).length=n+2:=⟨(aD 1000000000 b).length-2,by omega⟩
 obtain⟨t,htd,ht0,htT⟩:=KT (a:=b) (n:=n+1) hn
 obtain⟨s,hs⟩:∃s,s=1000000000 / (t+1):=⟨_,rfl⟩
 have U1:1≤s:=by rw[hs];exact(Nat.le_div_iff_mul_le (by omega)).2 (by omega)
 have hsT:s<1000000000:=by rw[hs];exact Nat.div_lt_self (by decide) (by omega)
 have wU:(t+1)*s≤1000000000:=by rw[hs];exact Nat.mul_div_le _ _
 have hla:=fB (b:=1000000000) (by decide) Hl
 have w0:IntKind.i64.wrap (((n+2:Nat):Int)-1)=((n+1:Nat):Int):=wrapN _ (by omega) (by omega)
 have w1:IntKind.i64.wrap ((t:Int)+1)=((t+1:Nat):Int):=wrapN _ (by omega) (by omega)
 have q0:dK .quo (.int .i64 1000000000) (.int .i64 ((t+1:Nat):Int))=some (.int .i64 (s:Int)):=by rw[hs];exact NR 1000000000 (t+1) (by decide) (by omega)
 have et:∀H,bK 1 (cC b) (VI ((n+1:Nat):Int)) H=some (.cJ (tV t) 0):=fun H=>aI (f:=tV) (t := .op) (size:=1) (k := .i64) htd rfl
 have h1':¬(((n+2:Nat):Int)=1):=by omega
 obtain⟨N,hN⟩:∃N,N=(aD 1000000000 a).length+1:=⟨_,rfl⟩
 have wN:IntKind.i64.wrap (((aD 1000000000 a).length:Int)+1)=(N:Int):=wrapN _ (by omega) (by omega)
 have mkN:=Te N (by omega)
 have c3:=Bo a s U1 hsT ha
 have c4:=Bo b s U1 hsT zE
 have azY:b*s<1000000000^(n+2):=by
  have h2:=(Cp (n:=n+1) (gK (b:=1000000000) (by decide) b) hn htd).2
  rw[cN (by decide)] at h2
  have h3:b*s<(t+1)*1000000000^(n+1)*s:=aM6 h2 U1
  have h4:(t+1)*1000000000^(n+1)*s=(t+1)*s*1000000000^(n+1):=by grind
  have h9:(t+1)*s*1000000000^(n+1)≤1000000000*1000000000^(n+1):=aK2 _ wU
  have h10:1000000000*1000000000^(n+1)=1000000000^(n+2):=by rw[Nat.pow_succ 1000000000 (n+1)];exact aL3 _ _
  rw[h4] at h3
  rw[h10] at h9
  exact Nat.lt_of_lt_of_le h3 h9
 have hVl:(aD 1000000000 (b*s)).length=n+2:=by
  have h2:=oM (b:=1000000000) (by decide) azY
  have h3:b≤b*s:=Nat.le_mul_of_pos_right b U1
  have h4:=fB (b:=1000000000) (by decide) h3
  omega
 have hAl:(aD 1000000000 (a*s)).length≤N:=by
  have h2:=Sx (b:=1000000000) (by decide) a s
  have h3:(aD 1000000000 s).length≤1:=oM (by decide) (by rw[Nat.pow_one];exact hsT)
  omega
 have cp:=aBK hAl
 obtain⟨m,hm⟩:∃m,m+(n+2)=N:=⟨N-(n+2),by omega⟩
 have wm:IntKind.i64.wrap ((N:Int)-((n+2:Nat):Int))=(m:Int):=wrapN _ (by omega) (by omega)
 have wm1:IntKind.i64.wrap ((m:Int)-1)=(m:Int)-1:=wrap64 (by omega) (by omega)
 obtain⟨Hk,aqT⟩:∃Hk,Hk=aD 1000000000 (a*s)++aLr (N-(aD 1000000000 (a*s)).length) 0:=⟨_,rfl⟩
 rw[←aqT] at cp
 have mkm:BA [.int .i64 0] 8 (VI (m:Int)) (VI (m:Int)) [.row 0 (Hk.map tV) 1 true]=some (.ref 1 0 0 m m,[.row 0 (Hk.map tV) 1 true]++[.row 0 ((aLr m 0).map tV) 1 true]):=nY (f:=tV) (x:=0) (H:=[.row 0 (Hk.map tV) 1 true]) rfl (by omega) (by omega)
 have lN:∀K,aG K 0 0=some (Hk.map tV,1,true)→rL (.ref 0 0 0 N N) K=some (VI (N:Int)):=fun K h=>eK h
 have l1:=lN [.row 0 (Hk.map tV) 1 true] rfl
 have l2:=lN (H2 Hk (aLr m 0)) rfl
 have aAf:Hk.length=N:=by rw[aqT,aKM,aMq];omega
 have aBG:∀d∈Hk,d<1000000000:=fun d hd=>by
  rw[aqT] at hd
  rcases List.mem_append.1 hd with h | h
  ·exact gK (by decide) _ d h
  ·rw[List.eq_of_mem_replicate h];decide
 have azV:val 1000000000 Hk=a*s:=by rw[aqT,BE,vA,Nat.mul_zero,Nat.add_zero,cN (by decide)]
 generalize TZ:aD 1000000000 (b*s)=vs at *
 have Ju:∀d∈vs,d<1000000000:=by rw[←TZ];exact gK (by decide) _
 have Qr:val 1000000000 vs=b*s:=by rw[←TZ];exact cN (by decide) _
 have lV:∀H,rL (cC (b*s)) H=some (VI ((n+2:Nat):Int)):=fun H=>by rw[cQ,TZ,hVl]
 obtain⟨v1,f1⟩:∃v1,vs[n+1]? = some v1:=⟨_,aKI (by omega)⟩
 obtain⟨v0,f0⟩:∃v0,vs[n]? = some v0:=⟨_,aKI (by omega)⟩
 have hv1:1≤v1:=by
  obtain⟨d,hd,Ft,_⟩:=KT (a:=b*s) (n:=n+1) (by rw[TZ];exact hVl)
  rw[TZ,f1] at hd
  cases hd
  omega
 have E0:val 1000000000 (Hk.drop m)<val 1000000000 vs:=by
  have h2:=sP (b:=1000000000) Hk m
  rw[List.length_take,aAf,Nat.min_eq_left (by omega),azV] at h2
  have h3:a<b*1000000000^m:=by
   have y1:=iP (b:=1000000000) (by decide) a
   have y2:=NH (b:=1000000000) (by decide) hb
   rw[hn] at y2
   have y3:1000000000^(n+2-1)*1000000000^m≤b*1000000000^m:=aK2 _ y2
   rw[←Nat.pow_add,show n+2-1+m=(aD 1000000000 a).length by omega] at y3
   exact Nat.lt_of_lt_of_le y1 y3
  have h4:a*s<b*1000000000^m*s:=aM6 h3 U1
  have h5:b*1000000000^m*s=1000000000^m*(b*s):=by grind
  rw[Qr]
  have h6:1000000000^m*val 1000000000 (Hk.drop m)<1000000000^m*(b*s):=by
   rw[←h5]
   exact Nat.lt_of_le_of_lt (by rw[h2];exact Nat.le_add_left _ _) h4
  exact Nat.lt_of_mul_lt_mul_left h6
 have body:VW ⟨true,false⟩ 0 (.loop kB)=VW ⟨true,false⟩ 0 (.loop kB):=rfl
 have tail:∀(us os:List Nat),us.length=N→(∀d∈us,d<1000000000)→os.length=m→(∀d∈os,d<1000000000)→val 1000000000 us+val 1000000000 vs*val 1000000000 os=a*s→val 1000000000 us<val 1000000000 vs →
   (∀lo K,dI 184 [.ref 0 0 0 N N] lo (H2 us os) K=K (cC (a % b*s)) (dD (H2 us os) [0])) ∧
   (∀lo K,dI 184 [.ref 1 0 0 m m] lo (dD (H2 us os) [0]) K=K (cC (a / b)) (dD (dD (H2 us os) [0]) [1]))∧TC 202 [cC (a % b*s),VI (s:Int)] (.eJ [cC (a % b),VI ((a % b*s % s:Nat):Int)]):=by
  intro us os T0 MB iB nK hv bI
  rw[Qr] at hv bI
  have hq:val 1000000000 os=a / b:=by
   rw[←Nat.mul_div_mul_right a b U1,←hv,Nat.add_mul_div_left _ _ (Nat.lt_of_le_of_lt (Nat.zero_le _) bI),Nat.div_eq_of_lt bI,aL9]
  have hr:val 1000000000 us=a % b*s:=by
   rw[←Nat.mul_mod_mul_right,←hv,Nat.add_mul_mod_self_left,Nat.mod_eq_of_lt bI]
  refine⟨fun lo K => ?_,fun lo K => ?_,?_⟩
  ·have h:=vU us MB (by omega)
   rw[hr] at h
   exact TC.asV (f:=tV) h YD T0.symm (aKB _) IM (fun _=>rfl) rfl rfl lo K
  ·have h:=vU os nK (by omega)
   rw[hq] at h
   have lT:aG (dD (H2 us os) [0]) 1 0=some (os.map tV,1,true):=rfl
   exact TC.asV (f:=tV) h lT iB.symm (aKB _) IM (fun _=>rfl) rfl rfl lo K
  ·have h:=Bp (a % b*s) s U1 hsT (by
    have h2:=fB (b:=1000000000) (by decide) (aKC (aLi bI) (show b*s≤b*s from aKB _))
    rw[hr,TZ] at h2
    omega)
   rwa [Nat.mul_div_cancel _ U1] at h
 clear body
 have nV:cC (b*s)=jI vs:=by rw[cC,TZ]
 cases t1 with
 |
  false =>
  simp only[gJ,eH,s1,s2,c1,I0,cQ,hn,h1',w0,w1,q0,et,wN,mkN,c3,c4,cp,lV,l1,l2,wm,wm1,mkm,List.cons_append,aLT,VX,Nat.reduceEqDiff,Nat.reduceAdd]
  refine R9 (Hk:=Hk) (os0:=aLr m 0) (vs:=vs) (N:=N) (m:=m) (n:=n) (A:=a*s) (s:=s) aAf hm (by omega) aBG hVl Ju f1 f0 hv1 azV E0 (by simp) (Cw (by decide) _) (by rfl) (by rfl) (by simp only[VX,Nat.reduceEqDiff,Nat.reduceAdd];exact nV) (by rfl) (by rfl) (by rfl) ?_
  intro AS us os r12 r13 r16 T0 MB iB nK hv bI
  obtain⟨x1,x2,x3⟩:=tail us os T0 MB iB nK hv bI
  simp only[r12,r13,r16,x1,x2,x3,VX,Nat.reduceEqDiff,Nat.reduceAdd]
  exact fin
 |
  true =>
  rw[ht rfl] at s2
  simp only[gJ,eH,s1,s2,c1,I0,cQ,hn,h1',w0,w1,q0,et,wN,mkN,c3,c4,cp,lV,l1,l2,wm,wm1,mkm,List.cons_append,aLT,VX,Nat.reduceEqDiff,Nat.reduceAdd]
  refine R9 (Hk:=Hk) (os0:=aLr m 0) (vs:=vs) (N:=N) (m:=m) (n:=n) (A:=a*s) (s:=s) aAf hm (by omega) aBG hVl Ju f1 f0 hv1 azV E0 (by simp) (Cw (by decide) _) (by rfl) (by rfl) (by simp only[VX,Nat.reduceEqDiff,Nat.reduceAdd];exact nV) (by rfl) (by rfl) (by rfl) ?_
  intro AS us os r12 r13 r16 T0 MB iB nK hv bI
  obtain⟨x1,x2,x3⟩:=tail us os T0 MB iB nK hv bI
  simp only[r12,r13,r16,x1,x2,x3,VX,Nat.reduceEqDiff,Nat.reduceAdd]
  exact fin
end Go.PM
namespace Go.PM
theorem dN (n:Nat) {H:aA}:rL (bR n) H=some (VI (aD 4294967296 n).length):=eW
theorem AH {n:Nat}:(0:Int)<((aD 4294967296 n).length:Int)↔n≠0:=by
 constructor
 ·intro h h0
  subst h0
  rw[cE] at h
  simp at h
 ·intro h
  have:=(nT (b:=4294967296) (by decide) (n:=n))
  have h2:aD 4294967296 n≠[]:=fun hx=>h (this.1 hx)
  have:=aNz.2 h2
  omega
theorem W3 {n:Nat} (h:(aD 4294967296 n).length≤2):n<18446744073709551616:=by
 have h1:=iP (b:=4294967296) (by decide) n
 have h2:4294967296^(aD 4294967296 n).length≤4294967296^2:=aME (by decide) h
 omega
theorem FY (a b:Nat) (ha:(aD 4294967296 a).length≤17592186044416) (hb:(aD 4294967296 b).length≤17592186044416):TC 175 [bR a,bR b] (bR (aNj a b)):=by
 refine TC.walk ⟨true,false⟩ Lt rfl (aMp rfl) (by simp[aO,bW]) (tX _) ?_
 simp only[Fy,Dm,VX,Nat.reduceEqDiff,Nat.reduceAdd]
 refine aP (fun(t:Nat×Nat) ρ H=>H=[]∧aNj t.1 t.2=aNj a b∧(aD 4294967296 t.1).length≤17592186044416∧(aD 4294967296 t.2).length≤17592186044416∧ρ 0=bR t.1∧ρ 1=bR t.2) (fun t=>t.2) (a,b) ⟨rfl,rfl,ha,hb,rfl,rfl⟩ ?_
 rintro⟨x,y⟩ ρ H ⟨rfl,hg,hx,hy,g0,g1⟩
 simp only at hg hx hy g0 g1
 have c1:=DJ x hx
 have c2:=DJ y hy
 by_cases hy0:y=0
 ·subst hy0
  have hl:¬(0:Int)<((aD 4294967296 0).length:Int):=by rw[AH];omega
  rw[aNA] at hg
  simp only[kK,g0,g1,dN,hl,VX,Nat.reduceEqDiff,Nat.reduceAdd]
  rw[hg]
  exact aL (bW _)
 have hl:(0:Int)<((aD 4294967296 y).length:Int):=AH.2 hy0
 by_cases h1:(aD 4294967296 x).length≤2∧(aD 4294967296 y).length≤2
 ·rw[if_pos h1.1] at c1
  rw[if_pos h1.2] at c2
  simp only[kK,g0,g1,dN,hl,c1,c2,VX,Nat.reduceEqDiff,Nat.reduceAdd]
  refine aP (fun(t:Nat×Nat) ρ H=>H=[]∧aNj t.1 t.2=aNj a b∧t.1<18446744073709551616∧t.2<18446744073709551616∧ρ 5=VK .u64 t.1∧ρ 7=VK .u64 t.2) (fun t=>t.2) (x,y) ⟨rfl,hg,W3 h1.1,W3 h1.2,rfl,rfl⟩ ?_
  rintro⟨u,v⟩ tG H ⟨rfl,hg2,hu,hv,k5,k7⟩
  simp only at hg2 hu hv k5 k7
  by_cases hv0:v=0
  ·subst hv0
   rw[aNA] at hg2
   have hz:¬(0:Int)<((0:Nat):Int):=by omega
   have c3:=oW u hu
   simp only[wR,k5,k7,hz,c3,VX,Nat.reduceEqDiff,Nat.reduceAdd]
   rw[hg2]
   exact aL (bW _)
  ·have hz:(0:Int)<(v:Int):=by omega
   have r1:=SY u v (by omega)
   simp only[wR,k5,k7,hz,r1,VX,Nat.reduceEqDiff,Nat.reduceAdd]
   refine⟨(v,u % v),?_,?_,hv,?_,rfl,rfl⟩
   ·exact aK3 _ (by omega)
   ·simp only
    rw[←hg2,aNB u v,Nat.gcd_rec v u,aNB]
   ·simp only
    have:=aK3 u (show 0<v by omega)
    omega
 ·have c3:=BM x y hy0 hx hy
  have next:∃s':Nat×Nat,s'.2<y∧aNj s'.1 s'.2=aNj a b∧(aD 4294967296 s'.1).length≤17592186044416∧(aD 4294967296 s'.2).length≤17592186044416∧bR y=bR s'.1∧bR (x % y)=bR s'.2:=by
   have hm:=aK3 x (show 0<y by omega)
   refine⟨(y,x % y),hm,?_,hy,?_,rfl,rfl⟩
   ·simp only
    rw[←hg,aNB x y,Nat.gcd_rec y x,aNB]
   ·simp only
    have:=fB (b:=4294967296) (by decide) (aLi hm)
    omega
  by_cases h2:(aD 4294967296 x).length≤2
  ·have h3:¬(aD 4294967296 y).length≤2:=fun h=>h1 ⟨h2,h⟩
   rw[if_pos h2] at c1
   rw[if_neg h3] at c2
   simp only[kK,g0,g1,dN,hl,c1,c2,c3,VX,Nat.reduceEqDiff,Nat.reduceAdd]
   exact next
  ·rw[if_neg h2] at c1
   by_cases h3:(aD 4294967296 y).length≤2
   ·rw[if_pos h3] at c2
    simp only[kK,g0,g1,dN,hl,c1,c2,c3,VX,Nat.reduceEqDiff,Nat.reduceAdd]
    exact next
   ·rw[if_neg h3] at c2
    simp only[kK,g0,g1,dN,hl,c1,c2,c3,VX,Nat.reduceEqDiff,Nat.reduceAdd]
    exact next
end Go.PM
namespace Go.PM
open Go.Lib
theorem yX (a b:List UInt8) (h:a.length+b.length≤9223372036854775807):dK .add (.string ⟨a.toArray⟩) (.string ⟨b.toArray⟩)=some (.string ⟨(a++b).toArray⟩):=by
 have h1:(⟨a.toArray⟩:ByteArray).size=a.length:=by simp[ByteArray.size]
 have h2:(⟨b.toArray⟩:ByteArray).size=b.length:=by simp[ByteArray.size]
 have h3:¬(((⟨a.toArray⟩:ByteArray).size+(⟨b.toArray⟩:ByteArray).size:Nat):Int)>IntKind.i64.max:=by
  rw[h1,h2]
  show ¬_>(9223372036854775807:Int)
  omega
 simp only[dK,h3,if_false]
 congr 2
theorem bP (a:List UInt8):Dk (.string ⟨a.toArray⟩)=some (.int .i64 (a.length:Int)):=by simp[Dk,ByteArray.size]
theorem asU:∀a:List UInt8,(aB (bD a)).length=1:=fun _=>rfl
theorem acE {xs:List (List UInt8)} {H:aA} {lo b g n:Nat} (hr:aG H b g=some (xs.map bD,1,true)) (hn:xs.length=n) (dS:lo≤b) (Fm:n≤9223372036854775806) :
  jH 216 [.ref b g 0 n n] lo H fun r H'=>r = .eJ []∧H'=H.set b (.row g (xs.reverse.map bD) 1 true):=by
 refine jH.walk ⟨true,false⟩ vI (aMp rfl) ?_
 have e0:rL (.ref b g 0 n n) H=some (VI n):=eK hr
 have w0:IntKind.i64.wrap ((n:Int)-1)=(n:Int)-1:=wrap64 (by omega) (by omega)
 simp only[nJ,mF,e0,w0,VX,Nat.reduceEqDiff,Nat.reduceAdd]
 refine aP (fun(t:Nat×List (List UInt8)) ρ K=>t.1≤n∧K=H.set b (.row g (t.2.map bD) 1 true)∧t.2.length=n∧(∀k,k<n→t.2[k]? = if k<t.1∨n≤k+t.1 then xs[n-1-k]? else xs[k]?)∧ρ 0 = .ref b g 0 n n∧ρ 2=VI t.1∧ρ 3=VI ((n:Int)-1-(t.1:Int))) (fun t=>n-t.1) (0,xs) ⟨Nat.zero_le _,(AD hr).symm,hn,fun k hk=>by rw[if_neg (by simp only;omega)],rfl,rfl,by show VI ((n:Int)-1)=VI ((n:Int)-1-((0:Nat):Int));rw[Int.natCast_zero,Int.sub_zero]⟩ ?_
 rintro⟨i,ys⟩ ρ K ⟨hi,rfl,hl,hy,g0,g2,g3⟩
 simp only at hi hl hy g2 g3
 have hr2:aG (H.set b (.row g (ys.map bD) 1 true)) b g=some (ys.map bD,1,true):=qB hr
 by_cases bZ:(i:Int)<(n:Int)-1-(i:Int)
 ·have hj:(n:Int)-1-(i:Int)=((n-1-i:Nat):Int):=by omega
  obtain⟨x,hx⟩:∃x,ys[i]? = some x:=⟨_,aKI (by omega)⟩
  obtain⟨y,hyy⟩:∃y,ys[n-1-i]? = some y:=⟨_,aKI (by omega)⟩
  rw[hj] at g3 bZ
  have a1:∀(zs:List (List UInt8)) (k:Nat),zs.length=n→k<n→bK 1 (.ref b g 0 n n) (VI (k:Int)) (H.set b (.row g (zs.map bD) 1 true))=some (.ptr b g k 0):=fun zs k h1 h2=>by rw[bB (qB hr) h2,aL9]
  have l1:bH false 1 (.ptr b g (n-1-i) 0) (H.set b (.row g (ys.map bD) 1 true))=some (bD y):=qC hr2 hyy
  have l2:bH false 1 (.ptr b g i 0) (H.set b (.row g (ys.map bD) 1 true))=some (bD x):=qC hr2 hx
  have s1:bL lo 1 (.ptr b g i 0) (bD y) (H.set b (.row g (ys.map bD) 1 true))=some (H.set b (.row g ((ys.set i y).map bD) 1 true)):=by rw[dQ (f:=bD) (e:=1) hr2 (by omega) dS rfl rfl,oL]
  have s2:bL lo 1 (.ptr b g (n-1-i) 0) (bD x) (H.set b (.row g ((ys.set i y).map bD) 1 true))=some (H.set b (.row g (((ys.set i y).set (n-1-i) x).map bD) 1 true)):=by rw[dQ (f:=bD) (e:=1) (qB hr) (by rw[aMz];omega) dS rfl rfl,oL]
  have w1:IntKind.i64.wrap ((i:Int)+1)=((i+1:Nat):Int):=wrapN _ (by omega) (by omega)
  have w2:IntKind.i64.wrap (((n-1-i:Nat):Int)-1)=(n:Int)-1-((i+1:Nat):Int):=by rw[wrap64 (by omega) (by omega)];omega
  have b1:=a1 ys i hl (by omega)
  have b2:=a1 ys (n-1-i) hl (by omega)
  have b3:=a1 (ys.set i y) (n-1-i) (by rw[aMz];exact hl) (by omega)
  simp only[gQ,g0,g2,g3,bZ,b1,b2,b3,l1,l2,s1,s2,w1,w2,VX,Nat.reduceEqDiff,Nat.reduceAdd]
  refine⟨(i+1,(ys.set i y).set (n-1-i) x),by simp only;omega,by simp only;omega,rfl,by simp only[aMz];exact hl,fun k hk => ?_,by (repeat' apply And.intro)<;>first | rfl | trivial⟩
  simp only
  have hxx:=hy i (by omega)
  rw[if_neg (by omega),hx] at hxx
  have hyx:=hy (n-1-i) (by omega)
  rw[if_neg (by omega),hyy] at hyx
  rw[List.getElem?_set,List.getElem?_set,aMz]
  by_cases h1:n-1-i=k
  ·subst h1
   rw[if_pos rfl,if_pos (by omega),if_pos (by omega),show n-1-(n-1-i)=i by omega]
   exact hxx
  ·rw[if_neg h1]
   by_cases h2:i=k
   ·subst h2
    rw[if_pos rfl,if_pos (by omega),if_pos (by omega)]
    exact hyx
   ·rw[if_neg h2,hy k hk]
    by_cases h3:k<i∨n≤k+i
    ·rw[if_pos h3,if_pos (by omega)]
    ·rw[if_neg h3,if_neg (by omega)]
 ·have aFq:ys=xs.reverse:=by
   apply List.ext_getElem?
   intro k
   rcases Nat.lt_or_ge k n with h | h
   ·rw[hy k h,List.getElem?_reverse (by omega),hn]
    split
    ·rfl
    ·rw[show n-1-k=k by omega]
   ·rw[aK1 (by omega),aK1 (by rw[aNC];omega)]
  subst aFq
  simp only[gQ,g0,g2,g3,bZ,VX,Nat.reduceEqDiff,Nat.reduceAdd]
  try exact⟨rfl,rfl⟩
theorem abP (n:Nat):(aD 1000000000 n).length≤2*(aD 4294967296 n).length:=by
 refine oM (by decide) ?_
 have h1:=iP (b:=4294967296) (by decide) n
 have h2:4294967296^(aD 4294967296 n).length≤(1000000000^2)^(aD 4294967296 n).length:=Nat.pow_le_pow_left (by decide) _
 rw[←Nat.pow_mul] at h2
 omega
theorem apY {n:Nat} (hn:n≠0):(decDigits n).length≤9*(aD 1000000000 n).length:=by
 have h1:=iP (b:=1000000000) (by decide) n
 have h3:(aD 1000000000 n)≠[]:=fun h=>hn ((nT (by decide)).1 h)
 have h4:=aNz.2 h3
 generalize (aD 1000000000 n).length=L at *
 obtain⟨k,hk⟩:∃k,9*L=k+1:=⟨9*L-1,by omega⟩
 have h5:(1000000000:Nat)^L=10^(9*L):=by rw[show (1000000000:Nat)=10^9 by decide,←Nat.pow_mul]
 rw[h5,hk] at h1
 rw[hk]
 exact Ev n k h1
def uZ (q:Nat):List UInt8:=if q=0 then [] else decDigits q
theorem EZ (n:Nat) (hn:(aD 4294967296 n).length≤68719476736):TC 196 [bR n] (bD (decDigits n)):=by
 refine TC.walk ⟨true,false⟩ Kh rfl (aMp rfl) (by simp[aO,bW]) rfl ?_
 by_cases h0:n=0
 ·subst h0
  have hl:(((aD 4294967296 0).length:Nat):Int)=0:=by rw[cE];rfl
  simp only[Ab,wF,dN,hl,VX,Nat.reduceEqDiff,Nat.reduceAdd]
  rw[kD (by decide)]
  exact aL rfl
 have hl:¬(((aD 4294967296 n).length:Nat):Int)=0:=by have:=AH.2 h0;omega
 have e1:∀lr,mW lr [.string ⟨#[]⟩] 0 [] []=some (.ref 0 0 0 0 0,[.row 0 (([]:List (List UInt8)).map bD) 1 true]):=fun lr=>mX (H:=[]) (lr:=lr) (z:=[.string ⟨#[]⟩]) rfl
 have hTn:=abP n
 have hdl:=apY h0
 simp only[Ab,wF,dN,hl,e1,VX,Nat.reduceEqDiff,Nat.reduceAdd]
 refine aP (fun(t:Nat×List (List UInt8)) ρ H=>H=[.row t.2.length (t.2.map bD) 1 true]∧t.1≤n∧t.2.length+(aD 1000000000 t.1).length=(aD 1000000000 n).length∧decDigits n=uZ t.1++t.2.reverse.flatten∧ρ 0=bR t.1∧ρ 3 = .ref 0 t.2.length 0 t.2.length t.2.length) (fun t=>t.1) (n,[]) ⟨rfl,aKB _,by simp,by simp[uZ,h0],rfl,rfl⟩ ?_
 rintro⟨q,ps⟩ ρ H ⟨rfl,hq,hlen,adE,g0,g3⟩
 simp only at hq hlen adE g0 g3
 by_cases T3:q=0
 ·subst T3
  have hz:¬(0:Int)<((aD 4294967296 0).length:Int):=by rw[AH];omega
  rw[uZ,if_pos rfl,aLT] at adE
  have hr:aG [.row ps.length (ps.map bD) 1 true] 0 ps.length=some (ps.map bD,1,true):=aT
  simp only[pH,g0,g3,dN,hz,VX,Nat.reduceEqDiff,Nat.reduceAdd]
  refine gC rfl ((acE hr rfl (aKB _) (by omega)).mono ?_)
  rintro r H' ⟨rfl,rfl⟩
  have Lb:([.row ps.length (ps.map bD) 1 true]:aA).set 0 (.row ps.length (ps.reverse.map bD) 1 true)=[.row ps.length (ps.reverse.map bD) 1 true]:=rfl
  have hr2:aG [.row ps.length (ps.reverse.map bD) 1 true] 0 ps.length=some (ps.reverse.map bD,1,true):=aT
  have hfl:ps.reverse.flatten.length≤140737488355328:=by rw[←adE];omega
  have cj:=(ayN ps.reverse (by rw[aNC];omega) hfl).flat (H:=[.row ps.length (ps.reverse.map bD) 1 true]) (args:=[.ref 0 ps.length 0 ps.length ps.length,bD []]) rfl (by simp only[aO,mO (f:=bD) asU (fun _=>rfl),Bool.and_true];rfl) (fz2 (II hr2 (by simp) (aKB _) (fQ fun _=>rfl)) (aL rfl)) rfl
  simp only[Lb,g3,cj,VX,Nat.reduceEqDiff,Nat.reduceAdd]
  rw[←adE]
  exact aL rfl
 ·have hz:(0:Int)<((aD 4294967296 q).length:Int):=AH.2 T3
  have hql:=fB (b:=4294967296) (by decide) hq
  have c1:TC 197 [bR q,.sc (.int .u32 1000000000)] (.eJ [bR (q / 1000000000),uV (q % 1000000000)]):=Av q 1000000000 (by decide) (by decide) (by omega)
  have hm:=aK3 q (show 0<1000000000 by decide)
  have c2:=azM (q % 1000000000) (by omega)
  have wm:IntKind.u64.wrap ((q % 1000000000:Nat):Int)=((q % 1000000000:Nat):Int):=eZ _ (by omega)
  have hdq:=kW (b:=1000000000) (by decide) T3
  have aIj:(aD 1000000000 q).length=(aD 1000000000 (q / 1000000000)).length+1:=by rw[hdq];rfl
  have hdr:=Ev (q % 1000000000) 8 hm
  have hqq:=Nat.mod_add_div q 1000000000
  have e2:∀x:List UInt8,mW false [.string ⟨#[]⟩] 1 [(0,bD x)] [.row ps.length (ps.map bD) 1 true]=some (.tree [bD x] (.cl 1),[.row ps.length (ps.map bD) 1 true]):=fun x=>iY (z:=[.string ⟨#[]⟩]) rfl rfl rfl
  have e3:∀x:List UInt8,cZ 1 (.tree [bD x] (.cl 1)) [.row ps.length (ps.map bD) 1 true]=some [bD x]:=fun x=>eV rfl rfl
  have e4:∀x:List UInt8,dR 0 1 16 (.ref 0 ps.length 0 ps.length ps.length) [bD x] [.row ps.length (ps.map bD) 1 true]=some (.ref 0 (ps.length+1) 0 (ps.length+1) (ps.length+1),[.row (ps.length+1) ((ps++[x]).map bD) 1 true]):=fun x=>by
   rw[jT (f:=bD) (x:=x) aT rfl (aKB _) (by decide) (by decide) (by omega)]
   rfl
  have hle:q / 1000000000<q:=Nat.div_lt_self (by omega) (by decide)
  by_cases hqz:q / 1000000000=0
  ·have NB:¬(0:Int)<((aD 4294967296 (q / 1000000000)).length:Int):=by rw[AH];omega
   simp only[pH,g0,g3,dN,hz,c1,c2,wm,NB,e2,e3,e4,VX,Nat.reduceEqDiff,Nat.reduceAdd]
   refine⟨(q / 1000000000,ps++[decDigits (q % 1000000000)]),hle,by simp,by simp only;omega,by simp only[aKM,aMQ];omega,?_,rfl,by simp⟩
   rw[adE,uZ,if_neg T3,uZ,if_pos hqz,aND,aLT,aNE,aNF,List.flatten_cons,show q % 1000000000=q by omega]
  ·have NB:(0:Int)<((aD 4294967296 (q / 1000000000)).length:Int):=AH.2 hqz
   have ws:IntKind.i64.wrap ((9:Int)-((decDigits (q % 1000000000)).length:Int))=((9-(decDigits (q % 1000000000)).length:Nat):Int):=wrapN _ (by omega) (by omega)
   have c3:=aoI [48] (9-(decDigits (q % 1000000000)).length) (by simp;omega) (by omega)
   have aoH:repeatL [48] (9-(decDigits (q % 1000000000)).length)++decDigits (q % 1000000000)=Fb 9 (q % 1000000000):=by
    rw[awS 8 _ hm]
    congr 1
    have:=repeatL_replicate 48 1 (9-(decDigits (q % 1000000000)).length)
    rw[Nat.mul_one] at this
    exact this
   have c4:=yX (repeatL [48] (9-(decDigits (q % 1000000000)).length)) (decDigits (q % 1000000000)) (by rw[←aKM,aoH,aqL];decide)
   rw[aoH] at c4
   simp only[pH,g0,g3,dN,hz,c1,c2,wm,NB,bP,ws,c3,c4,e2,e3,e4,VX,Nat.reduceEqDiff,Nat.reduceAdd]
   refine⟨(q / 1000000000,ps++[Fb 9 (q % 1000000000)]),hle,by simp,by simp only;omega,by simp only[aKM,aMQ];omega,?_,rfl,by simp⟩
   rw[adE,uZ,if_neg T3,uZ,if_neg hqz,aND,aNE,aNF,List.flatten_cons,←List.append_assoc,←KF (by omega) hm]
   congr 2
   omega
end Go.PM
namespace Go.PM
open Go.Lib
def aF (q:Rat):VV := .agg [VB (decide (q.num<0)),bR q.num.natAbs,bR q.den]
theorem eR (q:Rat):bA (aF q)=true:=by simp[aF,bA,aO,bW,qE]
theorem oF (q:Rat):hJ (aF q)=true:=by simp[aF,hJ,sR,tX,qE]
theorem Et {q:Rat} {neg:Bool} {t b:Nat} (h0:q.num<0↔neg=true) (h1:q.num.natAbs=t) (h2:q.den=b):aF q = .agg [VB neg,bR t,bR b]:=by
 subst h1 h2
 unfold aF
 congr 4
 cases neg<;>simp_all
theorem aqH {neg:Bool} {t b:Nat} (hb:b≠0) (ht:t≠0):aF (mkRat (mH neg t) b) = .agg [VB neg,bR (t / aNj t b),bR (b / aNj t b)]:=by
 refine Et ?_ ?_ (TJ hb)
 ·rw[Ik hb,Tu]
  have h1:t / aNj t b≠0:=by
   have:=Nat.div_pos (aNk (by omega) (aNl t b)) (aNm b (by omega))
   omega
  simp[h1]
 ·rw[Ik hb,qK]
theorem afR:aF 0 = .agg [VB false,.tree [] .op,bR 1]:=by
 rw[Et (q:=0) (neg:=false) (t:=0) (b:=1) (by simp) rfl rfl,Gz]
theorem aV (n:Nat):bN (bR n)=true:=rfl
theorem aW (n:Nat):isAny (bR n)=false:=rfl
theorem aR (n:Nat):aB (bR n)=[bR n]:=rfl
theorem cF (q:Rat):isAny (aF q)=false:=rfl
theorem aH (q:Rat):aB (aF q)=[VB (decide (q.num<0)),bR q.num.natAbs,bR q.den]:=rfl
theorem bF (q:Rat):dP true 3 (aF q) 0=some (aF q):=rfl
theorem kZ (q:Rat):dP false 1 (aF q) 0=some (VB (decide (q.num<0))):=rfl
theorem lB (q:Rat):dP false 1 (aF q) 1=some (bR q.num.natAbs):=rfl
theorem nM (q:Rat):dP false 1 (aF q) 2=some (bR q.den):=rfl
theorem uI {d:Nat} {H:aA} {u u' v v' w w':VV} (h1:fz (d+1) H u=some u') (h2:fz (d+1) H v=some v') (h3:fz (d+1) H w=some w'):fz (d+2) H (.agg [u,v,w])=some (.agg [u',v',w']):=by
 have e:fz (d+2) H (.agg [u,v,w])=if bA (.agg [u,v,w])=true then some (.agg [u,v,w]) else ([u,v,w].mapM (fz (d+1) H)).map .agg:=rfl
 rw[e]
 by_cases hp:bA (.agg [u,v,w])=true
 ·rw[if_pos hp]
  simp only[bA,aO,Bool.and_eq_true,and_true] at hp
  rw[aN hp.1] at h1
  rw[aN hp.2.1] at h2
  rw[aN hp.2.2] at h3
  cases h1
  cases h2
  cases h3
  rfl
 ·rw[if_neg hp,aLY,h1,aLY,h2,aLY,h3]
  rfl
theorem aoC {d:Nat} {H:aA} {v:Value} (h:qE v=true):fz (d+1) H (.sc v)=some (.sc v):=aN h
theorem zJ {H:aA} {neg:Bool} {t b:Nat}:fz depth H (.agg [VB neg,bR t,bR b])=some (.agg [VB neg,bR t,bR b]):=aL (by simp[bA,aO,bW,qE])
theorem uB {H:aA} (q:Rat):fz depth H (aF q)=some (aF q):=aL (eR q)
theorem aCh {n:Nat} (h:bl n≤2199023255552):(aD 4294967296 n).length≤68719476736:=by
 have:=avJ n
 omega
theorem gN {n:Nat} (h:bl n≤4398046511104):(aD 4294967296 n).length≤17592186044416:=by
 have:=avJ n
 omega
theorem tN (neg:Bool) (t b:Nat) (hb:b≠0) (ht:bl t≤4398046511104) (zE:bl b≤4398046511104):TC 144 [VB neg,bR t,bR b] (aF (mkRat (mH neg t) b)):=by
 refine TC.walk ⟨true,false⟩ QD rfl (aMp rfl) (by simp[aO,bW,bA,qE]) (oF _) ?_
 by_cases h0:t=0
 ·subst h0
  have hl:(((aD 4294967296 0).length:Nat):Int)=0:=by rw[cE];rfl
  have c1:TC 139 [.sc (.int .u64 1)] (bR 1):=oW 1 (by decide)
  rw[Bk,Rat.zero_mkRat,afR,←Gz]
  simp only[zQ,tY,dN,hl,c1,aV,aW,aR,fZ,Nat.reduceLeDiff,Nat.reduceLT,Nat.reduceSub,VX,Nat.reduceEqDiff,Nat.reduceAdd]
  exact uI (aoC rfl) Az (aN (bW _))
 ·have hl:¬(((aD 4294967296 t).length:Nat):Int)=0:=by have:=AH.2 h0;omega
  have c1:=FY t b (gN ht) (gN zE)
  have hg0:aNj t b≠0:=aNG hb
  have hgl:bl (aNj t b)≤4398046511104:=aKC (mA (Nat.gcd_le_right t (by omega))) zE
  have c2:=BM t _ hg0 (gN ht) (gN hgl)
  have c3:=BM b _ hg0 (gN zE) (gN hgl)
  rw[aqH hb h0]
  by_cases h1:((aD 4294967296 (aNj t b)).length:Int)=1
  ·obtain⟨d,hd⟩:∃d,aD 4294967296 (aNj t b)=[d]:=aNy.1 (by omega)
   obtain⟨hgd,_,_⟩:=Un hd
   have e1:bK 1 (bR (aNj t b)) (.sc (.int .i64 0)) [.row 0 [.agg [VB false,.tree [] .nil,.tree [] .nil]] 3 true]=some (.cJ (uV d) 0):=aI (f:=uV) (xs:=aD 4294967296 (aNj t b)) (i:=0) (k := .i64) (by rw[hd];rfl) rfl
   by_cases h2:(d:Int)=1
   ·have hg1:aNj t b=1:=by omega
    simp only[zQ,tY,dN,hl,c1,h1,h2,e1,aV,aW,aR,fZ,Nat.reduceLeDiff,Nat.reduceLT,Nat.reduceSub,VX,Nat.reduceEqDiff,Nat.reduceAdd]
    rw[hg1,aNq,aNq]
    exact zJ
   ·simp only[zQ,tY,dN,hl,c1,c2,c3,h1,h2,e1,aV,aW,aR,fZ,Nat.reduceLeDiff,Nat.reduceLT,Nat.reduceSub,VX,Nat.reduceEqDiff,Nat.reduceAdd]
    exact zJ
  ·simp only[zQ,tY,dN,hl,c1,c2,c3,h1,aV,aW,aR,fZ,Nat.reduceLeDiff,Nat.reduceLT,Nat.reduceSub,VX,Nat.reduceEqDiff,Nat.reduceAdd]
   exact zJ
theorem aeG {n:Int} (h0 : -9223372036854775808≤n) (h:n<0):IntKind.u64.wrap (0-IntKind.u64.wrap n)=(n.natAbs:Int):=by
 rw[wrap_u64,wrap_u64]
 omega
theorem Lz (n:Int) (h0 : -9223372036854775808≤n) (h1:n≤9223372036854775807):TC 140 [VI n] (VK .u64 (n.natAbs:Int)):=by
 refine TC.walk ⟨true,false⟩ K3 rfl (aMp rfl) rfl rfl ?_
 by_cases h:n<0
 ·simp only[Ba,xP,h,aeG h0 h,VX,Nat.reduceEqDiff,Nat.reduceAdd]
  exact aL rfl
 ·have w:IntKind.u64.wrap n=(n.natAbs:Int):=by rw[wrap_u64];omega
  simp only[Ba,xP,h,w,VX,Nat.reduceEqDiff,Nat.reduceAdd]
  exact aL rfl
theorem ahZ (n:Int):aF (n:Rat) = .agg [VB (decide (n<0)),bR n.natAbs,bR 1]:=Et (by simp) (by simp) (by simp)
theorem kY (n:Int) (h0 : -9223372036854775808≤n) (h1:n≤9223372036854775807):TC 64 [VI n] (aF (n:Rat)):=by
 refine TC.walk ⟨true,false⟩ TI rfl (aMp rfl) rfl (oF _) ?_
 have c1:=Lz n h0 h1
 have c2:=oW n.natAbs (by omega)
 have c3:TC 139 [.sc (.int .u64 1)] (bR 1):=oW 1 (by decide)
 rw[ahZ]
 simp only[PY,J1,c1,c2,c3,aV,aW,aR,fZ,Nat.reduceLeDiff,Nat.reduceLT,Nat.reduceSub,VX,Nat.reduceEqDiff,Nat.reduceAdd]
 exact zJ
theorem NU {q:Rat}:(((aD 4294967296 q.num.natAbs).length:Nat):Int)=0↔q.num=0:=by
 have:=AH (n:=q.num.natAbs)
 omega
theorem dJ (q:Rat):TC 68 [aF q] (VI (jL q)):=by
 refine TC.walk ⟨true,false⟩ Jj rfl (aMp rfl) (by simp[aO,eR]) rfl ?_
 unfold jL
 by_cases h0:q.num=0
 ·have hl:=NU.2 h0
  rw[if_pos h0]
  simp only[uG,qP,dN,hl,aH,kZ,lB,aV,aW,aR,fZ,Nat.reduceLeDiff,Nat.reduceLT,Nat.reduceSub,VX,Nat.reduceEqDiff,Nat.reduceAdd]
  exact aL rfl
 ·have hl:¬(((aD 4294967296 q.num.natAbs).length:Nat):Int)=0:=fun h=>h0 (NU.1 h)
  rw[if_neg h0]
  by_cases h1:q.num<0
  ·simp only[uG,qP,dN,hl,h1,aH,kZ,lB,aV,aW,aR,fZ,Nat.reduceLeDiff,Nat.reduceLT,Nat.reduceSub,VX,Nat.reduceEqDiff,Nat.reduceAdd]
   exact aL rfl
  ·simp only[uG,qP,dN,hl,h1,aH,kZ,lB,aV,aW,aR,fZ,Nat.reduceLeDiff,Nat.reduceLT,Nat.reduceSub,VX,Nat.reduceEqDiff,Nat.reduceAdd]
   exact aL rfl
theorem Df (q:Rat):TC 177 [aF q] (aF (-q)):=by
 refine TC.walk ⟨true,false⟩ It rfl (aMp rfl) (by simp[aO,eR]) (oF _) ?_
 have hq:aF (-q) = .agg [VB (decide (0<q.num)),bR q.num.natAbs,bR q.den]:=Et (by simp) (by simp) (by simp)
 rw[hq]
 by_cases h1:q.num<0
 ·have h2:¬0<q.num:=by omega
  simp only[sJ,pK,dN,h1,h2,aH,kZ,lB,nM,aV,aW,aR,fZ,Nat.reduceLeDiff,Nat.reduceLT,Nat.reduceSub,VX,Nat.reduceEqDiff,Nat.reduceAdd]
  exact zJ
 ·by_cases h0:q.num=0
  ·have hl:¬(0:Int)<((aD 4294967296 q.num.natAbs).length:Int):=by have:=NU.2 h0;omega
   have h2:¬0<q.num:=by omega
   simp only[sJ,pK,dN,hl,h1,h2,aH,kZ,lB,nM,aV,aW,aR,fZ,Nat.reduceLeDiff,Nat.reduceLT,Nat.reduceSub,VX,Nat.reduceEqDiff,Nat.reduceAdd]
   exact zJ
  ·have hl:(0:Int)<((aD 4294967296 q.num.natAbs).length:Int):=by have:=mt NU.1 h0;omega
   have h2:0<q.num:=by omega
   simp only[sJ,pK,dN,hl,h1,h2,aH,kZ,lB,nM,aV,aW,aR,fZ,Nat.reduceLeDiff,Nat.reduceLT,Nat.reduceSub,VX,Nat.reduceEqDiff,Nat.reduceAdd]
   exact zJ
end Go.PM
namespace Go.PM
open Go.Lib
theorem yI (a b:Bool):Oc false (.bool a) (.bool b)=some (.bool (a == b)):=by
 show some (Value.bool ((a == b) != false))=_
 rw[Bool.bne_false]
theorem Al (a b:Bool):Oc true (.bool a) (.bool b)=some (.bool (a != b)):=by
 show some (Value.bool ((a == b) != true))=_
 cases a<;>cases b<;>rfl
theorem uR {q:Rat} {k:Nat} (h:aK q≤k):bl q.num.natAbs≤k:=aKC pY h
theorem uM {q:Rat} {k:Nat} (h:aK q≤k):bl q.den≤k:=aKC oE h
theorem KO {X Y B:Nat} {a b:Rat} (hB:B≠0) (ha:mkRat (mH (decide (a.num<0)) X) B=a) (hb:mkRat (mH (decide (b.num<0)) Y) B=b) :
  ((decide (a.num<0))=(decide (b.num<0))→mkRat (mH (decide (a.num<0)) (X+Y)) B=a+b) ∧
  ((decide (a.num<0))≠(decide (b.num<0))→Y≤X→mkRat (mH (decide (a.num<0)) (X-Y)) B=a+b) ∧
  ((decide (a.num<0))≠(decide (b.num<0))→X≤Y→mkRat (mH (decide (b.num<0)) (Y-X)) B=a+b):=by
 refine⟨fun h => ?_,fun h hx => ?_,fun h hx => ?_⟩
 ·conv=>rhs;rw[←ha,←hb,FG _ _ hB,←h,S5]
 ·conv=>rhs;rw[←ha,←hb,FG _ _ hB,YB h hx]
 ·conv=>rhs;rw[←ha,←hb,FG _ _ hB,XC h hx]
theorem nQ (a b:Rat) (ME:aK a≤1099511627776) (IZ:aK b≤1099511627776):TC 69 [aF a,aF b] (aF (a+b)):=by
 refine TC.walk ⟨true,false⟩ KU rfl (aMp rfl) (by simp[aO,eR]) (oF _) ?_
 have ca:=dJ a
 have cb:=dJ b
 by_cases ha0:a.num=0
 ·have:a=0:=aNw.1 ha0
  rw[lC ha0] at ca
  rw[this,Rat.zero_add,←this]
  simp only[iJ,fK,ca,cb,aH,bF,cF,aV,aW,aR,fZ,Nat.reduceLeDiff,Nat.reduceLT,Nat.reduceSub,VX,Nat.reduceEqDiff,Nat.reduceAdd]
  exact uB _
 have hsa:¬jL a=0:=fun h=>ha0 (aNw.2 (DZ.1 h))
 by_cases Qq:b.num=0
 ·have:b=0:=aNw.1 Qq
  rw[lC Qq] at cb
  rw[this,Rat.add_zero,←this]
  simp only[iJ,fK,ca,cb,hsa,aH,bF,cF,aV,aW,aR,fZ,Nat.reduceLeDiff,Nat.reduceLT,Nat.reduceSub,VX,Nat.reduceEqDiff,Nat.reduceAdd]
  exact uB _
 have hsb:¬jL b=0:=fun h=>Qq (aNw.2 (DZ.1 h))
 have la:=uR ME
 have lb:=uR IZ
 have lda:=uM ME
 have ldb:=uM IZ
 have fin:∀(X Y B:Nat),bl X≤2199023255552→bl Y≤2199023255552→bl B≤2199023255552→B≠0→mkRat (mH (decide (a.num<0)) X) B=a→mkRat (mH (decide (b.num<0)) Y) B=b →
   TC 145 [bR X,bR Y] (bR (X+Y))∧TC 142 [bR X,bR Y] (VI (gH X Y)) ∧
   (Y≤X→TC 146 [bR X,bR Y] (bR (X-Y)))∧(X≤Y→TC 146 [bR Y,bR X] (bR (Y-X))) ∧
   (∀neg,TC 144 [VB neg,bR (X+Y),bR B] (aF (mkRat (mH neg (X+Y)) B))) ∧
   (∀neg,TC 144 [VB neg,bR (X-Y),bR B] (aF (mkRat (mH neg (X-Y)) B))) ∧
   (∀neg,TC 144 [VB neg,bR (Y-X),bR B] (aF (mkRat (mH neg (Y-X)) B))):=by
  intro X Y B hX hY hB hB0 _ _
  refine⟨Gb X Y (gN (by omega)) (gN (by omega)),lX X Y (gN (by omega)) (gN (by omega)),fun h=>Gt X Y h (gN (by omega)),fun h=>Gt Y X h (gN (by omega)),fun neg=>tN neg _ _ hB0 ?_ (by omega),fun neg=>tN neg _ _ hB0 ?_ (by omega),fun neg=>tN neg _ _ hB0 ?_ (by omega)⟩
  ·exact aKC (YG hX hY) (by omega)
  ·exact aKC (mA (aNH _ _)) (by omega)
  ·exact aKC (mA (aNH _ _)) (by omega)
 by_cases hd:a.den=b.den
 ·have hBn:=a.den_nz
  have cc:=lX a.den b.den (gN (by omega)) (gN (by omega))
  rw[show gH a.den b.den=0 from AP.2 hd] at cc
  have eb:mkRat (mH (decide (b.num<0)) b.num.natAbs) a.den=b:=by rw[hd,NY]
  obtain⟨f1,f2,f3,f4,f5,f6,f7⟩:=fin a.num.natAbs b.num.natAbs a.den (by omega) (by omega) (by omega) hBn (NY a) eb
  obtain⟨p1,p2,p3⟩:=KO hBn (NY a) eb
  by_cases hn:decide (a.num<0)=decide (b.num<0)
  ·have W8:(decide (a.num<0) == decide (b.num<0))=true:=by simpa using hn
   rw[←p1 hn]
   simp only[iJ,fK,ca,cb,hsa,hsb,cc,f1,f5,yI,Al,W8,aH,bF,kZ,lB,nM,cF,aV,aW,aR,fZ,Nat.reduceLeDiff,Nat.reduceLT,Nat.reduceSub,VX,Nat.reduceEqDiff,Nat.reduceAdd]
   exact uB _
  ·have W8:(decide (a.num<0) == decide (b.num<0))=false:=by simpa using hn
   by_cases hx:(0:Int)≤gH a.num.natAbs b.num.natAbs
   ·have hle:b.num.natAbs≤a.num.natAbs:=by have := @Ay a.num.natAbs b.num.natAbs;omega
    have c3:=f3 hle
    rw[←p2 hn hle]
    simp only[iJ,fK,ca,cb,hsa,hsb,cc,f2,c3,f6,hx,yI,Al,W8,aH,bF,kZ,lB,nM,cF,aV,aW,aR,fZ,Nat.reduceLeDiff,Nat.reduceLT,Nat.reduceSub,VX,Nat.reduceEqDiff,Nat.reduceAdd]
    exact uB _
   ·have hle:a.num.natAbs≤b.num.natAbs:=by have := @Ay a.num.natAbs b.num.natAbs;omega
    have c3:=f4 hle
    rw[←p3 hn hle]
    simp only[iJ,fK,ca,cb,hsa,hsb,cc,f2,c3,f7,hx,yI,Al,W8,aH,bF,kZ,lB,nM,cF,aV,aW,aR,fZ,Nat.reduceLeDiff,Nat.reduceLT,Nat.reduceSub,VX,Nat.reduceEqDiff,Nat.reduceAdd]
    exact uB _
 ·have hBn:=aNn a.den_nz b.den_nz
  have cc:=lX a.den b.den (gN (by omega)) (gN (by omega))
  have T7:¬gH a.den b.den=0:=fun h=>hd (AP.1 h)
  have m1:=jS a.num.natAbs b.den (gN (by omega)) (gN (by omega))
  have m2:=jS b.num.natAbs a.den (gN (by omega)) (gN (by omega))
  have m3:=jS a.den b.den (gN (by omega)) (gN (by omega))
  have ea:mkRat (mH (decide (a.num<0)) (a.num.natAbs*b.den)) (a.den*b.den)=a:=GM a b.den_nz
  have eb:mkRat (mH (decide (b.num<0)) (b.num.natAbs*a.den)) (a.den*b.den)=b:=by rw[aL3 a.den];exact GM b a.den_nz
  have k1:=oD a.num.natAbs b.den
  have k2:=oD b.num.natAbs a.den
  have k3:=oD a.den b.den
  obtain⟨f1,f2,f3,f4,f5,f6,f7⟩:=fin _ _ _ (by omega) (by omega) (by omega) hBn ea eb
  obtain⟨p1,p2,p3⟩:=KO hBn ea eb
  by_cases hn:decide (a.num<0)=decide (b.num<0)
  ·have W8:(decide (a.num<0) == decide (b.num<0))=true:=by simpa using hn
   rw[←p1 hn]
   simp only[iJ,fK,ca,cb,hsa,hsb,cc,T7,m1,m2,m3,f1,f5,yI,Al,W8,aH,bF,kZ,lB,nM,cF,aV,aW,aR,fZ,Nat.reduceLeDiff,Nat.reduceLT,Nat.reduceSub,VX,Nat.reduceEqDiff,Nat.reduceAdd]
   exact uB _
  ·have W8:(decide (a.num<0) == decide (b.num<0))=false:=by simpa using hn
   by_cases hx:(0:Int)≤gH (a.num.natAbs*b.den) (b.num.natAbs*a.den)
   ·have hle:b.num.natAbs*a.den≤a.num.natAbs*b.den:=by have := @Ay (a.num.natAbs*b.den) (b.num.natAbs*a.den);omega
    have c3:=f3 hle
    rw[←p2 hn hle]
    simp only[iJ,fK,ca,cb,hsa,hsb,cc,T7,m1,m2,m3,f2,c3,f6,hx,yI,Al,W8,aH,bF,kZ,lB,nM,cF,aV,aW,aR,fZ,Nat.reduceLeDiff,Nat.reduceLT,Nat.reduceSub,VX,Nat.reduceEqDiff,Nat.reduceAdd]
    exact uB _
   ·have hle:a.num.natAbs*b.den≤b.num.natAbs*a.den:=by have := @Ay (a.num.natAbs*b.den) (b.num.natAbs*a.den);omega
    have c3:=f4 hle
    rw[←p3 hn hle]
    simp only[iJ,fK,ca,cb,hsa,hsb,cc,T7,m1,m2,m3,f2,c3,f7,hx,yI,Al,W8,aH,bF,kZ,lB,nM,cF,aV,aW,aR,fZ,Nat.reduceLeDiff,Nat.reduceLT,Nat.reduceSub,VX,Nat.reduceEqDiff,Nat.reduceAdd]
    exact uB _
theorem vX (a b:Rat) (ME:aK a≤1099511627776) (IZ:aK b≤1099511627776):TC 128 [aF a,aF b] (aF (a-b)):=by
 refine TC.walk ⟨true,false⟩ LJ rfl (aMp rfl) (by simp[aO,eR]) (oF _) ?_
 have c1:=Df b
 have c2:=nQ a (-b) ME (by rw[G5];exact IZ)
 rw[←Rat.sub_eq_add_neg] at c2
 simp only[FU,CX,c1,c2,aH,bF,cF,aV,aW,aR,fZ,Nat.reduceLeDiff,Nat.reduceLT,Nat.reduceSub,VX,Nat.reduceEqDiff,Nat.reduceAdd]
 exact uB _
theorem jW (a b:Rat) (ME:aK a≤1099511627776) (IZ:aK b≤1099511627776):TC 132 [aF a,aF b] (aF (a*b)):=by
 refine TC.walk ⟨true,false⟩ K1 rfl (aMp rfl) (by simp[aO,eR]) (oF _) ?_
 have ca:=dJ a
 have cb:=dJ b
 have c0:TC 64 [VI 0] (aF 0):=kY 0 (by decide) (by decide)
 by_cases ha0:a.num=0
 ·have:a=0:=aNw.1 ha0
  rw[lC ha0] at ca
  rw[show a*b=0 by rw[this,Rat.zero_mul]]
  simp only[wZ,sI,ca,cb,c0,aH,bF,cF,aV,aW,aR,fZ,Nat.reduceLeDiff,Nat.reduceLT,Nat.reduceSub,VX,Nat.reduceEqDiff,Nat.reduceAdd]
  exact uB _
 have hsa:¬jL a=0:=fun h=>ha0 (aNw.2 (DZ.1 h))
 by_cases Qq:b.num=0
 ·have:b=0:=aNw.1 Qq
  rw[lC Qq] at cb
  rw[show a*b=0 by rw[this,Rat.mul_zero]]
  simp only[wZ,sI,ca,cb,hsa,c0,aH,bF,cF,aV,aW,aR,fZ,Nat.reduceLeDiff,Nat.reduceLT,Nat.reduceSub,VX,Nat.reduceEqDiff,Nat.reduceAdd]
  exact uB _
 have hsb:¬jL b=0:=fun h=>Qq (aNw.2 (DZ.1 h))
 have la:=uR ME
 have lb:=uR IZ
 have lda:=uM ME
 have ldb:=uM IZ
 have l1:=tN false a.num.natAbs b.den b.den_nz (by omega) (by omega)
 have l2:=tN false b.num.natAbs a.den a.den_nz (by omega) (by omega)
 obtain⟨d1,d2⟩:=D7 a.num.natAbs b.den_nz
 obtain⟨d3,d4⟩:=D7 b.num.natAbs a.den_nz
 have b1:=mA (aNk (by omega) d1)
 have b2:=mA (aNk (Nat.pos_of_ne_zero b.den_nz) d2)
 have b3:=mA (aNk (by omega) d3)
 have b4:=mA (aNk (Nat.pos_of_ne_zero a.den_nz) d4)
 obtain⟨e1,e2⟩:=acK a b
 have e3:=Ux ha0 Qq
 generalize mkRat (mH false a.num.natAbs) b.den=u at *
 generalize mkRat (mH false b.num.natAbs) a.den=v at *
 have m1:=jS u.num.natAbs v.num.natAbs (gN (by omega)) (gN (by omega))
 have m2:=jS u.den v.den (gN (by omega)) (gN (by omega))
 rw[Et e3 e1 e2]
 simp only[wZ,sI,ca,cb,hsa,hsb,l1,l2,m1,m2,yI,Al,aH,bF,kZ,lB,nM,cF,aV,aW,aR,fZ,Nat.reduceLeDiff,Nat.reduceLT,Nat.reduceSub,VX,Nat.reduceEqDiff,Nat.reduceAdd]
 exact zJ
theorem amJ {b:Rat} (h:b≠0):aF b⁻¹ = .agg [VB (decide (b.num<0)),bR b.den,bR b.num.natAbs]:=by
 have hn:b.num≠0:=fun hn=>h (aNw.1 hn)
 have hd:(0:Int)<b.den:=by have:=b.den_nz;omega
 refine Et ?_ ?_ ?_
 ·rw[Rat.num_inv,decide_eq_true_eq]
  rcases aNr hn with h1 | h1
  ·rw[aNI h1];omega
  ·rw[aNJ h1];omega
 ·rw[Rat.num_inv,aNf,Int.natAbs_natCast]
  rcases aNr hn with h1 | h1
  ·rw[aNI h1];simp
  ·rw[aNJ h1];simp
 ·rw[Rat.den_inv,if_neg hn]
theorem Ae (a b:Rat) (hb:b≠0) (ME:aK a≤1099511627776) (IZ:aK b≤1099511627776):TC 129 [aF a,aF b] (aF (a / b)):=by
 refine TC.walk ⟨true,false⟩ JL rfl (aMp rfl) (by simp[aO,eR]) (oF _) ?_
 have c1:=jW a b⁻¹ ME (aKC (Q6 b) IZ)
 rw[←Rat.div_def,amJ hb] at c1
 simp only[EJ,B4,c1,aH,bF,kZ,lB,nM,cF,aV,aW,aR,fZ,Nat.reduceLeDiff,Nat.reduceLT,Nat.reduceSub,VX,Nat.reduceEqDiff,Nat.reduceAdd]
 exact uB _
theorem MK (q:Rat) : -1≤jL q∧jL q≤1:=by
 rcases aNu q.num 0 with h | h | h
 ·rw[oX h];omega
 ·rw[lC h];omega
 ·rw[pE h];omega
theorem Yx (m n:Nat) : -1≤gH m n∧gH m n≤1:=by
 rcases Nat.lt_trichotomy m n with h | h | h
 ·rw[gH,if_pos h];omega
 ·subst h;rw[gH,if_neg (by omega),if_pos rfl];omega
 ·rw[gH,if_neg (by omega),if_neg (by omega)];omega
theorem Oz (a b:Rat) (ME:aK a≤1099511627776) (IZ:aK b≤1099511627776):TC 148 [aF a,aF b] (VI (Qs a b)):=by
 refine TC.walk ⟨true,false⟩ KY rfl (aMp rfl) (by simp[aO,eR]) rfl ?_
 have ca:=dJ a
 have cb:=dJ b
 have la:=uR ME
 have lb:=uR IZ
 have lda:=uM ME
 have ldb:=uM IZ
 have k1:=oD a.num.natAbs b.den
 have k2:=oD b.num.natAbs a.den
 have m1:=jS a.num.natAbs b.den (gN (by omega)) (gN (by omega))
 have m2:=jS b.num.natAbs a.den (gN (by omega)) (gN (by omega))
 have c1:=lX (a.num.natAbs*b.den) (b.num.natAbs*a.den) (gN (by omega)) (gN (by omega))
 have ra:=MK a
 have rb:=MK b
 have rc:=Yx (a.num.natAbs*b.den) (b.num.natAbs*a.den)
 unfold Qs
 by_cases hs:jL a=jL b
 ·rw[if_pos hs]
  have w:IntKind.i64.wrap (0-gH (a.num.natAbs*b.den) (b.num.natAbs*a.den)) = -gH (a.num.natAbs*b.den) (b.num.natAbs*a.den):=by rw[wrap64 (by omega) (by omega)];omega
  by_cases hn:a.num<0
  ·rw[if_pos hn]
   simp only[vZ,sM,ca,cb,hs,m1,m2,c1,hn,w,aH,bF,kZ,lB,nM,cF,aV,aW,aR,fZ,Nat.reduceLeDiff,Nat.reduceLT,Nat.reduceSub,VX,Nat.reduceEqDiff,Nat.reduceAdd]
   exact aL rfl
  ·rw[if_neg hn]
   simp only[vZ,sM,ca,cb,hs,m1,m2,c1,hn,aH,bF,kZ,lB,nM,cF,aV,aW,aR,fZ,Nat.reduceLeDiff,Nat.reduceLT,Nat.reduceSub,VX,Nat.reduceEqDiff,Nat.reduceAdd]
   exact aL rfl
 ·rw[if_neg hs]
  have w:IntKind.i64.wrap (jL a-jL b)=jL a-jL b:=wrap64 (by omega) (by omega)
  simp only[vZ,sM,ca,cb,hs,w,aH,bF,kZ,lB,nM,cF,aV,aW,aR,fZ,Nat.reduceLeDiff,Nat.reduceLT,Nat.reduceSub,VX,Nat.reduceEqDiff,Nat.reduceAdd]
  exact aL rfl
theorem Kz (a:Rat) (ME:aK a≤1099511627776):TC 161 [aF a] (VB (decide (a=1))):=by
 refine TC.walk ⟨true,false⟩ Iw rfl (aMp rfl) (by simp[aO,eR]) rfl ?_
 have c1:=Oz a 1 ME (by rw[AQ];decide)
 have c2:TC 64 [VI 1] (aF 1):=kY 1 (by decide) (by decide)
 by_cases h:Qs a 1=0
 ·rw[decide_eq_true (Rm.1 h)]
  simp only[yH,uS,c1,c2,h,aH,bF,cF,aV,aW,aR,fZ,Nat.reduceLeDiff,Nat.reduceLT,Nat.reduceSub,VX,Nat.reduceEqDiff,Nat.reduceAdd]
  exact aL rfl
 ·rw[decide_eq_false (mt Rm.2 h)]
  simp only[yH,uS,c1,c2,h,aH,bF,cF,aV,aW,aR,fZ,Nat.reduceLeDiff,Nat.reduceLT,Nat.reduceSub,VX,Nat.reduceEqDiff,Nat.reduceAdd]
  exact aL rfl
end Go.PM
namespace Go.PM
theorem tO {n:Nat}:(0:Int)<((aD 1000000000 n).length:Int)↔n≠0:=by
 constructor
 ·intro h h0
  subst h0
  rw[cE] at h
  simp at h
 ·intro h
  have:=(nT (b:=1000000000) (by decide) (n:=n))
  have h2:aD 1000000000 n≠[]:=fun hx=>h (this.1 hx)
  have:=aNz.2 h2
  omega
theorem pN {n:Nat} (h:bl n≤4398046511104):(aD 1000000000 n).length<17592186044416:=by
 have:=avP n
 omega
theorem H9 (a b:Nat) (ha:(aD 1000000000 a).length<17592186044416) (hb:(aD 1000000000 b).length<17592186044416):TC 170 [cC a,cC b] (cC (aNj a b)):=by
 refine TC.walk ⟨true,false⟩ Qx rfl (aMp rfl) (by simp[aO,cM]) (pU _) ?_
 simp only[MH,HO,VX,Nat.reduceEqDiff,Nat.reduceAdd]
 refine aP (fun(t:Nat×Nat) ρ H=>H=[]∧aNj t.1 t.2=aNj a b∧(aD 1000000000 t.1).length<17592186044416∧(aD 1000000000 t.2).length<17592186044416∧ρ 0=cC t.1∧ρ 1=cC t.2) (fun t=>t.2) (a,b) ⟨rfl,rfl,ha,hb,rfl,rfl⟩ ?_
 rintro⟨x,y⟩ ρ H ⟨rfl,hg,hx,hy,g0,g1⟩
 simp only at hg hx hy g0 g1
 by_cases hy0:y=0
 ·subst hy0
  have hl:¬(0:Int)<((aD 1000000000 0).length:Int):=by rw[tO];omega
  rw[aNA] at hg
  simp only[Bb,g0,g1,cQ,hl,VX,Nat.reduceEqDiff,Nat.reduceAdd]
  rw[hg]
  exact aL (cM _)
 ·have hl:(0:Int)<((aD 1000000000 y).length:Int):=tO.2 hy0
  have c3:=yP x y hy0 hx hy
  have hm:=aK3 x (show 0<y by omega)
  simp only[Bb,g0,g1,cQ,hl,c3,VX,Nat.reduceEqDiff,Nat.reduceAdd]
  refine⟨(y,x % y),hm,?_,hy,?_,rfl,rfl⟩
  ·simp only
   rw[←hg,aNB x y,Nat.gcd_rec y x,aNB]
  ·simp only
   have:=fB (b:=1000000000) (by decide) (aLi hm)
   omega
def aM (q:Rat):VV := .agg [VB (decide (q.num<0)),cC q.num.natAbs,cC q.den]
theorem pX (q:Rat):bA (aM q)=true:=by simp[aM,bA,aO,cM,qE]
theorem vN (q:Rat):hJ (aM q)=true:=by simp[aM,hJ,sR,pU,qE]
theorem NJ {q:Rat} {neg:Bool} {t b:Nat} (h0:q.num<0↔neg=true) (h1:q.num.natAbs=t) (h2:q.den=b):aM q = .agg [VB neg,cC t,cC b]:=by
 subst h1 h2
 unfold aM
 congr 4
 cases neg<;>simp_all
theorem aS (n:Nat):bN (cC n)=true:=rfl
theorem bC (n:Nat):isAny (cC n)=false:=rfl
theorem aY (n:Nat):aB (cC n)=[cC n]:=rfl
theorem gO (q:Rat):isAny (aM q)=false:=rfl
theorem bU (q:Rat):aB (aM q)=[VB (decide (q.num<0)),cC q.num.natAbs,cC q.den]:=rfl
theorem cI (q:Rat):dP true 3 (aM q) 0=some (aM q):=rfl
theorem iG (q:Rat):dP false 1 (aM q) 0=some (VB (decide (q.num<0))):=rfl
theorem jX (q:Rat):dP false 1 (aM q) 1=some (cC q.num.natAbs):=rfl
theorem jV (q:Rat):dP false 1 (aM q) 2=some (cC q.den):=rfl
theorem sG {H:aA} {neg:Bool} {t b:Nat}:fz depth H (.agg [VB neg,cC t,cC b])=some (.agg [VB neg,cC t,cC b]):=aL (by simp[bA,aO,cM,qE])
theorem B2 {H:aA} (q:Rat):fz depth H (aM q)=some (aM q):=aL (pX q)
theorem amW (n:Int):aM (n:Rat) = .agg [VB (decide (n<0)),cC n.natAbs,cC 1]:=NJ (by simp) (by simp) (by simp)
theorem NW {n lo:Nat} {H:aA} {K:VV→aA→Prop} (h:(aD 1000000000 n).length≤17592186044416):dI 155 [cC n,.tree [VI 1] (.cl 1)] lo H K=K (VI (gH n 1)) H:=by
 have c:=yU n 1 h (by rw[FE (by decide) (by decide) (by decide)];simp)
 have e:cC 1 = .tree [VI 1] .op:=by rw[cC,FE (by decide) (by decide) (by decide)];rfl
 rw[e] at c
 exact TC.args c rfl (by simp only[aO,cM];rfl) (fz2 (aL (cM n)) (avH rfl)) (by simp only[List.flatMap_cons,List.flatMap_nil,Ek (cM n),ahB (es:=[VI 1]) rfl,List.append_nil]) lo K
theorem eT {d:Int} {H:aA}:mW false [.int .i64 0] 1 [(0,VI d)] H=some (.tree [VI d] (.cl 1),H):=wB
theorem gS {e:Nat} {es:List VV}:bN (.tree es (.cl e))=true:=rfl
theorem eQ {k:TK} {es:List VV}:aB (.tree es k)=[.tree es k]:=rfl
theorem gW {k:TK} {es:List VV}:isAny (.tree es k)=false:=rfl
theorem TG {d:Nat} {H:aA}:fz (d+2) H (.tree [VI 1] (.cl 1))=some (cC 1):=by
 rw[ahS]
 unfold fz
 have:bA (.tree [VI 1] (.cl 1))=false:=by simp[bA]
 simp only[this,aLd,if_false]
 rfl
theorem rM (neg:Bool) (t b:Nat) (hb:b≠0) (ht:bl t≤4398046511104) (zE:bl b≤4398046511104):TC 153 [VB neg,cC t,cC b] (aM (mkRat (mH neg t) b)):=by
 refine TC.walk ⟨true,false⟩ Pa rfl (aMp rfl) (by simp[aO,cM,bA,qE]) (vN _) ?_
 have hg0:aNj t b≠0:=aNG hb
 have hgl:bl (aNj t b)≤4398046511104:=aKC (mA (Nat.gcd_le_right t (by omega))) zE
 have c1:=H9 t b (pN ht) (pN zE)
 have c2:=yP t _ hg0 (pN ht) (pN hgl)
 have c3:=yP b _ hg0 (pN zE) (pN hgl)
 have c4:∀lo H K,_:=fun lo H K=>NW (n:=aNj t b) (lo:=lo) (H:=H) (K:=K) (aLi (pN hgl))
 have Xs:aM (mkRat (mH neg t) b) = .agg [VB (neg&&decide (t / aNj t b≠0)),cC (t / aNj t b),cC (b / aNj t b)]:=by
  refine NJ ?_ (by rw[Ik hb,qK]) (TJ hb)
  rw[Ik hb,Tu,Bool.and_eq_true,decide_eq_true_eq]
 rw[Xs]
 by_cases h1:gH (aNj t b) 1=0
 ·have hg1:=AP.1 h1
  have e1:t / aNj t b=t:=by rw[hg1,aNq]
  have e2:b / aNj t b=b:=by rw[hg1,aNq]
  rw[e1,e2]
  cases neg with
  |
   false =>
   simp only[pI,lM,c1,c4,h1,eT,aS,bC,aY,fZ,Nat.reduceLeDiff,Nat.reduceLT,Nat.reduceSub,VX,Nat.reduceEqDiff,Nat.reduceAdd]
   exact sG
  |
   true =>
   by_cases h0:t=0
   ·have hl:¬(0:Int)<((aD 1000000000 t).length:Int):=by rw[tO];omega
    simp only[pI,lM,c1,c4,h1,hl,cQ,eT,aS,bC,aY,fZ,Nat.reduceLeDiff,Nat.reduceLT,Nat.reduceSub,VX,Nat.reduceEqDiff,Nat.reduceAdd]
    rw[h0]
    exact sG
   ·have hl:(0:Int)<((aD 1000000000 t).length:Int):=tO.2 h0
    simp only[pI,lM,c1,c4,h1,hl,cQ,eT,aS,bC,aY,fZ,Nat.reduceLeDiff,Nat.reduceLT,Nat.reduceSub,VX,Nat.reduceEqDiff,Nat.reduceAdd]
    rw[decide_eq_true h0]
    exact sG
 ·cases neg with
  |
   false =>
   simp only[pI,lM,c1,c2,c3,c4,h1,eT,aS,bC,aY,fZ,Nat.reduceLeDiff,Nat.reduceLT,Nat.reduceSub,VX,Nat.reduceEqDiff,Nat.reduceAdd]
   exact sG
  |
   true =>
   generalize t / aNj t b=t' at *
   by_cases h0:t'=0
   ·have hl:¬(0:Int)<((aD 1000000000 t').length:Int):=by rw[tO];omega
    simp only[pI,lM,c1,c2,c3,c4,h1,hl,cQ,eT,aS,bC,aY,fZ,Nat.reduceLeDiff,Nat.reduceLT,Nat.reduceSub,VX,Nat.reduceEqDiff,Nat.reduceAdd]
    rw[h0]
    exact sG
   ·have hl:(0:Int)<((aD 1000000000 t').length:Int):=tO.2 h0
    simp only[pI,lM,c1,c2,c3,c4,h1,hl,cQ,eT,aS,bC,aY,fZ,Nat.reduceLeDiff,Nat.reduceLT,Nat.reduceSub,VX,Nat.reduceEqDiff,Nat.reduceAdd]
    rw[decide_eq_true h0]
    exact sG
theorem Cz (n:Int) (h0 : -9223372036854775808<n) (h1:n≤9223372036854775807):TC 130 [VI n] (aM (n:Rat)):=by
 refine TC.walk ⟨true,false⟩ Qp rfl (aMp rfl) rfl (vN _) ?_
 rw[amW]
 by_cases h:n<0
 ·have w:IntKind.i64.wrap (0-n)=(n.natAbs:Int):=wrapN _ (by omega) (by omega)
  have c1:TC 178 [VI (n.natAbs:Int)] (cC n.natAbs):=tQ (n.natAbs:Int) (by omega)
  rw[decide_eq_true h]
  simp only[F9,CO,h,w,c1,eT,aS,bC,aY,gS,eQ,gW,fZ,Nat.reduceLeDiff,Nat.reduceLT,Nat.reduceSub,VX,Nat.reduceEqDiff,Nat.reduceAdd]
  exact uI (d:=6) (aoC rfl) (aN (cM _)) (TG (d:=5))
 ·have c1:TC 178 [VI n] (cC n.natAbs):=by
   have:=tQ n h1
   rwa [show n.toNat=n.natAbs by omega] at this
  rw[decide_eq_false h]
  simp only[F9,CO,h,c1,eT,aS,bC,aY,gS,eQ,gW,fZ,Nat.reduceLeDiff,Nat.reduceLT,Nat.reduceSub,VX,Nat.reduceEqDiff,Nat.reduceAdd]
  exact uI (d:=6) (aoC rfl) (aN (cM _)) (TG (d:=5))
theorem HW:TC 83 [] (aM 1):=by
 refine TC.walk ⟨true,false⟩ Qz rfl (aMp rfl) rfl (vN _) ?_
 have c1:TC 130 [VI 1] (aM 1):=Cz 1 (by decide) (by decide)
 simp only[Ml,HG,c1,bU,cI,gO,aS,fZ,Nat.reduceLeDiff,Nat.reduceLT,Nat.reduceSub,VX,Nat.reduceEqDiff,Nat.reduceAdd]
 exact B2 _
theorem BU:TC 77 [] (aM 0):=by
 refine TC.walk ⟨true,false⟩ Pd rfl (aMp rfl) rfl (vN _) ?_
 have c1:TC 130 [VI 0] (aM 0):=Cz 0 (by decide) (by decide)
 simp only[JS,Fj,c1,bU,cI,gO,aS,fZ,Nat.reduceLeDiff,Nat.reduceLT,Nat.reduceSub,VX,Nat.reduceEqDiff,Nat.reduceAdd]
 exact B2 _
theorem BG (q:Rat):TC 157 [aM q] (aM (-q)):=by
 refine TC.walk ⟨true,false⟩ Ie rfl (aMp rfl) (by simp[aO,pX]) (vN _) ?_
 have hq:aM (-q) = .agg [VB (decide (0<q.num)),cC q.num.natAbs,cC q.den]:=NJ (by simp) (by simp) (by simp)
 rw[hq]
 by_cases h1:q.num<0
 ·have h2:¬0<q.num:=by omega
  simp only[sY,oQ,cQ,h1,h2,bU,iG,jX,jV,aS,bC,aY,fZ,Nat.reduceLeDiff,Nat.reduceLT,Nat.reduceSub,VX,Nat.reduceEqDiff,Nat.reduceAdd]
  exact sG
 ·by_cases h0:q.num=0
  ·have hl:¬(0:Int)<((aD 1000000000 q.num.natAbs).length:Int):=by rw[tO];omega
   have h2:¬0<q.num:=by omega
   simp only[sY,oQ,cQ,hl,h1,h2,bU,iG,jX,jV,aS,bC,aY,fZ,Nat.reduceLeDiff,Nat.reduceLT,Nat.reduceSub,VX,Nat.reduceEqDiff,Nat.reduceAdd]
   exact sG
  ·have hl:(0:Int)<((aD 1000000000 q.num.natAbs).length:Int):=by rw[tO];omega
   have h2:0<q.num:=by omega
   simp only[sY,oQ,cQ,hl,h1,h2,bU,iG,jX,jV,aS,bC,aY,fZ,Nat.reduceLeDiff,Nat.reduceLT,Nat.reduceSub,VX,Nat.reduceEqDiff,Nat.reduceAdd]
   exact sG
theorem tS (a b:Rat) (ME:aK a≤1099511627776) (IZ:aK b≤1099511627776):TC 79 [aM a,aM b] (aM (a+b)):=by
 refine TC.walk ⟨true,false⟩ QM rfl (aMp rfl) (by simp[aO,pX]) (vN _) ?_
 have la:=uR ME
 have lb:=uR IZ
 have lda:=uM ME
 have ldb:=uM IZ
 have hBn:=aNn a.den_nz b.den_nz
 have m1:=fP a.num.natAbs b.den (aLi (pN (by omega))) (aLi (pN (by omega)))
 have m2:=fP b.num.natAbs a.den (aLi (pN (by omega))) (aLi (pN (by omega)))
 have m3:=fP a.den b.den (aLi (pN (by omega))) (aLi (pN (by omega)))
 have ea:mkRat (mH (decide (a.num<0)) (a.num.natAbs*b.den)) (a.den*b.den)=a:=GM a b.den_nz
 have eb:mkRat (mH (decide (b.num<0)) (b.num.natAbs*a.den)) (a.den*b.den)=b:=by rw[aL3 a.den];exact GM b a.den_nz
 have k1:=oD a.num.natAbs b.den
 have k2:=oD b.num.natAbs a.den
 have k3:=oD a.den b.den
 obtain⟨p1,p2,p3⟩:=KO hBn ea eb
 have hX:bl (a.num.natAbs*b.den)≤2199023255552:=by omega
 have hY:bl (b.num.natAbs*a.den)≤2199023255552:=by omega
 have hB:bl (a.den*b.den)≤4398046511104:=by omega
 generalize a.num.natAbs*b.den=X at *
 generalize b.num.natAbs*a.den=Y at *
 generalize a.den*b.den=B at *
 have f1:=L4 X Y (pN (by omega)) (pN (by omega))
 have f2:=yU X Y (aLi (pN (by omega))) (aLi (pN (by omega)))
 have hS:bl (X+Y)≤4398046511104:=aKC (YG hX hY) (by decide)
 have hD1:bl (X-Y)≤4398046511104:=aKC (mA (aNH _ _)) (by omega)
 have hD2:bl (Y-X)≤4398046511104:=aKC (mA (aNH _ _)) (by omega)
 have f5:=fun neg=>rM neg (X+Y) B hBn hS hB
 have f6:=fun neg=>rM neg (X-Y) B hBn hD1 hB
 have f7:=fun neg=>rM neg (Y-X) B hBn hD2 hB
 by_cases hn:decide (a.num<0)=decide (b.num<0)
 ·have W8:(decide (a.num<0) == decide (b.num<0))=true:=by simpa using hn
  rw[←p1 hn]
  simp only[Ci,yZ,m1,m2,m3,f1,f5,yI,Al,W8,bU,cI,iG,jX,jV,gO,aS,bC,aY,fZ,Nat.reduceLeDiff,Nat.reduceLT,Nat.reduceSub,VX,Nat.reduceEqDiff,Nat.reduceAdd]
  exact B2 _
 ·have W8:(decide (a.num<0) == decide (b.num<0))=false:=by simpa using hn
  by_cases hx:(0:Int)≤gH X Y
  ·have hle:Y≤X:=by have := @Ay X Y;omega
   have c3:=B5 X Y hle (aLi (pN (by omega)))
   rw[←p2 hn hle]
   simp only[Ci,yZ,m1,m2,m3,f2,c3,f6,hx,yI,Al,W8,bU,cI,iG,jX,jV,gO,aS,bC,aY,fZ,Nat.reduceLeDiff,Nat.reduceLT,Nat.reduceSub,VX,Nat.reduceEqDiff,Nat.reduceAdd]
   exact B2 _
  ·have hle:X≤Y:=by have := @Ay X Y;omega
   have c3:=B5 Y X hle (aLi (pN (by omega)))
   rw[←p3 hn hle]
   simp only[Ci,yZ,m1,m2,m3,f2,c3,f7,hx,yI,Al,W8,bU,cI,iG,jX,jV,gO,aS,bC,aY,fZ,Nat.reduceLeDiff,Nat.reduceLT,Nat.reduceSub,VX,Nat.reduceEqDiff,Nat.reduceAdd]
   exact B2 _
theorem EE (a b:Rat) (ME:aK a≤1099511627776) (IZ:aK b≤1099511627776):TC 82 [aM a,aM b] (aM (a-b)):=by
 refine TC.walk ⟨true,false⟩ M5 rfl (aMp rfl) (by simp[aO,pX]) (vN _) ?_
 have c1:=BG b
 have c2:=tS a (-b) ME (by rw[G5];exact IZ)
 rw[←Rat.sub_eq_add_neg] at c2
 simp only[Ia,EV,c1,c2,bU,cI,gO,aS,bC,aY,fZ,Nat.reduceLeDiff,Nat.reduceLT,Nat.reduceSub,VX,Nat.reduceEqDiff,Nat.reduceAdd]
 exact B2 _
theorem Zp (a b:Int):mH (decide (a<0) != decide (b<0)) (a.natAbs*b.natAbs)=a*b:=by
 rcases aNu a 0 with h1 | h1 | h1<;>rcases aNu b 0 with h2 | h2 | h2
 ·rw[decide_eq_true h1,decide_eq_true h2]
  simp only[mH,bne_self_eq_false,aLd,if_false,aM1]
  rw[show (a.natAbs:Int) = -a by omega,show (b.natAbs:Int) = -b by omega,Int.neg_mul_neg]
 ·subst h2;simp[Bk]
 ·rw[decide_eq_true h1,decide_eq_false (show ¬b<0 by omega)]
  simp only[mH,Bool.true_bne,Bool.not_false,if_true,aM1]
  rw[show (a.natAbs:Int) = -a by omega,show (b.natAbs:Int)=b by omega,aNi,Int.neg_neg]
 ·subst h1;simp[Bk]
 ·subst h1;simp[Bk]
 ·subst h1;simp[Bk]
 ·rw[decide_eq_false (show ¬a<0 by omega),decide_eq_true h2]
  simp only[mH,Bool.false_bne,if_true,aM1]
  rw[show (a.natAbs:Int)=a by omega,show (b.natAbs:Int) = -b by omega,Int.mul_neg,Int.neg_neg]
 ·subst h2;simp[Bk]
 ·rw[decide_eq_false (show ¬a<0 by omega),decide_eq_false (show ¬b<0 by omega)]
  simp only[mH,bne_self_eq_false,aLd,if_false,aM1]
  rw[show (a.natAbs:Int)=a by omega,show (b.natAbs:Int)=b by omega]
theorem uF (a b:Rat) (ME:aK a≤1099511627776) (IZ:aK b≤1099511627776):TC 125 [aM a,aM b] (aM (a*b)):=by
 refine TC.walk ⟨true,false⟩ M6 rfl (aMp rfl) (by simp[aO,pX]) (vN _) ?_
 have la:=uR ME
 have lb:=uR IZ
 have lda:=uM ME
 have ldb:=uM IZ
 have k1:=oD a.num.natAbs b.num.natAbs
 have k3:=oD a.den b.den
 have m1:=fP a.num.natAbs b.num.natAbs (aLi (pN (by omega))) (aLi (pN (by omega)))
 have m3:=fP a.den b.den (aLi (pN (by omega))) (aLi (pN (by omega)))
 have c1:=rM (decide (a.num<0) != decide (b.num<0)) (a.num.natAbs*b.num.natAbs) (a.den*b.den) (aNn a.den_nz b.den_nz) (by omega) (by omega)
 rw[Zp,←aNo] at c1
 simp only[HC,EM,m1,m3,c1,Al,bU,cI,iG,jX,jV,gO,aS,bC,aY,fZ,Nat.reduceLeDiff,Nat.reduceLT,Nat.reduceSub,VX,Nat.reduceEqDiff,Nat.reduceAdd]
 exact B2 _
theorem YN {a b:Rat} (hb:b≠0):mkRat (mH (decide (a.num<0) != decide (b.num<0)) (a.num.natAbs*b.den)) (a.den*b.num.natAbs)=a / b:=by
 have hn:b.num≠0:=fun h=>hb (aNw.1 h)
 have i1:b⁻¹.num=b.num.sign*b.den:=Rat.num_inv b
 have i2:b⁻¹.den=b.num.natAbs:=by rw[Rat.den_inv,if_neg hn]
 have hd:(0:Int)<b.den:=by have:=b.den_nz;omega
 have i3:b⁻¹.num.natAbs=b.den:=by
  rw[i1,aNf,Int.natAbs_natCast]
  rcases aNr hn with h1 | h1
  ·rw[aNI h1];simp
  ·rw[aNJ h1];simp
 have i4:decide (b⁻¹.num<0)=decide (b.num<0):=by
  rw[i1]
  rcases aNr hn with h1 | h1
  ·rw[aNI h1,decide_eq_true h1];simp;omega
  ·rw[aNJ h1,decide_eq_false (show ¬b.num<0 by omega)];simp
 rw[Rat.div_def,aNo,←Zp,i2,i3,i4]
theorem BF (a b:Rat) (hb:b≠0) (ME:aK a≤1099511627776) (IZ:aK b≤1099511627776):TC 81 [aM a,aM b] (aM (a / b)):=by
 refine TC.walk ⟨true,false⟩ P3 rfl (aMp rfl) (by simp[aO,pX]) (vN _) ?_
 have hn:b.num≠0:=fun h=>hb (aNw.1 h)
 have la:=uR ME
 have lb:=uR IZ
 have lda:=uM ME
 have ldb:=uM IZ
 have k1:=oD a.num.natAbs b.den
 have k3:=oD a.den b.num.natAbs
 have m1:=fP a.num.natAbs b.den (aLi (pN (by omega))) (aLi (pN (by omega)))
 have m3:=fP a.den b.num.natAbs (aLi (pN (by omega))) (aLi (pN (by omega)))
 have c1:=rM (decide (a.num<0) != decide (b.num<0)) (a.num.natAbs*b.den) (a.den*b.num.natAbs) (aNn a.den_nz (by omega)) (by omega) (by omega)
 rw[YN hb] at c1
 simp only[Jv,Fz,m1,m3,c1,Al,bU,cI,iG,jX,jV,gO,aS,bC,aY,fZ,Nat.reduceLeDiff,Nat.reduceLT,Nat.reduceSub,VX,Nat.reduceEqDiff,Nat.reduceAdd]
 exact B2 _
theorem rA (q:Rat):TC 59 [aM q] (VB (decide (q=0))):=by
 refine TC.walk ⟨true,false⟩ Po rfl (aMp rfl) (by simp[aO,pX]) rfl ?_
 by_cases h0:q=0
 ·have hl:(((aD 1000000000 q.num.natAbs).length:Nat):Int)=0:=by rw[h0];simp[cE]
  simp only[D5,BP,cQ,hl,bU,iG,jX,jV,aS,bC,aY,fZ,Nat.reduceLeDiff,Nat.reduceLT,Nat.reduceSub,VX,Nat.reduceEqDiff,Nat.reduceAdd]
  rw[decide_eq_true h0]
  exact aL rfl
 ·have hn:q.num≠0:=fun h=>h0 (aNw.1 h)
  have hl:¬(((aD 1000000000 q.num.natAbs).length:Nat):Int)=0:=by have := @tO q.num.natAbs;omega
  simp only[D5,BP,cQ,hl,bU,iG,jX,jV,aS,bC,aY,fZ,Nat.reduceLeDiff,Nat.reduceLT,Nat.reduceSub,VX,Nat.reduceEqDiff,Nat.reduceAdd]
  rw[decide_eq_false h0]
  exact aL rfl
end Go.PM
namespace Go.PM
open Go.Lib
theorem apP {m n:Nat} (h:decDigits m=decDigits n):m=n:=by
 have key:∀k m n:Nat,m<10^(k+1)→decDigits m=decDigits n→m=n:=by
  intro k
  induction k with
  |
   zero =>
   intro m n hm h
   rw[kD (by omega)] at h
   by_cases hn:n<10
   ·rw[kD hn] at h
    have h1:=aNK.1 h
    unfold d10 at h1
    have:=congrArg UInt8.toNat h1
    simp at this
    omega
   ·rw[B9 hn] at h
    have:=congrArg aNL h
    have h2:=aNz.2 (SX (n / 10))
    simp only[aKM,aKL,aMe] at this
    omega
  |
   succ k ih =>
   intro m n hm h
   by_cases h1:m<10
   ·rw[kD h1] at h
    by_cases hn:n<10
    ·rw[kD hn] at h
     have h1:=aNK.1 h
     unfold d10 at h1
     have:=congrArg UInt8.toNat h1
     simp at this
     omega
    ·rw[B9 hn] at h
     have:=congrArg aNL h
     have h2:=aNz.2 (SX (n / 10))
     simp only[aKM,aKL,aMe] at this
     omega
   ·rw[B9 h1] at h
    by_cases hn:n<10
    ·rw[kD hn] at h
     have:=congrArg aNL h
     have h2:=aNz.2 (SX (m / 10))
     simp only[aKM,aKL,aMe] at this
     omega
    ·rw[B9 hn] at h
     obtain⟨h2,h3⟩:=List.append_inj' h rfl
     have h4:=ih (m / 10) (n / 10) (by rw[Nat.pow_succ] at hm;omega) h2
     have h5:=aNK.1 h3
     unfold d10 at h5
     have:=congrArg UInt8.toNat h5
     simp at this
     omega
 exact key m m n (Nat.lt_trans (Nat.lt_pow_self (by decide)) (Nat.pow_lt_pow_right (by decide) (Nat.lt_succ_self m))) h
def Pq (q:Rat):List UInt8:=(if q.num<0 then [45] else [])++decDigits q.num.natAbs++(if q.den=1 then [] else 47::decDigits q.den)
def Dp (q:Rat):Bool:=decide ((decDigits q.num.natAbs).length≤200)&&decide ((decDigits q.den).length≤200)
theorem DK (n:Nat):(decDigits n).length≤bl n+1:=by
 by_cases h:n=0
 ·subst h;rw[kD (by decide)];simp
 ·have h1:=ajC h
  obtain⟨k,hk⟩:∃k,bl n=k+1:=⟨bl n-1,by omega⟩
  have h2:=HR n
  rw[hk] at h2 ⊢
  have h3:2^(k+1)≤10^(k+1):=Nat.pow_le_pow_left (by decide) _
  have:=Ev n k (by omega)
  omega
end Go.PM
namespace Go.PM
open Go.Lib
theorem TW (a b:List UInt8):dK .neq (.string ⟨a.toArray⟩) (.string ⟨b.toArray⟩)=some (.bool (!decide (a=b))):=by
 have h:∀l:List UInt8,(ByteArray.toList ⟨l.toArray⟩)=l:=fun l=>by rw[ByteArray.toList_eq]
 show some (Value.bool (!(ByteArray.toList ⟨a.toArray⟩ == ByteArray.toList ⟨b.toArray⟩)))=_
 rw[h,h]
 congr 3
 cases h2:a == b
 ·rw[decide_eq_false (by simpa using h2)]
 ·rw[decide_eq_true (by simpa using h2)]
theorem ZV (a b:List UInt8):dK .eql (.string ⟨a.toArray⟩) (.string ⟨b.toArray⟩)=some (.bool (decide (a=b))):=by
 have h:∀l:List UInt8,(ByteArray.toList ⟨l.toArray⟩)=l:=fun l=>by rw[ByteArray.toList_eq]
 show some (Value.bool (ByteArray.toList ⟨a.toArray⟩ == ByteArray.toList ⟨b.toArray⟩))=_
 rw[h,h]
 congr 2
 cases h2:a == b
 ·rw[decide_eq_false (by simpa using h2)]
 ·rw[decide_eq_true (by simpa using h2)]
theorem OX {n:Nat}:(decDigits n=[49])↔n=1:=by
 have e:decDigits 1=[49]:=by rw[kD (by decide)];rfl
 rw[←e]
 exact⟨apP,fun h=>by rw[h]⟩
theorem Ni (q:Rat) (hk:aK q≤1099511627776):TC 180 [aF q] (.eJ [bD (Pq q),VB (Dp q)]):=by
 refine TC.walk ⟨true,false⟩ Kk rfl (aMp rfl) (by simp[aO,eR]) rfl ?_
 have la:=uR hk
 have lb:=uM hk
 have t1:=EZ q.num.natAbs (aCh (by omega))
 have t2:=EZ q.den (aCh (by omega))
 have d1:=DK q.num.natAbs
 have d2:=DK q.den
 have a1:dK .add (.string ⟨#[45]⟩) (.string ⟨(decDigits q.num.natAbs).toArray⟩)=some (.string ⟨(45::decDigits q.num.natAbs).toArray⟩):=yX [45] _ (by simp only[aKL,aMe];omega)
 have a2:dK .add (.string ⟨#[47]⟩) (.string ⟨(decDigits q.den).toArray⟩)=some (.string ⟨(47::decDigits q.den).toArray⟩):=yX [47] (decDigits q.den) (by simp only[aKL,aMe];omega)
 have a3:=yX (45::decDigits q.num.natAbs) (47::decDigits q.den) (by simp only[aKL];omega)
 have a4:=yX (decDigits q.num.natAbs) (47::decDigits q.den) (by simp only[aKL];omega)
 have ne:dK .neq (.string ⟨(decDigits q.den).toArray⟩) (.string ⟨#[49]⟩)=_:=TW (decDigits q.den) [49]
 have hf:Dp q=(decide (((decDigits q.num.natAbs).length:Int)≤200)&&decide (((decDigits q.den).length:Int)≤200)):=by
  unfold Dp
  congr 1<;>exact decide_eq_decide.2 (by omega)
 rw[hf]
 have hs:Pq q=(if q.num<0 then (45::decDigits q.num.natAbs) else decDigits q.num.natAbs)++(if q.den=1 then [] else 47::decDigits q.den):=by
  unfold Pq
  by_cases hn:q.num<0
  ·rw[if_pos hn,if_pos hn];rfl
  ·rw[if_neg hn,if_neg hn];rfl
 rw[hs]
 by_cases hd:q.den=1
 ·rw[decide_eq_true (OX.2 hd)] at ne
  rw[if_pos hd,List.append_nil]
  by_cases hn:q.num<0<;>by_cases hl:((decDigits q.num.natAbs).length:Int)≤200
  all_goals
   simp only[Aj,xB,t1,t2,a1,a2,a3,a4,ne,hn,hl,bP,aH,bF,kZ,lB,nM,cF,aV,aW,aR,fZ,Nat.reduceLeDiff,Nat.reduceLT,Nat.reduceSub,VX,Nat.reduceEqDiff,Nat.reduceAdd]
   exact aL rfl
 ·rw[decide_eq_false (mt OX.1 hd)] at ne
  rw[if_neg hd]
  by_cases hn:q.num<0<;>by_cases hl:((decDigits q.num.natAbs).length:Int)≤200
  all_goals
   simp only[Aj,xB,t1,t2,a1,a2,a3,a4,ne,hn,hl,bP,aH,bF,kZ,lB,nM,cF,aV,aW,aR,fZ,Nat.reduceLeDiff,Nat.reduceLT,Nat.reduceSub,VX,Nat.reduceEqDiff,Nat.reduceAdd]
   exact aL rfl
def B3 (q:Rat):VV:=if Dp q=true then .eJ [bD (Pq q),VB true] else .eJ [bD [],VB false]
theorem G1 (q:Rat):hJ (B3 q)=true:=by unfold B3;split<;>rfl
theorem WA (q:Rat) (hk:aK q≤1099511627776):TC 137 [aF q] (B3 q):=by
 refine TC.walk ⟨true,false⟩ WU rfl (aMp rfl) (by simp[aO,eR]) (G1 q) ?_
 have t1:=Ni q hk
 unfold B3
 by_cases h:Dp q=true
 ·rw[h] at t1
  rw[if_pos h]
  simp only[K8,FK,t1,aH,bF,cF,aV,aW,aR,fZ,Nat.reduceLeDiff,Nat.reduceLT,Nat.reduceSub,VX,Nat.reduceEqDiff,Nat.reduceAdd]
  exact aL rfl
 ·have h':Dp q=false:=by simpa using h
  rw[h'] at t1
  rw[if_neg h]
  simp only[K8,FK,t1,aH,bF,cF,aV,aW,aR,fZ,Nat.reduceLeDiff,Nat.reduceLT,Nat.reduceSub,VX,Nat.reduceEqDiff,Nat.reduceAdd]
  exact aL rfl
end Go.PM